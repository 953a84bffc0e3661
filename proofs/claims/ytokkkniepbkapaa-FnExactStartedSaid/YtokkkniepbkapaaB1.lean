/- Contracts of the seat's functions: what each answers, for all arguments. -/
import Derived.Test.YtokkkniepbkapaaA3
import Derived.Test.YtokkkniepbkapaaA2
import Derived.Test.YtokkkniepbkapaaA1
import Derived.Test.YtokkkniepbkapaaProg
import Derived.KernelRfl
set_option linter.unusedVariables false
set_option linter.unusedSimpArgs false
set_option linter.deprecated false
section
/- The seat's types, for the abstract machine. -/
namespace Go.AE.Try
open Go.Proofs
def tyL : List (TypeId × TyD) := [
  (1, { size := 1, bytes := 8, agg := false, zero := [.dead] }),
  (2, { size := 1, bytes := 8, agg := false, zero := [.int .i64 0], ik := some .i64 }),
  (3, { size := 1, bytes := 8, agg := false, zero := [.int .i64 0], ik := some .i64 }),
  (4, { size := 1, bytes := 1, agg := false, zero := [.bool false] }),
  (5, { size := 1, bytes := 1, agg := false, zero := [.int .u8 0], ik := some .u8 }),
  (7, { size := 4, bytes := 24, agg := true, zero := [.int .i64 0, .int .i64 0, .bool false, .int .u8 0], fields := [(0, 1, 2), (1, 1, 3), (2, 1, 4), (3, 1, 6)] }),
  (9, { size := 1, bytes := 16, agg := false, zero := [.str ⟨#[]⟩], isStr := true }),
  (12, { size := 1, bytes := 8, agg := false, zero := [.int .u64 0], ik := some .u64 }),
  (13, { size := 2, bytes := 24, agg := true, zero := [.str ⟨#[]⟩, .int .u64 0], fields := [(0, 1, 9), (1, 1, 12)] }),
  (15, { size := 1, bytes := 8, agg := false, zero := [.dead] }),
  (16, { size := 1, bytes := 8, agg := false, zero := [.dead] }),
  (17, { size := 1, bytes := 8, agg := false, zero := [.dead] }),
  (18, { size := 1, bytes := 8, agg := true, zero := [.dead], fields := [(0, 1, 17)] }),
  (21, { size := 1, bytes := 4, agg := false, zero := [.int .i32 0], ik := some .i32 }),
  (22, { size := 1, bytes := 24, agg := false, zero := [.nil], elem := some 2 }),
  (23, { size := 1, bytes := 24, agg := false, zero := [.nil], elem := some 4 }),
  (24, { size := 2, bytes := 48, agg := true, zero := [.nil, .nil], fields := [(0, 1, 22), (1, 1, 23)] }),
  (25, { size := 2, bytes := 48, agg := true, zero := [.nil, .nil], fields := [(0, 1, 22), (1, 1, 23)] }),
  (26, { size := 1, bytes := 24, agg := false, zero := [.nil], elem := some 74 }),
  (27, { size := 3, bytes := 72, agg := true, zero := [.nil, .nil, .nil], fields := [(0, 2, 25), (2, 1, 26)] }),
  (28, { size := 3, bytes := 72, agg := true, zero := [.nil, .nil, .nil], fields := [(0, 2, 25), (2, 1, 26)] }),
  (29, { size := 1, bytes := 8, agg := false, zero := [.dead] }),
  (30, { size := 2, bytes := 48, agg := true, zero := [.nil, .nil], fields := [(0, 1, 22), (1, 1, 23)] }),
  (31, { size := 1, bytes := 24, agg := false, zero := [.nil], elem := some 37 }),
  (32, { size := 3, bytes := 72, agg := true, zero := [.nil, .nil, .nil], fields := [(0, 2, 30), (2, 1, 31)] }),
  (33, { size := 3, bytes := 72, agg := true, zero := [.nil, .nil, .nil], fields := [(0, 2, 30), (2, 1, 31)] }),
  (34, { size := 2, bytes := 16, agg := true, zero := [.int .i64 0, .int .i64 0], fields := [(0, 1, 2), (1, 1, 2)] }),
  (35, { size := 2, bytes := 16, agg := true, zero := [.int .i64 0, .int .i64 0], fields := [(0, 1, 2), (1, 1, 2)] }),
  (36, { size := 5, bytes := 40, agg := true, zero := [.int .i64 0, .int .i64 0, .int .i64 0, .int .i64 0, .bool false], fields := [(0, 2, 35), (2, 1, 2), (3, 1, 2), (4, 1, 4)] }),
  (37, { size := 5, bytes := 40, agg := true, zero := [.int .i64 0, .int .i64 0, .int .i64 0, .int .i64 0, .bool false], fields := [(0, 2, 35), (2, 1, 2), (3, 1, 2), (4, 1, 4)] }),
  (39, { size := 1, bytes := 8, agg := false, zero := [.dead] }),
  (40, { size := 1, bytes := 8, agg := false, zero := [.dead] }),
  (41, { size := 1, bytes := 8, agg := false, zero := [.dead] }),
  (42, { size := 1, bytes := 8, agg := false, zero := [.dead] }),
  (43, { size := 1, bytes := 8, agg := false, zero := [.dead] }),
  (44, { size := 1, bytes := 8, agg := false, zero := [.dead] }),
  (45, { size := 1, bytes := 8, agg := false, zero := [.dead] }),
  (46, { size := 1, bytes := 8, agg := false, zero := [.dead] }),
  (47, { size := 1, bytes := 8, agg := false, zero := [.dead] }),
  (48, { size := 1, bytes := 8, agg := false, zero := [.dead] }),
  (49, { size := 1, bytes := 8, agg := false, zero := [.dead] }),
  (50, { size := 1, bytes := 8, agg := false, zero := [.dead] }),
  (51, { size := 1, bytes := 8, agg := false, zero := [.dead] }),
  (52, { size := 1, bytes := 8, agg := false, zero := [.dead] }),
  (54, { size := 1, bytes := 8, agg := false, zero := [.dead] }),
  (55, { size := 1, bytes := 8, agg := false, zero := [.dead] }),
  (56, { size := 1, bytes := 8, agg := false, zero := [.dead] }),
  (57, { size := 1, bytes := 8, agg := false, zero := [.dead] }),
  (58, { size := 1, bytes := 8, agg := false, zero := [.dead] }),
  (59, { size := 1, bytes := 8, agg := false, zero := [.dead] }),
  (60, { size := 1, bytes := 8, agg := false, zero := [.dead] }),
  (61, { size := 1, bytes := 8, agg := false, zero := [.dead] }),
  (62, { size := 1, bytes := 8, agg := false, zero := [.dead] }),
  (63, { size := 1, bytes := 8, agg := false, zero := [.dead] }),
  (64, { size := 1, bytes := 8, agg := false, zero := [.dead] }),
  (65, { size := 1, bytes := 8, agg := false, zero := [.dead] }),
  (67, { size := 1, bytes := 8, agg := false, zero := [.dead] }),
  (68, { size := 1, bytes := 8, agg := false, zero := [.dead] }),
  (69, { size := 1, bytes := 8, agg := false, zero := [.dead] }),
  (70, { size := 1, bytes := 8, agg := false, zero := [.dead] }),
  (71, { size := 1, bytes := 8, agg := false, zero := [.dead] }),
  (72, { size := 2, bytes := 16, agg := true, zero := [.int .i64 0, .int .i64 0], fields := [(0, 1, 2), (1, 1, 2)] }),
  (73, { size := 5, bytes := 40, agg := true, zero := [.int .i64 0, .int .i64 0, .int .i64 0, .int .i64 0, .bool false], fields := [(0, 2, 72), (2, 1, 2), (3, 1, 2), (4, 1, 4)] }),
  (74, { size := 5, bytes := 40, agg := true, zero := [.int .i64 0, .int .i64 0, .int .i64 0, .int .i64 0, .bool false], fields := [(0, 2, 72), (2, 1, 2), (3, 1, 2), (4, 1, 4)] }),
  (75, { size := 1, bytes := 8, agg := false, zero := [.dead] }),
  (76, { size := 1, bytes := 8, agg := false, zero := [.dead] }),
  (77, { size := 1, bytes := 8, agg := false, zero := [.dead] }),
  (78, { size := 1, bytes := 8, agg := false, zero := [.dead] }),
  (79, { size := 1, bytes := 8, agg := false, zero := [.dead] }),
  (80, { size := 1, bytes := 8, agg := false, zero := [.dead] }),
  (81, { size := 1, bytes := 8, agg := false, zero := [.dead] }),
  (82, { size := 1, bytes := 8, agg := false, zero := [.dead] }),
  (83, { size := 1, bytes := 8, agg := false, zero := [.dead] }),
  (84, { size := 1, bytes := 8, agg := false, zero := [.dead] }),
  (85, { size := 1, bytes := 8, agg := false, zero := [.dead] }),
  (86, { size := 1, bytes := 8, agg := false, zero := [.dead] }),
  (87, { size := 1, bytes := 8, agg := false, zero := [.dead] }),
  (88, { size := 1, bytes := 8, agg := false, zero := [.dead] }),
  (89, { size := 1, bytes := 8, agg := false, zero := [.dead] }),
  (90, { size := 1, bytes := 8, agg := false, zero := [.dead] }),
  (91, { size := 1, bytes := 8, agg := false, zero := [.dead] }),
  (92, { size := 1, bytes := 8, agg := false, zero := [.dead] }),
  (93, { size := 1, bytes := 8, agg := false, zero := [.dead] }),
  (94, { size := 1, bytes := 8, agg := false, zero := [.dead] }),
  (95, { size := 1, bytes := 8, agg := false, zero := [.dead] }),
  (96, { size := 4, bytes := 40, agg := true, zero := [.dead, .dead, .dead, .str ⟨#[]⟩], fields := [(0, 1, 17), (1, 1, 17), (2, 1, 17), (3, 1, 9)] }),
  (99, { size := 0, bytes := 0, agg := true, zero := [], fields := [(0, 0, 98)] }),
  (101, { size := 1, bytes := 8, agg := false, zero := [.dead] }),
  (102, { size := 1, bytes := 4, agg := false, zero := [.int .u32 0], ik := some .u32 }),
  (105, { size := 1, bytes := 8, agg := false, zero := [.dead] }),
  (106, { size := 1, bytes := 8, agg := false, zero := [.dead] }),
  (109, { size := 11, bytes := 48, agg := true, zero := [.int .u64 0, .int .u64 0, .int .u32 0, .int .u8 0, .int .u8 0, .int .u8 0, .int .u8 0, .dead, .dead, .int .i32 0, .int .i32 0], fields := [(0, 1, 12), (1, 1, 12), (2, 1, 102), (3, 1, 103), (4, 1, 5), (5, 1, 5), (6, 1, 104), (7, 1, 105), (8, 1, 106), (9, 1, 107), (10, 1, 108)] }),
  (111, { size := 1, bytes := 8, agg := false, zero := [.dead] }),
  (112, { size := 1, bytes := 8, agg := false, zero := [.dead] })]
def tyT (t : TypeId) : Option TyD := (tyL.find? fun p => p.1 == t).map (·.2)
def lvs : TypeId → Option (List Lf)
  | 35 => some [.i .i64, .i .i64]
  | _ => none
def eqL (ls : Option (List Lf)) (xs ys : List AV) : Option Bool := match ls with | some ls => if xs.map lfOf = ls.map some ∧ ys.map lfOf = ls.map some then some (cellsEq xs ys) else none | none => none
def eqT : TypeId → AV → AV → Option Bool
  | 4, .bool a, .bool b => some (a == b)
  | t, .agg xs, .agg ys => eqL (lvs t) xs ys
  | _, _, _ => none
noncomputable def ctx0 : Ctx := { P := Go.Proofs.Try.prog, ty := tyT, eqA := fun _ _ _ => none }
noncomputable def ctx : Ctx := { P := Go.Proofs.Try.prog, ty := tyT, eqA := eqT }
theorem tys : ∀ t d, tyT t = some d → tyOk Go.Proofs.Try.prog t d = true := by
  have hall : (tyL.all fun p => tyOk Go.Proofs.Try.prog p.1 p.2) = true := by kernel_rfl
  intro t d h
  unfold tyT at h
  rw [Option.map_eq_some_iff] at h
  obtain ⟨p, h1, rfl⟩ := h
  have h2 := List.find?_some h1
  simp only [beq_iff_eq] at h2
  subst h2
  exact List.all_eq_true.1 hall p (List.mem_of_find?_eq_some h1)
theorem ok0 : ctx0.Ok where
  mix := by kernel_rfl
  tys := tys
  eqs := by intro t x y b h; cases h
@[simp] theorem ty1 : ctx.ty 1 = some { size := 1, bytes := 8, agg := false, zero := [.dead] } := by kernel_rfl
@[simp] theorem ty2 : ctx.ty 2 = some { size := 1, bytes := 8, agg := false, zero := [.int .i64 0], ik := some .i64 } := by kernel_rfl
@[simp] theorem ty3 : ctx.ty 3 = some { size := 1, bytes := 8, agg := false, zero := [.int .i64 0], ik := some .i64 } := by kernel_rfl
@[simp] theorem ty4 : ctx.ty 4 = some { size := 1, bytes := 1, agg := false, zero := [.bool false] } := by kernel_rfl
@[simp] theorem ty5 : ctx.ty 5 = some { size := 1, bytes := 1, agg := false, zero := [.int .u8 0], ik := some .u8 } := by kernel_rfl
@[simp] theorem ty7 : ctx.ty 7 = some { size := 4, bytes := 24, agg := true, zero := [.int .i64 0, .int .i64 0, .bool false, .int .u8 0], fields := [(0, 1, 2), (1, 1, 3), (2, 1, 4), (3, 1, 6)] } := by kernel_rfl
@[simp] theorem ty9 : ctx.ty 9 = some { size := 1, bytes := 16, agg := false, zero := [.str ⟨#[]⟩], isStr := true } := by kernel_rfl
@[simp] theorem ty12 : ctx.ty 12 = some { size := 1, bytes := 8, agg := false, zero := [.int .u64 0], ik := some .u64 } := by kernel_rfl
@[simp] theorem ty13 : ctx.ty 13 = some { size := 2, bytes := 24, agg := true, zero := [.str ⟨#[]⟩, .int .u64 0], fields := [(0, 1, 9), (1, 1, 12)] } := by kernel_rfl
@[simp] theorem ty15 : ctx.ty 15 = some { size := 1, bytes := 8, agg := false, zero := [.dead] } := by kernel_rfl
@[simp] theorem ty16 : ctx.ty 16 = some { size := 1, bytes := 8, agg := false, zero := [.dead] } := by kernel_rfl
@[simp] theorem ty17 : ctx.ty 17 = some { size := 1, bytes := 8, agg := false, zero := [.dead] } := by kernel_rfl
@[simp] theorem ty18 : ctx.ty 18 = some { size := 1, bytes := 8, agg := true, zero := [.dead], fields := [(0, 1, 17)] } := by kernel_rfl
@[simp] theorem ty21 : ctx.ty 21 = some { size := 1, bytes := 4, agg := false, zero := [.int .i32 0], ik := some .i32 } := by kernel_rfl
@[simp] theorem ty22 : ctx.ty 22 = some { size := 1, bytes := 24, agg := false, zero := [.nil], elem := some 2 } := by kernel_rfl
@[simp] theorem ty23 : ctx.ty 23 = some { size := 1, bytes := 24, agg := false, zero := [.nil], elem := some 4 } := by kernel_rfl
@[simp] theorem ty24 : ctx.ty 24 = some { size := 2, bytes := 48, agg := true, zero := [.nil, .nil], fields := [(0, 1, 22), (1, 1, 23)] } := by kernel_rfl
@[simp] theorem ty25 : ctx.ty 25 = some { size := 2, bytes := 48, agg := true, zero := [.nil, .nil], fields := [(0, 1, 22), (1, 1, 23)] } := by kernel_rfl
@[simp] theorem ty26 : ctx.ty 26 = some { size := 1, bytes := 24, agg := false, zero := [.nil], elem := some 74 } := by kernel_rfl
@[simp] theorem ty27 : ctx.ty 27 = some { size := 3, bytes := 72, agg := true, zero := [.nil, .nil, .nil], fields := [(0, 2, 25), (2, 1, 26)] } := by kernel_rfl
@[simp] theorem ty28 : ctx.ty 28 = some { size := 3, bytes := 72, agg := true, zero := [.nil, .nil, .nil], fields := [(0, 2, 25), (2, 1, 26)] } := by kernel_rfl
@[simp] theorem ty29 : ctx.ty 29 = some { size := 1, bytes := 8, agg := false, zero := [.dead] } := by kernel_rfl
@[simp] theorem ty30 : ctx.ty 30 = some { size := 2, bytes := 48, agg := true, zero := [.nil, .nil], fields := [(0, 1, 22), (1, 1, 23)] } := by kernel_rfl
@[simp] theorem ty31 : ctx.ty 31 = some { size := 1, bytes := 24, agg := false, zero := [.nil], elem := some 37 } := by kernel_rfl
@[simp] theorem ty32 : ctx.ty 32 = some { size := 3, bytes := 72, agg := true, zero := [.nil, .nil, .nil], fields := [(0, 2, 30), (2, 1, 31)] } := by kernel_rfl
@[simp] theorem ty33 : ctx.ty 33 = some { size := 3, bytes := 72, agg := true, zero := [.nil, .nil, .nil], fields := [(0, 2, 30), (2, 1, 31)] } := by kernel_rfl
@[simp] theorem ty34 : ctx.ty 34 = some { size := 2, bytes := 16, agg := true, zero := [.int .i64 0, .int .i64 0], fields := [(0, 1, 2), (1, 1, 2)] } := by kernel_rfl
@[simp] theorem ty35 : ctx.ty 35 = some { size := 2, bytes := 16, agg := true, zero := [.int .i64 0, .int .i64 0], fields := [(0, 1, 2), (1, 1, 2)] } := by kernel_rfl
@[simp] theorem ty36 : ctx.ty 36 = some { size := 5, bytes := 40, agg := true, zero := [.int .i64 0, .int .i64 0, .int .i64 0, .int .i64 0, .bool false], fields := [(0, 2, 35), (2, 1, 2), (3, 1, 2), (4, 1, 4)] } := by kernel_rfl
@[simp] theorem ty37 : ctx.ty 37 = some { size := 5, bytes := 40, agg := true, zero := [.int .i64 0, .int .i64 0, .int .i64 0, .int .i64 0, .bool false], fields := [(0, 2, 35), (2, 1, 2), (3, 1, 2), (4, 1, 4)] } := by kernel_rfl
@[simp] theorem ty39 : ctx.ty 39 = some { size := 1, bytes := 8, agg := false, zero := [.dead] } := by kernel_rfl
@[simp] theorem ty40 : ctx.ty 40 = some { size := 1, bytes := 8, agg := false, zero := [.dead] } := by kernel_rfl
@[simp] theorem ty41 : ctx.ty 41 = some { size := 1, bytes := 8, agg := false, zero := [.dead] } := by kernel_rfl
@[simp] theorem ty42 : ctx.ty 42 = some { size := 1, bytes := 8, agg := false, zero := [.dead] } := by kernel_rfl
@[simp] theorem ty43 : ctx.ty 43 = some { size := 1, bytes := 8, agg := false, zero := [.dead] } := by kernel_rfl
@[simp] theorem ty44 : ctx.ty 44 = some { size := 1, bytes := 8, agg := false, zero := [.dead] } := by kernel_rfl
@[simp] theorem ty45 : ctx.ty 45 = some { size := 1, bytes := 8, agg := false, zero := [.dead] } := by kernel_rfl
@[simp] theorem ty46 : ctx.ty 46 = some { size := 1, bytes := 8, agg := false, zero := [.dead] } := by kernel_rfl
@[simp] theorem ty47 : ctx.ty 47 = some { size := 1, bytes := 8, agg := false, zero := [.dead] } := by kernel_rfl
@[simp] theorem ty48 : ctx.ty 48 = some { size := 1, bytes := 8, agg := false, zero := [.dead] } := by kernel_rfl
@[simp] theorem ty49 : ctx.ty 49 = some { size := 1, bytes := 8, agg := false, zero := [.dead] } := by kernel_rfl
@[simp] theorem ty50 : ctx.ty 50 = some { size := 1, bytes := 8, agg := false, zero := [.dead] } := by kernel_rfl
@[simp] theorem ty51 : ctx.ty 51 = some { size := 1, bytes := 8, agg := false, zero := [.dead] } := by kernel_rfl
@[simp] theorem ty52 : ctx.ty 52 = some { size := 1, bytes := 8, agg := false, zero := [.dead] } := by kernel_rfl
@[simp] theorem ty54 : ctx.ty 54 = some { size := 1, bytes := 8, agg := false, zero := [.dead] } := by kernel_rfl
@[simp] theorem ty55 : ctx.ty 55 = some { size := 1, bytes := 8, agg := false, zero := [.dead] } := by kernel_rfl
@[simp] theorem ty56 : ctx.ty 56 = some { size := 1, bytes := 8, agg := false, zero := [.dead] } := by kernel_rfl
@[simp] theorem ty57 : ctx.ty 57 = some { size := 1, bytes := 8, agg := false, zero := [.dead] } := by kernel_rfl
@[simp] theorem ty58 : ctx.ty 58 = some { size := 1, bytes := 8, agg := false, zero := [.dead] } := by kernel_rfl
@[simp] theorem ty59 : ctx.ty 59 = some { size := 1, bytes := 8, agg := false, zero := [.dead] } := by kernel_rfl
@[simp] theorem ty60 : ctx.ty 60 = some { size := 1, bytes := 8, agg := false, zero := [.dead] } := by kernel_rfl
@[simp] theorem ty61 : ctx.ty 61 = some { size := 1, bytes := 8, agg := false, zero := [.dead] } := by kernel_rfl
@[simp] theorem ty62 : ctx.ty 62 = some { size := 1, bytes := 8, agg := false, zero := [.dead] } := by kernel_rfl
@[simp] theorem ty63 : ctx.ty 63 = some { size := 1, bytes := 8, agg := false, zero := [.dead] } := by kernel_rfl
@[simp] theorem ty64 : ctx.ty 64 = some { size := 1, bytes := 8, agg := false, zero := [.dead] } := by kernel_rfl
@[simp] theorem ty65 : ctx.ty 65 = some { size := 1, bytes := 8, agg := false, zero := [.dead] } := by kernel_rfl
@[simp] theorem ty67 : ctx.ty 67 = some { size := 1, bytes := 8, agg := false, zero := [.dead] } := by kernel_rfl
@[simp] theorem ty68 : ctx.ty 68 = some { size := 1, bytes := 8, agg := false, zero := [.dead] } := by kernel_rfl
@[simp] theorem ty69 : ctx.ty 69 = some { size := 1, bytes := 8, agg := false, zero := [.dead] } := by kernel_rfl
@[simp] theorem ty70 : ctx.ty 70 = some { size := 1, bytes := 8, agg := false, zero := [.dead] } := by kernel_rfl
@[simp] theorem ty71 : ctx.ty 71 = some { size := 1, bytes := 8, agg := false, zero := [.dead] } := by kernel_rfl
@[simp] theorem ty72 : ctx.ty 72 = some { size := 2, bytes := 16, agg := true, zero := [.int .i64 0, .int .i64 0], fields := [(0, 1, 2), (1, 1, 2)] } := by kernel_rfl
@[simp] theorem ty73 : ctx.ty 73 = some { size := 5, bytes := 40, agg := true, zero := [.int .i64 0, .int .i64 0, .int .i64 0, .int .i64 0, .bool false], fields := [(0, 2, 72), (2, 1, 2), (3, 1, 2), (4, 1, 4)] } := by kernel_rfl
@[simp] theorem ty74 : ctx.ty 74 = some { size := 5, bytes := 40, agg := true, zero := [.int .i64 0, .int .i64 0, .int .i64 0, .int .i64 0, .bool false], fields := [(0, 2, 72), (2, 1, 2), (3, 1, 2), (4, 1, 4)] } := by kernel_rfl
@[simp] theorem ty75 : ctx.ty 75 = some { size := 1, bytes := 8, agg := false, zero := [.dead] } := by kernel_rfl
@[simp] theorem ty76 : ctx.ty 76 = some { size := 1, bytes := 8, agg := false, zero := [.dead] } := by kernel_rfl
@[simp] theorem ty77 : ctx.ty 77 = some { size := 1, bytes := 8, agg := false, zero := [.dead] } := by kernel_rfl
@[simp] theorem ty78 : ctx.ty 78 = some { size := 1, bytes := 8, agg := false, zero := [.dead] } := by kernel_rfl
@[simp] theorem ty79 : ctx.ty 79 = some { size := 1, bytes := 8, agg := false, zero := [.dead] } := by kernel_rfl
@[simp] theorem ty80 : ctx.ty 80 = some { size := 1, bytes := 8, agg := false, zero := [.dead] } := by kernel_rfl
@[simp] theorem ty81 : ctx.ty 81 = some { size := 1, bytes := 8, agg := false, zero := [.dead] } := by kernel_rfl
@[simp] theorem ty82 : ctx.ty 82 = some { size := 1, bytes := 8, agg := false, zero := [.dead] } := by kernel_rfl
@[simp] theorem ty83 : ctx.ty 83 = some { size := 1, bytes := 8, agg := false, zero := [.dead] } := by kernel_rfl
@[simp] theorem ty84 : ctx.ty 84 = some { size := 1, bytes := 8, agg := false, zero := [.dead] } := by kernel_rfl
@[simp] theorem ty85 : ctx.ty 85 = some { size := 1, bytes := 8, agg := false, zero := [.dead] } := by kernel_rfl
@[simp] theorem ty86 : ctx.ty 86 = some { size := 1, bytes := 8, agg := false, zero := [.dead] } := by kernel_rfl
@[simp] theorem ty87 : ctx.ty 87 = some { size := 1, bytes := 8, agg := false, zero := [.dead] } := by kernel_rfl
@[simp] theorem ty88 : ctx.ty 88 = some { size := 1, bytes := 8, agg := false, zero := [.dead] } := by kernel_rfl
@[simp] theorem ty89 : ctx.ty 89 = some { size := 1, bytes := 8, agg := false, zero := [.dead] } := by kernel_rfl
@[simp] theorem ty90 : ctx.ty 90 = some { size := 1, bytes := 8, agg := false, zero := [.dead] } := by kernel_rfl
@[simp] theorem ty91 : ctx.ty 91 = some { size := 1, bytes := 8, agg := false, zero := [.dead] } := by kernel_rfl
@[simp] theorem ty92 : ctx.ty 92 = some { size := 1, bytes := 8, agg := false, zero := [.dead] } := by kernel_rfl
@[simp] theorem ty93 : ctx.ty 93 = some { size := 1, bytes := 8, agg := false, zero := [.dead] } := by kernel_rfl
@[simp] theorem ty94 : ctx.ty 94 = some { size := 1, bytes := 8, agg := false, zero := [.dead] } := by kernel_rfl
@[simp] theorem ty95 : ctx.ty 95 = some { size := 1, bytes := 8, agg := false, zero := [.dead] } := by kernel_rfl
@[simp] theorem ty96 : ctx.ty 96 = some { size := 4, bytes := 40, agg := true, zero := [.dead, .dead, .dead, .str ⟨#[]⟩], fields := [(0, 1, 17), (1, 1, 17), (2, 1, 17), (3, 1, 9)] } := by kernel_rfl
@[simp] theorem ty99 : ctx.ty 99 = some { size := 0, bytes := 0, agg := true, zero := [], fields := [(0, 0, 98)] } := by kernel_rfl
@[simp] theorem ty101 : ctx.ty 101 = some { size := 1, bytes := 8, agg := false, zero := [.dead] } := by kernel_rfl
@[simp] theorem ty102 : ctx.ty 102 = some { size := 1, bytes := 4, agg := false, zero := [.int .u32 0], ik := some .u32 } := by kernel_rfl
@[simp] theorem ty105 : ctx.ty 105 = some { size := 1, bytes := 8, agg := false, zero := [.dead] } := by kernel_rfl
@[simp] theorem ty106 : ctx.ty 106 = some { size := 1, bytes := 8, agg := false, zero := [.dead] } := by kernel_rfl
@[simp] theorem ty109 : ctx.ty 109 = some { size := 11, bytes := 48, agg := true, zero := [.int .u64 0, .int .u64 0, .int .u32 0, .int .u8 0, .int .u8 0, .int .u8 0, .int .u8 0, .dead, .dead, .int .i32 0, .int .i32 0], fields := [(0, 1, 12), (1, 1, 12), (2, 1, 102), (3, 1, 103), (4, 1, 5), (5, 1, 5), (6, 1, 104), (7, 1, 105), (8, 1, 106), (9, 1, 107), (10, 1, 108)] } := by kernel_rfl
@[simp] theorem ty111 : ctx.ty 111 = some { size := 1, bytes := 8, agg := false, zero := [.dead] } := by kernel_rfl
@[simp] theorem ty112 : ctx.ty 112 = some { size := 1, bytes := 8, agg := false, zero := [.dead] } := by kernel_rfl
@[simp] theorem el22 : elemOf ctx 22 = some { size := 1, bytes := 8, agg := false, zero := [.int .i64 0], ik := some .i64 } := by kernel_rfl
@[simp] theorem el23 : elemOf ctx 23 = some { size := 1, bytes := 1, agg := false, zero := [.bool false] } := by kernel_rfl
@[simp] theorem el26 : elemOf ctx 26 = some { size := 5, bytes := 40, agg := true, zero := [.int .i64 0, .int .i64 0, .int .i64 0, .int .i64 0, .bool false], fields := [(0, 2, 72), (2, 1, 2), (3, 1, 2), (4, 1, 4)] } := by kernel_rfl
@[simp] theorem el31 : elemOf ctx 31 = some { size := 5, bytes := 40, agg := true, zero := [.int .i64 0, .int .i64 0, .int .i64 0, .int .i64 0, .bool false], fields := [(0, 2, 35), (2, 1, 2), (3, 1, 2), (4, 1, 4)] } := by kernel_rfl
@[simp] theorem eq4 (a b) : ctx.eqA 4 (.bool a) (.bool b) = some (a == b) := rfl
@[simp] theorem eq35 (xs ys) : ctx.eqA 35 (.agg xs) (.agg ys) = eqL (some [.i .i64, .i .i64]) xs ys := rfl
@[simp] theorem eqL_some (ls xs ys) : eqL (some ls) xs ys = if xs.map lfOf = ls.map some ∧ ys.map lfOf = ls.map some then some (cellsEq xs ys) else none := rfl
theorem okC : ctx.Ok where
  mix := by kernel_rfl
  tys := tys
  eqs := by
    intro t x y b h
    change eqT t x y = some b at h
    unfold eqT at h
    split at h
    · cases h; exact eq_bool (by kernel_rfl)
    · rename_i xs ys _
      unfold lvs at h
      split at h
      · rw [eqL_some] at h
        split at h
        · rename_i hk
          cases h; exact eq_struct ok0 (by kernel_rfl) (by kernel_rfl) (by kernel_rfl) hk.1 hk.2
        · cases h
      · cases h
    · cases h
end Go.AE.Try
end

section
/- Contracts of the smallest functions. -/
set_option maxRecDepth 8000
set_option maxHeartbeats 2000000
namespace Go.AE.Try
open Go.Proofs
open List (map_take map_drop map_tail)

theorem wrap_pred {n : Nat} (h : n ≤ LIM) : IntKind.i64.wrap ((n : Int) - 1) = (n : Int) - 1 := by
  simp only [LIM] at h
  rw [i64_ok (by omega)]
theorem wrap_succ {i n : Nat} (h : i < n) (hn : n ≤ LIM) : IntKind.i64.wrap ((i : Int) + 1) = ((i + 1 : Nat) : Int) := by
  simp only [LIM] at hn
  rw [i64_ok (by omega)]; omega
theorem c_within {x lo hi : Int} : PC ctx.P 56 [.int .i64 x, .int .i64 lo, .int .i64 hi] (.bool (inR x lo hi)) := by
  refine PC.o okC Try.func56 rfl (.bool _) fun h nx hnx => ?_
  try simp [-map_take, -map_drop, -map_tail, rgs, inR]
  repeat' first | done | ((first | (with_reducible refine guardS_split ?_ ?_)) <;> intro qb <;> (have qp := qb; try simp only [psq] at qp) <;> simp [-map_take, -map_drop, -map_tail, rgs, inR, qb])
end Go.AE.Try
end

section
/- Contracts of the program's copies of rows as new rows. -/
set_option maxRecDepth 8000
set_option maxHeartbeats 2000000
namespace Go.AE.Try
open Go.Proofs






theorem f_cloneAfterS {p : Bool} {xs : List Afr} (hl : xs.length ≤ MLIM) : FC ctx.P 47 [.view p 5 (xs.map afrC)] (.ref 0 5 0 (xs.map afrC).length) [.row 5 (xs.map afrC)] := by
  refine FC.o1 okC Try.func47 rfl (fz_mapR afrC_fz xs) fun h nx hnx => ?_
  simp
  refine nil_eq (rows := xs.map afrC) rfl rfl rfl (.inl ⟨_, _, rfl⟩) fun b hb => ?_
  simp [nextS]
  refine condS_split ?_ ?_ <;> intro hb2 <;> simp [resultsA, resA]
  · exact fin1_nil (by simp) (by simp; omega) (hb hb2)
  · refine app_end rfl rfl (by decide) (by decide) (by simp; rfl) (by simp; rfl) (by simp) (by simpa using hl) (by simp [afrC, hanC]) ?_
    simp [resultsA, resA]
    exact fin1_ref (by simp [Nat.add_assoc]) (by simp; omega) (by omega) (by simp) rfl (by simp)



theorem f_cloneInt64S {p : Bool} {xs : List Int} (hl : xs.length ≤ MLIM) : FC ctx.P 63 [.view p 1 (xs.map iv)] (.ref 0 1 0 (xs.map iv).length) [.row 1 (xs.map iv)] := by
  refine FC.o1 okC Try.func63 rfl (fz_mapR iv_fz xs) fun h nx hnx => ?_
  simp
  refine nil_eq (rows := xs.map iv) rfl rfl rfl (.inl ⟨_, _, rfl⟩) fun b hb => ?_
  simp [nextS]
  refine condS_split ?_ ?_ <;> intro hb2 <;> simp [resultsA, resA]
  · exact fin1_nil (by simp) (by simp; omega) (hb hb2)
  · refine app_end rfl rfl (by decide) (by decide) (by simp; rfl) (by simp; rfl) (by simp) (by simpa using hl) (by simp [iv, hanC]) ?_
    simp [resultsA, resA]
    exact fin1_ref (by simp [Nat.add_assoc]) (by simp; omega) (by omega) (by simp) rfl (by simp)

theorem f_cloneBoolS {p : Bool} {xs : List Bool} (hl : xs.length ≤ MLIM) : FC ctx.P 64 [.view p 1 (xs.map bv)] (.ref 0 1 0 (xs.map bv).length) [.row 1 (xs.map bv)] := by
  refine FC.o1 okC Try.func64 rfl (fz_mapR bv_fz xs) fun h nx hnx => ?_
  simp
  refine nil_eq (rows := xs.map bv) rfl rfl rfl (.inl ⟨_, _, rfl⟩) fun b hb => ?_
  simp [nextS]
  refine condS_split ?_ ?_ <;> intro hb2 <;> simp [resultsA, resA]
  · exact fin1_nil (by simp) (by simp; omega) (hb hb2)
  · refine app_end rfl rfl (by decide) (by decide) (by simp; rfl) (by simp; rfl) (by simp) (by simpa using hl) (by simp [bv, hanC]) ?_
    simp [resultsA, resA]
    exact fin1_ref (by simp [Nat.add_assoc]) (by simp; omega) (by omega) (by simp) rfl (by simp)

end Go.AE.Try
end

section
/- Contracts of the program's copies of a world's parts as new rows. -/
set_option maxRecDepth 8000
set_option maxHeartbeats 2000000
namespace Go.AE.Try
open Go.Proofs
open List (map_take map_drop map_tail)

theorem f_cloneSlots {F : Nat → Bool} {s : Slt} (h1 : s.ages.length ≤ MLIM) (h2 : s.used.length ≤ MLIM) : FC ctx.P 46 [.agg (sltV F s)] (.agg [.ref 0 1 0 s.ages.length, .ref 1 1 0 s.used.length]) [.row 1 (s.ages.map iv), .row 1 (s.used.map bv)] := by
  refine FC.o okC Try.func46 rfl ((.one _ (.agg _ fun c hc => by simp at hc; rcases hc with rfl | rfl <;> first | exact .ref _ _ _ _ (by simp) | exact .fz _ (.int _ _)))) ((fun e he => by simp at he; rcases he with rfl | rfl <;> first | exact fz_mapR iv_fz _ | exact fz_mapR bv_fz _ | exact fz_mapR twgC_fz _ | exact fz_mapR tmrC_fz _ | exact fz_mapR afrC_fz _)) fun h nx hnx => ?_
  try simp [-map_take, -map_drop, -map_tail, rgs, sltV]
  repeat' first | done | ((first | ((with_reducible show doCall _ _ _ 63 _ _); refine call_fc (f_cloneInt64S h1) ?_) | ((with_reducible show doCall _ _ _ 64 _ _); refine call_fc (f_cloneBoolS h2) ?_) | (with_reducible refine go_draw (i := 1) [(0, [], []), (1, [], []), (3, [], []), (4, [], []), (2, [.tmp 6], []), (5, [], []), (6, [], []), (7, [], [])] (by kernel_rfl) ?_)) <;> simp [-map_take, -map_drop, -map_tail, rgs, sltV])
  exact finF2 (i := nx + 10) (j := nx + 11) keepA (by omega) (by omega) (by omega) (by simp) (by simp) (by simp)



theorem f_cloneAfters {F : Nat → Bool} {s : Afs} (h1 : s.slots.ages.length ≤ MLIM) (h2 : s.slots.used.length ≤ MLIM) (h3 : s.list.length ≤ MLIM) : FC ctx.P 20 [.agg (afsV F s)] (.agg [.ref 0 1 0 s.slots.ages.length, .ref 1 1 0 s.slots.used.length, .ref 2 5 0 s.list.length]) [.row 1 (s.slots.ages.map iv), .row 1 (s.slots.used.map bv), .row 5 (s.list.map afrC)] := by
  refine FC.o okC Try.func20 rfl ((.one _ (.agg _ fun c hc => by simp at hc; rcases hc with rfl | rfl | rfl <;> first | exact .ref _ _ _ _ (by simp) | exact .fz _ (.int _ _)))) ((fun e he => by simp at he; rcases he with rfl | rfl | rfl <;> first | exact fz_mapR iv_fz _ | exact fz_mapR bv_fz _ | exact fz_mapR twgC_fz _ | exact fz_mapR tmrC_fz _ | exact fz_mapR afrC_fz _)) fun h nx hnx => ?_
  try simp [-map_take, -map_drop, -map_tail, rgs, afsV, sltV]
  repeat' first | done | ((first | ((with_reducible show doCall _ _ _ 46 _ _); refine call_fc (f_cloneSlots (s := s.slots) (F := F) h1 h2) ?_) | ((with_reducible show doCall _ _ _ 47 _ _); refine call_fc (f_cloneAfterS h3) ?_) | (with_reducible refine go_draw (i := 1) [(0, [], []), (1, [], []), (3, [], []), (4, [], []), (2, [.tmp 6], []), (5, [], []), (6, [], []), (7, [], [])] (by kernel_rfl) ?_)) <;> simp [-map_take, -map_drop, -map_tail, rgs, afsV, sltV])
  exact finF3 (i := nx + 10) (j := nx + 11) (l := nx + 12) keepA (by omega) (by omega) (by omega) (by omega) (by omega) (by omega) (by simp) (by simp) (by simp) (by simp)


end Go.AE.Try
end

section
/- Contracts of the program's copies of worlds as new rows. -/
set_option maxRecDepth 8000
set_option maxHeartbeats 4000000
namespace Go.AE.Try
open Go.Proofs
end Go.AE.Try
end

section
/- Contracts of what is generic. -/
set_option maxRecDepth 8000
set_option maxHeartbeats 2000000
namespace Go.AE.Try
open Go.Proofs
open List (map_take map_drop map_tail)


























theorem c_size_After {p : Bool} {xs : List Afr} : PC ctx.P 41 [.view p 5 (xs.map afrC)] (.int .i64 xs.length) := by
  refine PC.o okC Try.func41 rfl (.int _ _) fun h nx hnx => ?_
  try simp [-map_take, -map_drop, -map_tail, rgs]
  repeat' first | done | ((first | ((with_reducible show lenS _ _ _ _ _ _); refine lenS_slice rfl fun _ => ?_)) <;> simp [-map_take, -map_drop, -map_tail, rgs])


theorem c_IndexFunc_After {p : Bool} {xs : List Afr} {q : Afr → Bool} {fv : AV} (hq : ∀ x ∈ xs, FV ctx.P fv [.agg (afrC x)] (.bool (q x))) :
    PC ctx.P 61 [.view p 5 (xs.map afrC), fv] (.int .i64 (idxI q xs 0)) := by
  refine PC.lim (n := xs.length) (x := .view p 5 (xs.map afrC)) (by simp) (.here (by simp)) ⟨_, Try.func61, by kernel_rfl, by kernel_rfl⟩ fun hlim => ?_
  refine PC.o okC Try.func61 rfl (.int _ _) fun h nx hnx => ?_
  try simp [-map_take, -map_drop, -map_tail, rgs]
  repeat' first | done | ((first | ((with_reducible show lenS _ _ _ _ _ _); refine lenS_slice rfl fun _ => ?_) | ((with_reducible show iaddrS _ _ _ _ _ _ _); refine iaddr_map rfl omA omA ?_)) <;> simp [-map_take, -map_drop, -map_tail, rgs]) | ((first | (with_reducible refine condS_split ?_ ?_)) <;> intro qb <;> (have qp := qb; try simp only [psq] at qp) <;> simp [-map_take, -map_drop, -map_tail, rgs, qb])
  refine go_upP [4, 5, 8, 9, 10, 11, 12, 13, 14, 15, 16, 17, 18] (xs.length) (fun (i : Nat) a => [(8, .int .i64 i)]) (fun i_ a_ h_ _ => (fun i (_ : Unit) _ => idxI q (xs.drop i) i = idxI q xs 0) i_ a_ h_) (()) (by simp) ?_ keep_rfl (Nat.le_refl _) ?_
  · simp
  · intro i a tm h' n' hle hJ hE hn' next hnx
    try dsimp only at hJ
    have hK : KeepB nx h' h := KeepB.sub hE keepA (by omega)
    simp [-map_take, -map_drop, -map_tail]
    try simp [-map_take, -map_drop, -map_tail, rgs, afrC]
    repeat' first | done | ((first | ((with_reducible show lenS _ _ _ _ _ _); refine lenS_slice rfl fun _ => ?_) | ((with_reducible show iaddrS _ _ _ _ _ _ _); refine iaddr_map rfl omA omA ?_) | (refine call_fv (hq _ (gt_mem (by omega) (by omega))) ?_)) <;> simp [-map_take, -map_drop, -map_tail, rgs, afrC]) | ((first | (with_reducible refine condS_split ?_ ?_)) <;> intro qb <;> (have qp := qb; try simp only [psq] at qp) <;> simp [-map_take, -map_drop, -map_tail, rgs, afrC, qb])
    all_goals
      first
      | (have hlt : i < xs.length := (by first | omega | (simp at *; omega))
         rw [drop_gt hlt] at hJ
         first
         | (refine hnx.go (()) ?_ ?_ ?_ ?_ ?_ ?_; omega; (simp [wrap_succ hlt hlim]); (simp); exact keepA; (first | omega | (simp; omega)); (try dsimp only); clear hnx; first | ((try simp only [List.drop_length, Int.toNat_natCast, idxI] at hJ ⊢); grind) | (simp_all [idxI]; done) | (simp_all; omega))
         | (refine ⟨?_, keepA⟩; clear hnx; first | ((try simp only [List.drop_length, Int.toNat_natCast, idxI] at hJ ⊢); grind) | (simp_all [idxI]; done) | (simp_all; omega)))
      | (obtain rfl : i = xs.length := (by first | omega | (simp at *; omega))
         refine ⟨?_, keepA⟩; clear hnx; first | ((try simp only [List.drop_length, Int.toNat_natCast, idxI] at hJ ⊢); grind) | (simp_all [idxI]; done) | (simp_all; omega))


















theorem c_size_int64 {p : Bool} {xs : List Int} : PC ctx.P 57 [.view p 1 (xs.map iv)] (.int .i64 xs.length) := by
  refine PC.o okC Try.func57 rfl (.int _ _) fun h nx hnx => ?_
  try simp [-map_take, -map_drop, -map_tail, rgs]
  repeat' first | done | ((first | ((with_reducible show lenS _ _ _ _ _ _); refine lenS_slice rfl fun _ => ?_)) <;> simp [-map_take, -map_drop, -map_tail, rgs])

theorem c_isIn_int64 {p : Bool} {n : Int} {xs : List Int} : PC ctx.P 60 [.int .i64 n, .view p 1 (xs.map iv)] (.bool (isIn n xs)) := by
  refine PC.lim (n := xs.length) (x := .view p 1 (xs.map iv)) (by simp) (.here (by simp)) ⟨_, Try.func60, by kernel_rfl, by kernel_rfl⟩ fun hlim => ?_
  refine PC.o okC Try.func60 rfl (.bool _) fun h nx hnx => ?_
  try simp [-map_take, -map_drop, -map_tail, rgs, wrap_pred hlim, isIn]
  repeat' first | done | ((first | ((with_reducible show doCall _ _ _ 57 _ _); refine call_pc (c_size_int64) ?_) | ((with_reducible show doCall _ _ _ 56 _ _); refine call_pc (c_within) ?_)) <;> simp [-map_take, -map_drop, -map_tail, rgs, wrap_pred hlim, isIn])

theorem c_IndexFunc_int64 {p : Bool} {xs : List Int} {q : Int → Bool} {fv : AV} (hq : ∀ x ∈ xs, FV ctx.P fv [.int .i64 x] (.bool (q x))) :
    PC ctx.P 67 [.view p 1 (xs.map iv), fv] (.int .i64 (idxI q xs 0)) := by
  refine PC.lim (n := xs.length) (x := .view p 1 (xs.map iv)) (by simp) (.here (by simp)) ⟨_, Try.func67, by kernel_rfl, by kernel_rfl⟩ fun hlim => ?_
  refine PC.o okC Try.func67 rfl (.int _ _) fun h nx hnx => ?_
  try simp [-map_take, -map_drop, -map_tail, rgs]
  repeat' first | done | ((first | ((with_reducible show lenS _ _ _ _ _ _); refine lenS_slice rfl fun _ => ?_) | ((with_reducible show iaddrS _ _ _ _ _ _ _); refine iaddr_map rfl omA omA ?_)) <;> simp [-map_take, -map_drop, -map_tail, rgs]) | ((first | (with_reducible refine condS_split ?_ ?_)) <;> intro qb <;> (have qp := qb; try simp only [psq] at qp) <;> simp [-map_take, -map_drop, -map_tail, rgs, qb])
  refine go_upP [4, 5, 8, 9, 10, 11, 12, 13, 14, 15, 16, 17, 18] (xs.length) (fun (i : Nat) a => [(8, .int .i64 i)]) (fun i_ a_ h_ _ => (fun i (_ : Unit) _ => idxI q (xs.drop i) i = idxI q xs 0) i_ a_ h_) (()) (by simp) ?_ keep_rfl (Nat.le_refl _) ?_
  · simp
  · intro i a tm h' n' hle hJ hE hn' next hnx
    try dsimp only at hJ
    have hK : KeepB nx h' h := KeepB.sub hE keepA (by omega)
    simp [-map_take, -map_drop, -map_tail]
    try simp [-map_take, -map_drop, -map_tail, rgs, iv]
    repeat' first | done | ((first | ((with_reducible show lenS _ _ _ _ _ _); refine lenS_slice rfl fun _ => ?_) | ((with_reducible show iaddrS _ _ _ _ _ _ _); refine iaddr_map rfl omA omA ?_) | (refine call_fv (hq _ (gt_mem (by omega) (by omega))) ?_)) <;> simp [-map_take, -map_drop, -map_tail, rgs, iv]) | ((first | (with_reducible refine condS_split ?_ ?_)) <;> intro qb <;> (have qp := qb; try simp only [psq] at qp) <;> simp [-map_take, -map_drop, -map_tail, rgs, iv, qb])
    all_goals
      first
      | (have hlt : i < xs.length := (by first | omega | (simp at *; omega))
         rw [drop_gt hlt] at hJ
         first
         | (refine hnx.go (()) ?_ ?_ ?_ ?_ ?_ ?_; omega; (simp [wrap_succ hlt hlim]); (simp); exact keepA; (first | omega | (simp; omega)); (try dsimp only); clear hnx; first | ((try simp only [List.drop_length, Int.toNat_natCast, idxI] at hJ ⊢); grind) | (simp_all [idxI]; done) | (simp_all; omega))
         | (refine ⟨?_, keepA⟩; clear hnx; first | ((try simp only [List.drop_length, Int.toNat_natCast, idxI] at hJ ⊢); grind) | (simp_all [idxI]; done) | (simp_all; omega)))
      | (obtain rfl : i = xs.length := (by first | omega | (simp at *; omega))
         refine ⟨?_, keepA⟩; clear hnx; first | ((try simp only [List.drop_length, Int.toNat_natCast, idxI] at hJ ⊢); grind) | (simp_all [idxI]; done) | (simp_all; omega))

theorem c_ContainsFunc_int64 {p : Bool} {xs : List Int} {q : Int → Bool} {fv : AV} (hq : ∀ x ∈ xs, FV ctx.P fv [.int .i64 x] (.bool (q x))) :
    PC ctx.P 58 [.view p 1 (xs.map iv), fv] (.bool (xs.any q)) := by
  refine PC.o okC Try.func58 rfl (.bool _) fun h nx hnx => ?_
  try simp [-map_take, -map_drop, -map_tail, rgs, idxI_any q xs 0 (Int.le_refl 0)]
  repeat' first | done | ((first | ((with_reducible show doCall _ _ _ 67 _ _); refine call_pc (c_IndexFunc_int64 hq) ?_)) <;> simp [-map_take, -map_drop, -map_tail, rgs, idxI_any q xs 0 (Int.le_refl 0)])

















end Go.AE.Try
end

section
/- Contracts of the program's readers: slots, times, heaps, timers. -/
set_option maxRecDepth 8000
set_option maxHeartbeats 2000000
namespace Go.AE.Try
open Go.Proofs
open List (map_take map_drop map_tail)

theorem c_SlotsOk1 {x : Int} : PC ctx.P 59 [.int .i64 x] (.bool (!inR x 0 1000000)) := by
  refine PC.o okC Try.func59 rfl (.bool _) fun h nx hnx => ?_
  try simp [-map_take, -map_drop, -map_tail, rgs]
  repeat' first | done | ((first | ((with_reducible show doCall _ _ _ 56 _ _); refine call_pc (c_within) ?_)) <;> simp [-map_take, -map_drop, -map_tail, rgs])
theorem c_SlotsOk {F : Nat → Bool} {s : Slt} : PC ctx.P 40 [.agg (sltV F s)] (.bool (sltOk s)) := by
  refine PC.o okC Try.func40 rfl (.bool _) fun h nx hnx => ?_
  try simp [-map_take, -map_drop, -map_tail, rgs, sltV, sltOk]
  repeat' first | done | ((first | ((with_reducible show lenS _ _ _ _ _ _); refine lenS_slice rfl fun _ => ?_) | ((with_reducible show doCall _ _ _ 57 _ _); refine call_pc (c_size_int64) ?_) | ((with_reducible show doCall _ _ _ 56 _ _); refine call_pc (c_within) ?_) | ((with_reducible show doCall _ _ _ 58 _ _); refine call_pc (c_ContainsFunc_int64 (q := fun a => !inR a 0 1000000) (fun x _ => c_SlotsOk1)) ?_)) <;> simp [-map_take, -map_drop, -map_tail, rgs, sltV, sltOk]) | ((first | (with_reducible refine guardS_split ?_ ?_)) <;> intro qb <;> (have qp := qb; try simp only [psq] at qp) <;> simp [-map_take, -map_drop, -map_tail, rgs, sltV, sltOk, qb])

theorem c_used {F : Nat → Bool} {s : Slt} : PC ctx.P 42 [.agg (sltV F s)] (.int .i64 (cntB id s.used)) := by
  refine PC.lim (n := s.used.length) (x := .agg (sltV F s)) (by simp) (.agg (x := .view (F 9) 1 (s.used.map bv)) (by simp [sltV]) (.here (by simp))) ⟨_, Try.func42, by kernel_rfl, by kernel_rfl⟩ fun hlim => ?_
  refine PC.o okC Try.func42 rfl (.int _ _) fun h nx hnx => ?_
  try simp [-map_take, -map_drop, -map_tail, rgs, sltV]
  repeat' first | done | ((first | ((with_reducible show lenS _ _ _ _ _ _); refine lenS_slice rfl fun _ => ?_) | ((with_reducible show iaddrS _ _ _ _ _ _ _); refine iaddr_map rfl omA omA ?_)) <;> simp [-map_take, -map_drop, -map_tail, rgs, sltV]) | ((first | (with_reducible refine condS_split ?_ ?_)) <;> intro qb <;> (have qp := qb; try simp only [psq] at qp) <;> simp [-map_take, -map_drop, -map_tail, rgs, sltV, qb])
  refine go_upP [3, 5, 9, 10, 11, 12, 13, 14, 15, 16] (s.used.length) (fun (i : Nat) a => [(9, .int .i64 i), (3, .int .i64 a)]) (fun i_ a_ h_ _ => (fun i (a : Int) _ => a + cntB id (s.used.drop i) = cntB id s.used ∧ 0 ≤ a ∧ a ≤ i) i_ a_ h_) (0) (by simp) ?_ keep_rfl (Nat.le_refl _) ?_
  · simp
  · intro i a tm h' n' hle hJ hE hn' next hnx
    try dsimp only at hJ
    have hK : KeepB nx h' h := KeepB.sub hE keepA (by omega)
    simp [-map_take, -map_drop, -map_tail]
    try simp [-map_take, -map_drop, -map_tail, rgs, bv]
    repeat' first | done | ((first | ((with_reducible show lenS _ _ _ _ _ _); refine lenS_slice rfl fun _ => ?_) | ((with_reducible show iaddrS _ _ _ _ _ _ _); refine iaddr_map rfl omA omA ?_)) <;> simp [-map_take, -map_drop, -map_tail, rgs, bv]) | ((first | (with_reducible refine condS_split ?_ ?_)) <;> intro qb <;> (have qp := qb; try simp only [psq] at qp) <;> simp [-map_take, -map_drop, -map_tail, rgs, bv, qb])
    · rw [drop_gt (by omega)] at hJ
      refine hnx.go (a + 1) (by omega) (by simp [wrap_succ (i := i) (n := s.used.length) (by omega) hlim, i64_ok (x := a + 1) (by simp only [LIM] at hlim; omega)]) (by simp) keepA (by first | omega | (simp; omega)) ?_
      try dsimp only
      simp [cntB, qb] at hJ ⊢
      omega
    · rw [drop_gt (by omega)] at hJ
      refine hnx.go (a) (by omega) (by simp [wrap_succ (i := i) (n := s.used.length) (by omega) hlim]) (by simp) keepA (by first | omega | (simp; omega)) ?_
      try dsimp only
      simp [cntB, qb] at hJ ⊢
      omega
    · refine ⟨?_, by simp [hK]⟩
      rw [List.drop_eq_nil_of_le (by omega)] at hJ
      simp [cntB] at hJ ⊢
      omega

theorem c_holds {F : Nat → Bool} {s : Slt} {x : Han} (hl : s.used.length = s.ages.length) : PC ctx.P 44 [.agg (sltV F s), .agg (hanC x)] (.bool (sltHolds s x)) := by
  refine PC.o okC Try.func44 rfl (.bool _) fun h nx hnx => ?_
  try simp [-map_take, -map_drop, -map_tail, rgs, sltV, hanC, iv, bv, sltHolds]
  repeat' first | done | ((first | ((with_reducible show iaddrS _ _ _ _ _ _ _); refine iaddr_map rfl omA omA ?_) | ((with_reducible show doCall _ _ _ 60 _ _); refine call_pc (c_isIn_int64) ?_) | (with_reducible refine go_draw (i := 1) [(0, [], []), (1, [], []), (2, [], []), (3, [], []), (4, [], []), (5, [], []), (6, [], []), (7, [], []), (8, [], []), (9, [], []), (10, [], []), (11, [], []), (12, [], []), (13, [], []), (14, [], []), (15, [], []), (16, [], []), (17, [], []), (18, [], []), (19, [], []), (20, [], []), (21, [], []), (22, [], []), (23, [], []), (24, [], [])] (by kernel_rfl) ?_)) <;> simp [-map_take, -map_drop, -map_tail, rgs, sltV, hanC, iv, bv, sltHolds]) | ((first | (with_reducible refine guardD_split ?_ ?_)) <;> intro qb <;> (have qp := qb; try simp only [psq] at qp) <;> simp [-map_take, -map_drop, -map_tail, rgs, sltV, hanC, iv, bv, sltHolds, qb])

end Go.AE.Try
end

section
/- Contracts of the program's readers: heaps, timers, trees. -/
set_option maxRecDepth 8000
set_option maxHeartbeats 2000000
namespace Go.AE.Try
open Go.Proofs

end Go.AE.Try
end

section
/- Contracts of the program's readers: tasks, groups, worlds. -/
set_option maxRecDepth 8000
set_option maxHeartbeats 2000000
namespace Go.AE.Try
open Go.Proofs
open List (map_take map_drop map_tail)

theorem c_isAfter {a b : Int} : PC ctx.P 43 [.int .i64 a, .int .i64 b] (.bool (isAfter a b)) := by
  refine PC.o okC Try.func43 rfl (.bool _) fun h nx hnx => ?_
  try simp [-map_take, -map_drop, -map_tail, rgs]
  repeat' first | done | ((first | ((with_reducible show doCall _ _ _ 56 _ _); refine call_pc (c_within) ?_)) <;> simp [-map_take, -map_drop, -map_tail, rgs]) | ((first | (with_reducible refine guardS_split ?_ ?_)) <;> intro qb <;> (have qp := qb; try simp only [psq] at qp) <;> simp [-map_take, -map_drop, -map_tail, rgs, qb])
  all_goals (try clear hnx)
  all_goals first | (simp_all [isAfter]; done) | (simp_all [isAfter]; omega) | (rw [Bool.eq_iff_iff]; simp_all [isAfter]; done) | (rw [Bool.eq_iff_iff]; simp_all [isAfter]; omega) | omega | (simp only [isAfter]; grind) | grind
theorem c_afsAt1 {x : Afr} {h : Han} : PC ctx.P 62 [.agg (afrC x), .vptr (hanC h)] (.bool (x.han == h)) := by
  refine PC.o okC Try.func62 rfl (.bool _) fun h nx hnx => ?_
  try simp [-map_take, -map_drop, -map_tail, rgs, afrC, hanC, han_eq, lfOf, cellsEq, cellEq]
theorem c_afsAt {F : Nat → Bool} {a : Afs} {x : Han} : PC ctx.P 45 [.agg (afsV F a), .agg (hanC x)] (.int .i64 (afsAt a.list x)) := by
  refine PC.o okC Try.func45 rfl (.int _ _) fun h nx hnx => ?_
  try simp [-map_take, -map_drop, -map_tail, rgs, afsV, afsAt]
  repeat' first | done | ((first | ((with_reducible show doCall _ _ _ 61 _ _); refine call_pcB (c_IndexFunc_After (q := fun y => y.han == x) (fv := .fn 62 [.vptr (hanC x)]) (fun x _ => c_afsAt1)) (by first | exact .bool _ | exact .int _ _ | exact .str _) (by repeat' first | exact Bors.nil | refine Bors.cons ?_ ?_ | exact Bor.same _ | refine Bor.fn1 ?_ | refine Bor.bnd1 ?_ | refine Bor.agg1 ?_ | refine Bor.ptr0 (by first | (simp; done) | (simp; rfl) | assumption | (simp [*]; done)) ?_ | refine Bor.ref0 (by first | (simp; done) | (simp; rfl) | (simp [iv, bv]; done)) (by simp) (by simp)) ?_)) <;> simp [-map_take, -map_drop, -map_tail, rgs, afsV, afsAt])
end Go.AE.Try
end

section
/- Contracts of the program's readers: timers, chains, events. -/
set_option maxRecDepth 8000
set_option maxHeartbeats 2000000
namespace Go.AE.Try
open Go.Proofs

end Go.AE.Try
end

section
/- Contracts of the program's readers: events, worlds. -/
set_option maxRecDepth 8000
set_option maxHeartbeats 2000000
namespace Go.AE.Try
open Go.Proofs
open List (map_take map_drop map_tail)

theorem c_AftersOk {F : Nat → Bool} {x : Afs} : PC ctx.P 19 [.agg (afsV F x)] (.bool (afsOk x)) := by
  refine PC.lim (n := x.list.length) (x := .agg (afsV F x)) (by simp) (.agg (x := .view (F 10) 5 (x.list.map afrC)) (by simp [afsV]) (.here (by simp))) ⟨_, Try.func19, by kernel_rfl, by kernel_rfl⟩ fun hlim => ?_
  by_cases hs : sltOk x.slots = true
  · have hl : x.slots.used.length = x.slots.ages.length := by simp [sltOk] at hs; omega
    refine PC.o okC Try.func19 rfl (.bool _) fun h nx hnx => ?_
    try simp [-map_take, -map_drop, -map_tail, rgs, afsV, hs]
    repeat' first | done | ((first | ((with_reducible show lenS _ _ _ _ _ _); refine lenS_slice rfl fun _ => ?_) | ((with_reducible show iaddrS _ _ _ _ _ _ _); refine iaddr_map rfl omA omA ?_) | ((with_reducible show doCall _ _ _ 40 _ _); refine call_pc (c_SlotsOk (s := x.slots) (F := F)) ?_) | ((with_reducible show doCall _ _ _ 41 _ _); refine call_pc (c_size_After) ?_) | ((with_reducible show doCall _ _ _ 42 _ _); refine call_pc (c_used (s := x.slots) (F := F)) ?_) | (with_reducible refine go_draw (i := 1) [(0, [], []), (1, [], []), (2, [], []), (3, [], []), (4, [], []), (5, [], []), (6, [], []), (8, [], []), (9, [], []), (7, [.tmp 13], []), (10, [], []), (11, [], []), (12, [], [])] (by kernel_rfl) ?_)) <;> simp [-map_take, -map_drop, -map_tail, rgs, afsV, hs]) | ((first | (with_reducible refine guardD_split ?_ ?_) | (with_reducible refine guardS_split ?_ ?_) | (with_reducible refine condS_split ?_ ?_)) <;> intro qb <;> (have qp := qb; try simp only [psq] at qp) <;> simp [-map_take, -map_drop, -map_tail, rgs, afsV, hs, qb])
    · simp only [afsOk]; grind
    · refine go_upP [2, 3, 4, 21, 22, 23, 24, 25, 26, 27, 28, 29, 30, 31, 32, 33, 34, 35, 36, 37, 38, 39, 40, 41, 42, 43, 44, 45, 46, 47, 48] (x.list.length) (fun (i : Nat) a => [(21, .int .i64 i)]) (fun i_ a_ h_ _ => (fun i (_ : Unit) _ => allI (fun i y => isAfter y.node y.fn && (sltHolds x.slots y.han && afsAt x.list y.han == i)) (x.list.drop i) i = allI (fun i y => isAfter y.node y.fn && (sltHolds x.slots y.han && afsAt x.list y.han == i)) x.list 0) i_ a_ h_) (()) (by simp) ?_ keep_rfl (Nat.le_refl _) ?_
      · simp
      · intro i a tm h' n' hle hJ hE hn' next hnx
        try dsimp only at hJ
        have hK : KeepB nx h' h := KeepB.sub hE keepA (by omega)
        simp [-map_take, -map_drop, -map_tail]
        have e1 : h' (nx) = some (.obj (afsV F x)) := by have := hE (nx) (by omega); simpa [afsV] using this
        have e1n : ∀ k, ((nx) = n' + k) = False := fun k => by simp only [eq_iff_iff, iff_false]; omega
        have e1m : ((nx) = n') = False := by simp only [eq_iff_iff, iff_false]; omega
        try simp [-map_take, -map_drop, -map_tail, rgs, afsV, afrC, e1, e1n, e1m]
        repeat' first | done | ((first | ((with_reducible show lenS _ _ _ _ _ _); refine lenS_slice rfl fun _ => ?_) | ((with_reducible show iaddrS _ _ _ _ _ _ _); refine iaddr_map rfl omA omA ?_) | ((with_reducible show doCall _ _ _ 43 _ _); refine call_pc (c_isAfter) ?_) | ((with_reducible show doCall _ _ _ 44 _ _); refine call_pc (c_holds (s := x.slots) (F := F) (x := (gt x.list (i : Int)).han) hl) ?_) | ((with_reducible show doCall _ _ _ 45 _ _); refine call_pc (c_afsAt (a := x) (F := F) (x := (gt x.list (i : Int)).han)) ?_) | (with_reducible refine go_draw (i := 1) [(0, [], []), (1, [], []), (2, [], []), (3, [], []), (4, [], []), (5, [], []), (6, [], []), (8, [], []), (9, [], []), (7, [.tmp 13], []), (10, [], []), (11, [], []), (12, [], [])] (by kernel_rfl) ?_)) <;> simp [-map_take, -map_drop, -map_tail, rgs, afsV, afrC, e1, e1n, e1m]) | ((first | (with_reducible refine guardD_split ?_ ?_) | (with_reducible refine guardS_split ?_ ?_) | (with_reducible refine condS_split ?_ ?_)) <;> intro qb <;> (have qp := qb; try simp only [psq] at qp) <;> simp [-map_take, -map_drop, -map_tail, rgs, afsV, afrC, e1, e1n, e1m, qb])
        all_goals
          first
          | (have hlt : i < x.list.length := (by first | omega | (simp at *; omega))
             rw [drop_gt hlt] at hJ
             first
             | (refine hnx.go (()) ?_ ?_ ?_ ?_ ?_ ?_; omega; (simp [wrap_succ hlt hlim]); (simp); exact keepA; (first | omega | (simp; omega)); (try dsimp only); clear hnx; first | ((try simp only [List.drop_length, Int.toNat_natCast, allI, afsOk] at hJ ⊢); grind) | (simp_all [allI, afsOk]; done) | (simp_all; omega))
             | (refine ⟨?_, keepA⟩; clear hnx; first | ((try simp only [List.drop_length, Int.toNat_natCast, allI, afsOk] at hJ ⊢); grind) | (simp_all [allI, afsOk]; done) | (simp_all; omega)))
          | (obtain rfl : i = x.list.length := (by first | omega | (simp at *; omega))
             refine ⟨?_, keepA⟩; clear hnx; first | ((try simp only [List.drop_length, Int.toNat_natCast, allI, afsOk] at hJ ⊢); grind) | (simp_all [allI, afsOk]; done) | (simp_all; omega))
  · refine PC.o okC Try.func19 rfl (.bool _) fun h nx hnx => ?_
    try simp [-map_take, -map_drop, -map_tail, rgs, afsV, hs]
    repeat' first | done | ((first | ((with_reducible show lenS _ _ _ _ _ _); refine lenS_slice rfl fun _ => ?_) | ((with_reducible show iaddrS _ _ _ _ _ _ _); refine iaddr_map rfl omA omA ?_) | ((with_reducible show doCall _ _ _ 40 _ _); refine call_pc (c_SlotsOk (s := x.slots) (F := F)) ?_) | (with_reducible refine go_draw (i := 1) [(0, [], []), (1, [], []), (2, [], []), (3, [], []), (4, [], []), (5, [], []), (6, [], []), (8, [], []), (9, [], []), (7, [.tmp 13], []), (10, [], []), (11, [], []), (12, [], [])] (by kernel_rfl) ?_)) <;> simp [-map_take, -map_drop, -map_tail, rgs, afsV, hs]) | ((first | (with_reducible refine guardD_split ?_ ?_) | (with_reducible refine guardS_split ?_ ?_) | (with_reducible refine condS_split ?_ ?_)) <;> intro qb <;> (have qp := qb; try simp only [psq] at qp) <;> simp [-map_take, -map_drop, -map_tail, rgs, afsV, hs, qb])
    all_goals (try clear hnx)
    all_goals first | (simp_all [afsOk]; done) | (simp_all [afsOk]; omega) | (rw [Bool.eq_iff_iff]; simp_all [afsOk]; done) | (rw [Bool.eq_iff_iff]; simp_all [afsOk]; omega) | omega | (simp only [afsOk]; grind) | grind
end Go.AE.Try
end

section
/- Contracts of the program's readers: worlds. -/
set_option maxRecDepth 8000
set_option maxHeartbeats 4000000
namespace Go.AE.Try
open Go.Proofs

end Go.AE.Try
end

section
/- Contracts of the program's requests: what is asked of a world, and what it makes of a copy. -/
set_option maxRecDepth 8000
set_option maxHeartbeats 4000000
namespace Go.AE.Try
open Go.Proofs
theorem wldV_len (F : Nat → Bool) (w : Wld) : (wldV F w).length = 17 := rfl
theorem wldV_take (F : Nat → Bool) (w : Wld) : (wldV F w).take 17 = wldV F w := rfl
end Go.AE.Try
end

section
/- Contracts of the program's changes of functions that are registered. -/
set_option maxRecDepth 8000
set_option maxHeartbeats 4000000
namespace Go.AE.Try
open Go.Proofs
open List (map_take map_drop map_tail)
theorem m_drop {ia ib : Nat} {s : Slt} {x : Han} (hab : ia ≠ ib) (hsl : s.used.length = s.ages.length) (hr : canDrop s x = true → 0 ≤ x.age ∧ x.age < 1000000) : AC ctx.P 65 [.agg [.ref ia 1 0 s.ages.length, .ref ib 1 0 s.used.length], .agg (hanC x)]
    (fun h _ => h ia = some (.row 1 (s.ages.map iv)) ∧ h ib = some (.row 1 (s.used.map bv)))
    (fun h nx r h' nx' => r = .bool (canDrop s x) ∧ h' ia = some (.row 1 ((dropIf s x).ages.map iv)) ∧ h' ib = some (.row 1 ((dropIf s x).used.map bv)) ∧ ∀ j, j < nx → j ≠ ia → j ≠ ib → h' j = h j) := by
  refine AC.o okC Try.func65 rfl fun h nx hfr hnx hpre => ?_
  obtain ⟨p1, p2⟩ := hpre
  have i1 : ia < nx := hnx ia (by rw [p1]; simp)
  have i2 : ib < nx := hnx ib (by rw [p2]; simp)
  have k1 : ∀ k, (ia = nx + k) = False := fun k => by simp only [eq_iff_iff, iff_false]; omega
  have k2 : ∀ k, (ib = nx + k) = False := fun k => by simp only [eq_iff_iff, iff_false]; omega
  have k3 : (ia = nx) = False := by simp only [eq_iff_iff, iff_false]; omega
  have k4 : (ib = nx) = False := by simp only [eq_iff_iff, iff_false]; omega
  have k5 : ∀ k, (nx + k = ia) = False := fun k => by simp only [eq_iff_iff, iff_false]; omega
  have k6 : ∀ k, (nx + k = ib) = False := fun k => by simp only [eq_iff_iff, iff_false]; omega
  have k7 : (nx = ia) = False := by simp only [eq_iff_iff, iff_false]; omega
  have k8 : (nx = ib) = False := by simp only [eq_iff_iff, iff_false]; omega
  try simp [-map_take, -map_drop, -map_tail, rgs, hanC]
  repeat' first | done | ((first | ((with_reducible show iaddrS _ _ _ _ _ _ _); refine iaddr_map rfl omA omA ?_)) <;> simp [-map_take, -map_drop, -map_tail, rgs, hanC]) | ((first | (with_reducible refine guardS_split ?_ ?_) | (with_reducible refine condS_split ?_ ?_)) <;> intro qb <;> (have qp := qb; try simp only [psq] at qp) <;> simp [-map_take, -map_drop, -map_tail, rgs, hanC, qb])
  refine call_pcB (c_holds (F := FF) (s := s) (x := x) hsl) (.bool _) ?hb ?_
  case hb => exact .cons (.agg1 (.cons (.ref0 (by dsimp only; (repeat rw [upd_ne _ _ _ _ (by omega)]); exact p1) (by simp) (by simp)) (.cons (.ref0 (by dsimp only; (repeat rw [upd_ne _ _ _ _ (by omega)]); exact p2) (by simp) (by simp)) .nil))) (.cons (.same _) .nil)
  by_cases hh : sltHolds s x = true
  · by_cases ha : x.age = 1000000
    · have e1 : canDrop s x = false := by simp [canDrop, ha]
      have e2 : dropIf s x = s := by simp [dropIf, e1]
      try simp [-map_take, -map_drop, -map_tail, rgs, hanC, hh, ha, k1, k2, k3, k4, k5, k6, k7, k8]
      repeat' first | done | ((first | ((with_reducible show iaddrS _ _ _ _ _ _ _); refine iaddr_map rfl omA omA ?_)) <;> simp [-map_take, -map_drop, -map_tail, rgs, hanC, hh, ha, k1, k2, k3, k4, k5, k6, k7, k8]) | ((first | (with_reducible refine guardS_split ?_ ?_) | (with_reducible refine condS_split ?_ ?_)) <;> intro qb <;> (have qp := qb; try simp only [psq] at qp) <;> simp [-map_take, -map_drop, -map_tail, rgs, hanC, hh, ha, k1, k2, k3, k4, k5, k6, k7, k8, qb])
      rw [e1, e2]
      exact ⟨rfl, p1, p2, fun j hj _ _ => by rw [if_neg (by omega), if_neg (by omega)]⟩
    · have e1 : canDrop s x = true := by simp [canDrop, hh, ha]
      obtain ⟨r1, r2⟩ := hr e1
      have hsl2 : 0 ≤ x.slot ∧ x.slot < s.ages.length := by
        simp only [sltHolds, Bool.and_eq_true, isIn, inR, decide_eq_true_eq] at hh; omega
      have ew : IntKind.i64.wrap (x.age + 1) = x.age + 1 := i64_ok (by omega)
      have ha2 : (x.age == 1000000) = false := by simpa using ha
      have n1 : x.slot.toNat < s.ages.length := by omega
      have e2 : dropIf s x = dropS s x := by simp [dropIf, e1]
      have hg : s.ages[x.slot.toNat]? = some x.age := by
        simp only [sltHolds, Bool.and_eq_true, beq_iff_eq] at hh
        rw [← hh.2.2, ← gt_some hsl2.1 hsl2.2]
      have hbi : ib ≠ ia := fun e => hab e.symm
      try simp [-map_take, -map_drop, -map_tail, rgs, iv, bv, hanC, hh, ha, ha2, p1, p2, ew, k1, k2, k3, k4, k5, k6, k7, k8, hab, hbi]
      repeat' first | done | ((first | ((with_reducible show iaddrS _ _ _ _ _ _ _); refine iaddr_map rfl omA omA ?_) | (((with_reducible show iaddrS _ _ _ _ (.ref _ _ _ _) _ _); refine iaddr_ref rfl (by omega) (by omega) ?_))) <;> simp [-map_take, -map_drop, -map_tail, rgs, iv, bv, hanC, hh, ha, ha2, p1, p2, ew, k1, k2, k3, k4, k5, k6, k7, k8, hab, hbi]) | ((first | (with_reducible refine guardS_split ?_ ?_) | (with_reducible refine condS_split ?_ ?_)) <;> intro qb <;> (have qp := qb; try simp only [psq] at qp) <;> simp [-map_take, -map_drop, -map_tail, rgs, iv, bv, hanC, hh, ha, ha2, p1, p2, ew, k1, k2, k3, k4, k5, k6, k7, k8, hab, hbi, qb])
      refine storeE_put (sz := 1) (xs := s.used.map bv) (cells := bv (gt s.used x.slot)) (by simp [k1, k2, k3, k4, k5, k6, k7, k8, hab, hbi, p2]) rfl rfl rfl (by rw [List.getElem?_map, gt_some hsl2.1 (by omega)]; rfl) rfl ?_
      try simp [-map_take, -map_drop, -map_tail, rgs, iv, bv, hanC, hh, ha, ha2, p1, p2, ew, k1, k2, k3, k4, k5, k6, k7, k8, hab, hbi]
      repeat' first | done | ((first | ((with_reducible show iaddrS _ _ _ _ _ _ _); refine iaddr_map rfl omA omA ?_) | (((with_reducible show iaddrS _ _ _ _ (.ref _ _ _ _) _ _); refine iaddr_ref rfl (by omega) (by omega) ?_)) | (((with_reducible show loadE _ _ _ _ _ _ _ _); refine loadE_row (cells := iv x.age) (by rw [List.getElem?_map, hg]; rfl) ?_))) <;> simp [-map_take, -map_drop, -map_tail, rgs, iv, bv, hanC, hh, ha, ha2, p1, p2, ew, k1, k2, k3, k4, k5, k6, k7, k8, hab, hbi]) | ((first | (with_reducible refine guardS_split ?_ ?_) | (with_reducible refine condS_split ?_ ?_)) <;> intro qb <;> (have qp := qb; try simp only [psq] at qp) <;> simp [-map_take, -map_drop, -map_tail, rgs, iv, bv, hanC, hh, ha, ha2, p1, p2, ew, k1, k2, k3, k4, k5, k6, k7, k8, hab, hbi, qb])
      refine storeE_put (sz := 1) (xs := s.ages.map iv) (cells := iv x.age) (by simp [k1, k2, k3, k4, k5, k6, k7, k8, hab, hbi, p1]) rfl rfl rfl (by rw [List.getElem?_map, hg]; rfl) rfl ?_
      try simp [-map_take, -map_drop, -map_tail, rgs, iv, bv, hanC, hh, ha, ha2, p1, p2, ew, k1, k2, k3, k4, k5, k6, k7, k8, hab, hbi]
      repeat' first | done | ((first | ((with_reducible show iaddrS _ _ _ _ _ _ _); refine iaddr_map rfl omA omA ?_)) <;> simp [-map_take, -map_drop, -map_tail, rgs, iv, bv, hanC, hh, ha, ha2, p1, p2, ew, k1, k2, k3, k4, k5, k6, k7, k8, hab, hbi]) | ((first | (with_reducible refine guardS_split ?_ ?_) | (with_reducible refine condS_split ?_ ?_)) <;> intro qb <;> (have qp := qb; try simp only [psq] at qp) <;> simp [-map_take, -map_drop, -map_tail, rgs, iv, bv, hanC, hh, ha, ha2, p1, p2, ew, k1, k2, k3, k4, k5, k6, k7, k8, hab, hbi, qb])
      rw [e1, e2]
      refine ⟨rfl, ?_, ?_, fun j hj h1 h2 => ?_⟩
      · simp [dropS, iv, List.map_set]
      · simp [dropS, bv, List.map_set]
      · rw [if_neg h1, if_neg h2, if_neg (by omega), if_neg (by omega)]
  · have e1 : canDrop s x = false := by simp [canDrop, hh]
    have e2 : dropIf s x = s := by simp [dropIf, e1]
    try simp [-map_take, -map_drop, -map_tail, rgs, hanC, hh, k1, k2, k3, k4, k5, k6, k7, k8]
    repeat' first | done | ((first | ((with_reducible show iaddrS _ _ _ _ _ _ _); refine iaddr_map rfl omA omA ?_)) <;> simp [-map_take, -map_drop, -map_tail, rgs, hanC, hh, k1, k2, k3, k4, k5, k6, k7, k8]) | ((first | (with_reducible refine guardS_split ?_ ?_) | (with_reducible refine condS_split ?_ ?_)) <;> intro qb <;> (have qp := qb; try simp only [psq] at qp) <;> simp [-map_take, -map_drop, -map_tail, rgs, hanC, hh, k1, k2, k3, k4, k5, k6, k7, k8, qb])
    rw [e1, e2]
    exact ⟨rfl, p1, p2, fun j hj _ _ => by rw [if_neg (by omega), if_neg (by omega)]⟩
theorem m_DeleteAfr {id i : Nat} {xs : List Afr} (hi : i < xs.length) (hl : xs.length ≤ 1048576) : AC ctx.P 66 [.ref id 5 0 xs.length, .int .i64 i, .int .i64 ((i : Int) + 1)]
    (fun h _ => h id = some (.row 5 (xs.map afrC)))
    (fun h nx r h' nx' => ∃ jd, r = .ref jd 5 0 (xs.eraseIdx i).length ∧ nx ≤ jd ∧ jd < nx' ∧ h' jd = some (.row 5 ((xs.eraseIdx i).map afrC)) ∧ ∀ j, j < nx → j ≠ id → h' j = h j) := by
  refine AC.o okC Try.func66 rfl fun h nx hfr hnx hpre => ?_
  have i1 : id < nx := hnx id (by rw [hpre]; simp)
  try simp [-map_take, -map_drop, -map_tail, rgs, hpre]
  repeat' first | done | ((first | ((with_reducible show lenS _ _ _ _ _ _); refine lenS_slice rfl fun _ => ?_) | ((with_reducible show sliceS _ _ _ _ _ _ _ _); refine slice_to rfl omA omA ?_) | ((with_reducible show sliceS _ _ _ _ _ _ _ _); refine slice_from rfl omA omA ?_) | ((with_reducible show sliceS _ _ _ _ _ _ _ _); refine slice_mid rfl omA omA omA ?_) | ((with_reducible show sliceI _ _ _ _ _ _ _ _ _ _ _); refine sliceI_to rfl omA omA ?_) | ((with_reducible show sliceI _ _ _ _ _ _ _ _ _ _ _); refine sliceI_from rfl omA omA ?_) | ((with_reducible show sliceI _ _ _ _ _ _ _ _ _ _ _); refine sliceI_mid rfl omA omA omA ?_) | ((with_reducible show appS _ _ _ _ _ _ _ _); refine app_end rfl rfl (by decide) (by decide) (by first | (simp [-map_take, -map_drop, -map_tail, rgs, hpre]; done) | (simp [-map_take, -map_drop, -map_tail, rgs, hpre]; rfl)) (by first | (simp [-map_take, -map_drop, -map_tail, rgs, hpre]; done) | (simp [-map_take, -map_drop, -map_tail, rgs, hpre]; rfl)) (by first | (simp; done) | (simp; omega)) (by first | (simp only [MLIM, LIM] at *; simp; omega) | (simp only [MLIM]; simp; omega)) (by simp [iv, bv]) ?_) | (with_reducible refine go_draw (i := 5) [(0, [], []), (1, [], []), (2, [], []), (3, [], []), (4, [], []), (5, [], []), (6, [], []), (7, [], [])] (by kernel_rfl) ?_)) <;> simp [-map_take, -map_drop, -map_tail, rgs, hpre]) | ((first | (with_reducible refine condS_split ?_ ?_)) <;> intro qb <;> (have qp := qb; try simp only [psq] at qp) <;> simp [-map_take, -map_drop, -map_tail, rgs, hpre, qb])
  refine run_slice3 ⟨_, xs.length, i, i + 1, _, (xs.length : Int), rfl, rfl, bounds_of (by simp [bndA]) (by simp [bndA]; omega) (by omega), rfl, by omega, by simp; omega, by simp, ?_⟩
  have hne : ((i : Int) == (i : Int) + 1) = false := by simp; omega
  try simp [-map_take, -map_drop, -map_tail, rgs, hpre, hne]
  repeat' first | done | ((first | ((with_reducible show lenS _ _ _ _ _ _); refine lenS_slice rfl fun _ => ?_) | ((with_reducible show sliceS _ _ _ _ _ _ _ _); refine slice_to rfl omA omA ?_) | ((with_reducible show sliceS _ _ _ _ _ _ _ _); refine slice_from rfl omA omA ?_) | ((with_reducible show sliceS _ _ _ _ _ _ _ _); refine slice_mid rfl omA omA omA ?_) | ((with_reducible show sliceI _ _ _ _ _ _ _ _ _ _ _); refine sliceI_to rfl omA omA ?_) | ((with_reducible show sliceI _ _ _ _ _ _ _ _ _ _ _); refine sliceI_from rfl omA omA ?_) | ((with_reducible show sliceI _ _ _ _ _ _ _ _ _ _ _); refine sliceI_mid rfl omA omA omA ?_) | ((with_reducible show appS _ _ _ _ _ _ _ _); refine app_end rfl rfl (by decide) (by decide) (by first | (simp [-map_take, -map_drop, -map_tail, rgs, hpre, hne]; done) | (simp [-map_take, -map_drop, -map_tail, rgs, hpre, hne]; rfl)) (by first | (simp [-map_take, -map_drop, -map_tail, rgs, hpre, hne]; done) | (simp [-map_take, -map_drop, -map_tail, rgs, hpre, hne]; rfl)) (by first | (simp; done) | (simp; omega)) (by first | (simp only [MLIM, LIM] at *; simp; omega) | (simp only [MLIM]; simp; omega)) (by simp [iv, bv]) ?_) | (with_reducible refine go_draw (i := 5) [(0, [], []), (1, [], []), (2, [], []), (3, [], []), (4, [], []), (5, [], []), (6, [], []), (7, [], [])] (by kernel_rfl) ?_)) <;> simp [-map_take, -map_drop, -map_tail, rgs, hpre, hne]) | ((first | (with_reducible refine condS_split ?_ ?_)) <;> intro qb <;> (have qp := qb; try simp only [psq] at qp) <;> simp [-map_take, -map_drop, -map_tail, rgs, hpre, hne, qb])
  refine sliceI_ref (l := 0) (h := i) rfl (by simp [bndA]) (by simp [bndA]) (by omega) (by omega) ?_
  try simp [-map_take, -map_drop, -map_tail, rgs, hpre]
  repeat' first | done | ((first | ((with_reducible show lenS _ _ _ _ _ _); refine lenS_slice rfl fun _ => ?_) | ((with_reducible show sliceS _ _ _ _ _ _ _ _); refine slice_to rfl omA omA ?_) | ((with_reducible show sliceS _ _ _ _ _ _ _ _); refine slice_from rfl omA omA ?_) | ((with_reducible show sliceS _ _ _ _ _ _ _ _); refine slice_mid rfl omA omA omA ?_) | ((with_reducible show sliceI _ _ _ _ _ _ _ _ _ _ _); refine sliceI_to rfl omA omA ?_) | ((with_reducible show sliceI _ _ _ _ _ _ _ _ _ _ _); refine sliceI_from rfl omA omA ?_) | ((with_reducible show sliceI _ _ _ _ _ _ _ _ _ _ _); refine sliceI_mid rfl omA omA omA ?_) | ((with_reducible show appS _ _ _ _ _ _ _ _); refine app_end rfl rfl (by decide) (by decide) (by first | (simp [-map_take, -map_drop, -map_tail, rgs, hpre]; done) | (simp [-map_take, -map_drop, -map_tail, rgs, hpre]; rfl)) (by first | (simp [-map_take, -map_drop, -map_tail, rgs, hpre]; done) | (simp [-map_take, -map_drop, -map_tail, rgs, hpre]; rfl)) (by first | (simp; done) | (simp; omega)) (by first | (simp only [MLIM, LIM] at *; simp; omega) | (simp only [MLIM]; simp; omega)) (by simp [iv, bv]) ?_) | (with_reducible refine go_draw (i := 5) [(0, [], []), (1, [], []), (2, [], []), (3, [], []), (4, [], []), (5, [], []), (6, [], []), (7, [], [])] (by kernel_rfl) ?_)) <;> simp [-map_take, -map_drop, -map_tail, rgs, hpre]) | ((first | (with_reducible refine condS_split ?_ ?_)) <;> intro qb <;> (have qp := qb; try simp only [psq] at qp) <;> simp [-map_take, -map_drop, -map_tail, rgs, hpre, qb])
  refine sliceI_ref (l := i + 1) (h := xs.length) rfl (by simp [bndA]; omega) (by simp [bndA]) (by omega) (by omega) ?_
  try simp [-map_take, -map_drop, -map_tail, rgs, hpre]
  repeat' first | done | ((first | ((with_reducible show lenS _ _ _ _ _ _); refine lenS_slice rfl fun _ => ?_) | ((with_reducible show sliceS _ _ _ _ _ _ _ _); refine slice_to rfl omA omA ?_) | ((with_reducible show sliceS _ _ _ _ _ _ _ _); refine slice_from rfl omA omA ?_) | ((with_reducible show sliceS _ _ _ _ _ _ _ _); refine slice_mid rfl omA omA omA ?_) | ((with_reducible show sliceI _ _ _ _ _ _ _ _ _ _ _); refine sliceI_to rfl omA omA ?_) | ((with_reducible show sliceI _ _ _ _ _ _ _ _ _ _ _); refine sliceI_from rfl omA omA ?_) | ((with_reducible show sliceI _ _ _ _ _ _ _ _ _ _ _); refine sliceI_mid rfl omA omA omA ?_) | ((with_reducible show appS _ _ _ _ _ _ _ _); refine app_end rfl rfl (by decide) (by decide) (by first | (simp [-map_take, -map_drop, -map_tail, rgs, hpre]; done) | (simp [-map_take, -map_drop, -map_tail, rgs, hpre]; rfl)) (by first | (simp [-map_take, -map_drop, -map_tail, rgs, hpre]; done) | (simp [-map_take, -map_drop, -map_tail, rgs, hpre]; rfl)) (by first | (simp; done) | (simp; omega)) (by first | (simp only [MLIM, LIM] at *; simp; omega) | (simp only [MLIM]; simp; omega)) (by simp [iv, bv]) ?_) | (with_reducible refine go_draw (i := 5) [(0, [], []), (1, [], []), (2, [], []), (3, [], []), (4, [], []), (5, [], []), (6, [], []), (7, [], [])] (by kernel_rfl) ?_)) <;> simp [-map_take, -map_drop, -map_tail, rgs, hpre]) | ((first | (with_reducible refine condS_split ?_ ?_)) <;> intro qb <;> (have qp := qb; try simp only [psq] at qp) <;> simp [-map_take, -map_drop, -map_tail, rgs, hpre, qb])
  refine app_mid (ws := xs.map afrC) (ys := (xs.map afrC).drop (i + 1)) rfl rfl (by decide) (by decide) ?r1 ?r2 ?r3 ?r4 ?r5 ?_
  case r1 => exact hpre
  case r2 =>
    simp [hpre, -map_drop]
    exact ⟨by omega, List.take_of_length_le (by simp)⟩
  case r3 => simp; omega
  case r4 => simp only [MLIM]; simp; omega
  case r5 =>
    simp only [List.all_eq_true]
    intro c hc x hx
    obtain ⟨y, _, rfl⟩ := List.mem_map.1 (List.mem_of_mem_drop hc)
    simp [afrC] at hx
    rcases hx with rfl | rfl | rfl | rfl | rfl <;> rfl
  try simp [-map_take, -map_drop, -map_tail, rgs, hpre]
  repeat' first | done | ((first | ((with_reducible show lenS _ _ _ _ _ _); refine lenS_slice rfl fun _ => ?_) | ((with_reducible show sliceS _ _ _ _ _ _ _ _); refine slice_to rfl omA omA ?_) | ((with_reducible show sliceS _ _ _ _ _ _ _ _); refine slice_from rfl omA omA ?_) | ((with_reducible show sliceS _ _ _ _ _ _ _ _); refine slice_mid rfl omA omA omA ?_) | ((with_reducible show sliceI _ _ _ _ _ _ _ _ _ _ _); refine sliceI_to rfl omA omA ?_) | ((with_reducible show sliceI _ _ _ _ _ _ _ _ _ _ _); refine sliceI_from rfl omA omA ?_) | ((with_reducible show sliceI _ _ _ _ _ _ _ _ _ _ _); refine sliceI_mid rfl omA omA omA ?_) | ((with_reducible show appS _ _ _ _ _ _ _ _); refine app_end rfl rfl (by decide) (by decide) (by first | (simp [-map_take, -map_drop, -map_tail, rgs, hpre]; done) | (simp [-map_take, -map_drop, -map_tail, rgs, hpre]; rfl)) (by first | (simp [-map_take, -map_drop, -map_tail, rgs, hpre]; done) | (simp [-map_take, -map_drop, -map_tail, rgs, hpre]; rfl)) (by first | (simp; done) | (simp; omega)) (by first | (simp only [MLIM, LIM] at *; simp; omega) | (simp only [MLIM]; simp; omega)) (by simp [iv, bv]) ?_) | (with_reducible refine go_draw (i := 5) [(0, [], []), (1, [], []), (2, [], []), (3, [], []), (4, [], []), (5, [], []), (6, [], []), (7, [], [])] (by kernel_rfl) ?_)) <;> simp [-map_take, -map_drop, -map_tail, rgs, hpre]) | ((first | (with_reducible refine condS_split ?_ ?_)) <;> intro qb <;> (have qp := qb; try simp only [psq] at qp) <;> simp [-map_take, -map_drop, -map_tail, rgs, hpre, qb])
  have hbd : bndA 0 (some (AV.int IntKind.i64 ((i : Int) + ((xs.length - (i + 1) : Nat) : Int)))) = some (xs.length - 1) := by
    simp only [bndA]; rw [if_pos (by omega)]; congr 1; omega
  have hrw : xs.length = (List.take i (List.map afrC xs) ++ (List.drop (i + 1) (List.map afrC xs) ++ List.drop (i + (xs.length - (i + 1))) (List.map afrC xs))).length := by simp; omega
  refine slice_far (l := xs.length - 1) (h := xs.length) rfl hbd (by simp [bndA]) (by omega) (upd_same ..) (by omega) ?_
  try simp [-map_take, -map_drop, -map_tail, rgs]
  repeat' first | done | ((first | ((with_reducible show lenS _ _ _ _ _ _); refine lenS_slice rfl fun _ => ?_) | ((with_reducible show sliceS _ _ _ _ _ _ _ _); refine slice_to rfl omA omA ?_) | ((with_reducible show sliceS _ _ _ _ _ _ _ _); refine slice_from rfl omA omA ?_) | ((with_reducible show sliceS _ _ _ _ _ _ _ _); refine slice_mid rfl omA omA omA ?_) | ((with_reducible show sliceI _ _ _ _ _ _ _ _ _ _ _); refine sliceI_to rfl omA omA ?_) | ((with_reducible show sliceI _ _ _ _ _ _ _ _ _ _ _); refine sliceI_from rfl omA omA ?_) | ((with_reducible show sliceI _ _ _ _ _ _ _ _ _ _ _); refine sliceI_mid rfl omA omA omA ?_) | ((with_reducible show appS _ _ _ _ _ _ _ _); refine app_end rfl rfl (by decide) (by decide) (by first | (simp [-map_take, -map_drop, -map_tail, rgs]; done) | (simp [-map_take, -map_drop, -map_tail, rgs]; rfl)) (by first | (simp [-map_take, -map_drop, -map_tail, rgs]; done) | (simp [-map_take, -map_drop, -map_tail, rgs]; rfl)) (by first | (simp; done) | (simp; omega)) (by first | (simp only [MLIM, LIM] at *; simp; omega) | (simp only [MLIM]; simp; omega)) (by simp [iv, bv]) ?_) | (with_reducible refine go_draw (i := 5) [(0, [], []), (1, [], []), (2, [], []), (3, [], []), (4, [], []), (5, [], []), (6, [], []), (7, [], [])] (by kernel_rfl) ?_)) <;> simp [-map_take, -map_drop, -map_tail, rgs]) | ((first | (with_reducible refine condS_split ?_ ?_)) <;> intro qb <;> (have qp := qb; try simp only [psq] at qp) <;> simp [-map_take, -map_drop, -map_tail, rgs, qb])
  refine ⟨_, rfl, _, upd_same .., rfl, by omega, by decide, ?_⟩
  try simp [-map_take, -map_drop, -map_tail, rgs]
  repeat' first | done | ((first | ((with_reducible show lenS _ _ _ _ _ _); refine lenS_slice rfl fun _ => ?_) | ((with_reducible show sliceS _ _ _ _ _ _ _ _); refine slice_to rfl omA omA ?_) | ((with_reducible show sliceS _ _ _ _ _ _ _ _); refine slice_from rfl omA omA ?_) | ((with_reducible show sliceS _ _ _ _ _ _ _ _); refine slice_mid rfl omA omA omA ?_) | ((with_reducible show sliceI _ _ _ _ _ _ _ _ _ _ _); refine sliceI_to rfl omA omA ?_) | ((with_reducible show sliceI _ _ _ _ _ _ _ _ _ _ _); refine sliceI_from rfl omA omA ?_) | ((with_reducible show sliceI _ _ _ _ _ _ _ _ _ _ _); refine sliceI_mid rfl omA omA omA ?_) | ((with_reducible show appS _ _ _ _ _ _ _ _); refine app_end rfl rfl (by decide) (by decide) (by first | (simp [-map_take, -map_drop, -map_tail, rgs]; done) | (simp [-map_take, -map_drop, -map_tail, rgs]; rfl)) (by first | (simp [-map_take, -map_drop, -map_tail, rgs]; done) | (simp [-map_take, -map_drop, -map_tail, rgs]; rfl)) (by first | (simp; done) | (simp; omega)) (by first | (simp only [MLIM, LIM] at *; simp; omega) | (simp only [MLIM]; simp; omega)) (by simp [iv, bv]) ?_) | (with_reducible refine go_draw (i := 5) [(0, [], []), (1, [], []), (2, [], []), (3, [], []), (4, [], []), (5, [], []), (6, [], []), (7, [], [])] (by kernel_rfl) ?_)) <;> simp [-map_take, -map_drop, -map_tail, rgs]) | ((first | (with_reducible refine condS_split ?_ ?_)) <;> intro qb <;> (have qp := qb; try simp only [psq] at qp) <;> simp [-map_take, -map_drop, -map_tail, rgs, qb])
  have hA : (List.take i (List.map afrC xs) ++ List.drop (i + 1) (List.map afrC xs)).length = xs.length - 1 := by simp; omega
  refine ⟨nx + 19, ⟨rfl, by rw [List.length_eraseIdx, if_pos hi]; omega⟩, by omega, by omega, ?_, fun j hj hne2 => ?_⟩
  · rw [if_pos rfl, ← List.append_assoc, List.take_append_of_le_length (by omega), List.take_of_length_le (by omega), List.eraseIdx_eq_take_drop_succ, List.map_append, List.map_take, List.map_drop]
  · rw [if_neg (by omega), if_neg (by omega), if_neg hne2]
end Go.AE.Try
end

section
/- Contracts of the reference's readers: slots, heaps, timers. -/
set_option maxRecDepth 8000
set_option maxHeartbeats 2000000
namespace Go.AE.Try
open Go.Proofs
open List (map_take map_drop map_tail)

theorem s_l1In {x lo hi : Int} : PC ctx.P 34 [.int .i64 x, .int .i64 lo, .int .i64 hi] (.bool (inR x lo hi)) := by
  refine PC.o okC Try.func34 rfl (.bool _) fun h nx hnx => ?_
  try simp [-map_take, -map_drop, -map_tail, rgs, inR]
  repeat' first | done | ((first | (with_reducible refine guardS_split ?_ ?_)) <;> intro qb <;> (have qp := qb; try simp only [psq] at qp) <;> simp [-map_take, -map_drop, -map_tail, rgs, inR, qb])
theorem s_SlotsOk {F : Nat → Bool} {s : Slt} : PC ctx.P 31 [.agg (sltV F s)] (.bool (sltOk s)) := by
  refine PC.lim (n := s.ages.length) (x := .agg (sltV F s)) (by simp) (.agg (x := .view (F 8) 1 (s.ages.map iv)) (by simp [sltV]) (.here (by simp))) ⟨_, Try.func31, by kernel_rfl, by kernel_rfl⟩ fun hlim => ?_
  refine PC.o okC Try.func31 rfl (.bool _) fun h nx hnx => ?_
  try simp [-map_take, -map_drop, -map_tail, rgs, sltV]
  repeat' first | done | ((first | ((with_reducible show lenS _ _ _ _ _ _); refine lenS_slice rfl fun _ => ?_) | ((with_reducible show iaddrS _ _ _ _ _ _ _); refine iaddr_map rfl omA omA ?_) | ((with_reducible show doCall _ _ _ 34 _ _); refine call_pc (s_l1In) ?_)) <;> simp [-map_take, -map_drop, -map_tail, rgs, sltV]) | ((first | (with_reducible refine guardS_split ?_ ?_) | (with_reducible refine condS_split ?_ ?_)) <;> intro qb <;> (have qp := qb; try simp only [psq] at qp) <;> simp [-map_take, -map_drop, -map_tail, rgs, sltV, qb])
  all_goals first | (clear hnx; simp [sltOk]; grind) | skip
  refine go_upP [2, 3, 18, 19, 20, 21, 22, 23, 24, 25, 26, 27, 28, 29, 30, 31] (s.ages.length) (fun (i : Nat) a => [(3, .int .i64 i)]) (fun i_ a_ h_ _ => (fun i (_ : Unit) _ => ((s.ages.drop i).any fun a => !inR a 0 1000000) = s.ages.any fun a => !inR a 0 1000000) i_ a_ h_) (()) (by simp) ?_ keep_rfl (Nat.le_refl _) ?_
  · simp
  · intro i a tm h' n' hle hJ hE hn' next hnx
    try dsimp only at hJ
    have hK : KeepB nx h' h := KeepB.sub hE keepA (by omega)
    simp [-map_take, -map_drop, -map_tail]
    have e1 : h' (nx) = some (.obj (sltV F s)) := by have := hE (nx) (by omega); simpa [sltV] using this
    have e1n : ∀ k, ((nx) = n' + k) = False := fun k => by simp only [eq_iff_iff, iff_false]; omega
    have e1m : ((nx) = n') = False := by simp only [eq_iff_iff, iff_false]; omega
    try simp [-map_take, -map_drop, -map_tail, rgs, sltV, iv, e1, e1n, e1m]
    repeat' first | done | ((first | ((with_reducible show lenS _ _ _ _ _ _); refine lenS_slice rfl fun _ => ?_) | ((with_reducible show iaddrS _ _ _ _ _ _ _); refine iaddr_map rfl omA omA ?_) | ((with_reducible show doCall _ _ _ 34 _ _); refine call_pc (s_l1In) ?_)) <;> simp [-map_take, -map_drop, -map_tail, rgs, sltV, iv, e1, e1n, e1m]) | ((first | (with_reducible refine guardS_split ?_ ?_) | (with_reducible refine condS_split ?_ ?_)) <;> intro qb <;> (have qp := qb; try simp only [psq] at qp) <;> simp [-map_take, -map_drop, -map_tail, rgs, sltV, iv, e1, e1n, e1m, qb])
    all_goals
      first
      | (have hlt : i < s.ages.length := (by first | omega | (simp at *; omega))
         rw [drop_gt hlt] at hJ
         first
         | (refine hnx.go (()) ?_ ?_ ?_ ?_ ?_ ?_; omega; (simp [wrap_succ hlt hlim]); (simp); exact keepA; (first | omega | (simp; omega)); (try dsimp only); clear hnx; first | ((try simp only [List.drop_length, Int.toNat_natCast, List.any_cons, List.any_nil, sltOk] at hJ ⊢); grind) | (simp_all [List.any_cons, List.any_nil, sltOk]; done) | (simp_all; omega))
         | (refine ⟨?_, keepA⟩; clear hnx; first | ((try simp only [List.drop_length, Int.toNat_natCast, List.any_cons, List.any_nil, sltOk] at hJ ⊢); grind) | (simp_all [List.any_cons, List.any_nil, sltOk]; done) | (simp_all; omega)))
      | (obtain rfl : i = s.ages.length := (by first | omega | (simp at *; omega))
         refine ⟨?_, keepA⟩; clear hnx; first | ((try simp only [List.drop_length, Int.toNat_natCast, List.any_cons, List.any_nil, sltOk] at hJ ⊢); grind) | (simp_all [List.any_cons, List.any_nil, sltOk]; done) | (simp_all; omega))
theorem s_UsedIn {F : Nat → Bool} {s : Slt} : PC ctx.P 32 [.agg (sltV F s)] (.int .i64 (if sltOk s then cntB id s.used else -1)) := by
  refine PC.lim (n := s.used.length) (x := .agg (sltV F s)) (by simp) (.agg (x := .view (F 9) 1 (s.used.map bv)) (by simp [sltV]) (.here (by simp))) ⟨_, Try.func32, by kernel_rfl, by kernel_rfl⟩ fun hlim => ?_
  refine PC.o okC Try.func32 rfl (.int _ _) fun h nx hnx => ?_
  try simp [-map_take, -map_drop, -map_tail, rgs, sltV]
  repeat' first | done | ((first | ((with_reducible show lenS _ _ _ _ _ _); refine lenS_slice rfl fun _ => ?_) | ((with_reducible show iaddrS _ _ _ _ _ _ _); refine iaddr_map rfl omA omA ?_) | ((with_reducible show doCall _ _ _ 31 _ _); refine call_pc (s_SlotsOk (s := s) (F := F)) ?_)) <;> simp [-map_take, -map_drop, -map_tail, rgs, sltV]) | ((first | (with_reducible refine condS_split ?_ ?_)) <;> intro qb <;> (have qp := qb; try simp only [psq] at qp) <;> simp [-map_take, -map_drop, -map_tail, rgs, sltV, qb])
  all_goals first | (clear hnx; simp_all; done) | skip
  refine go_upP [3, 4, 8, 9, 10, 11, 12, 13, 14, 15, 16, 17, 18, 19, 20, 21] (s.used.length) (fun (i : Nat) a => [(4, .int .i64 i), (3, .int .i64 a)]) (fun i_ a_ h_ _ => (fun i (a : Int) _ => a + cntB id (s.used.drop i) = cntB id s.used ∧ 0 ≤ a ∧ a ≤ i) i_ a_ h_) (0) (by simp) ?_ keep_rfl (Nat.le_refl _) ?_
  · simp
  · intro i a tm h' n' hle hJ hE hn' next hnx
    try dsimp only at hJ
    have hK : KeepB nx h' h := KeepB.sub hE keepA (by omega)
    simp [-map_take, -map_drop, -map_tail]
    have e1 : h' (nx) = some (.obj (sltV F s)) := by have := hE (nx) (by omega); simpa [sltV] using this
    have e1n : ∀ k, ((nx) = n' + k) = False := fun k => by simp only [eq_iff_iff, iff_false]; omega
    have e1m : ((nx) = n') = False := by simp only [eq_iff_iff, iff_false]; omega
    try simp [-map_take, -map_drop, -map_tail, rgs, sltV, bv, e1, e1n, e1m]
    repeat' first | done | ((first | ((with_reducible show lenS _ _ _ _ _ _); refine lenS_slice rfl fun _ => ?_) | ((with_reducible show iaddrS _ _ _ _ _ _ _); refine iaddr_map rfl omA omA ?_)) <;> simp [-map_take, -map_drop, -map_tail, rgs, sltV, bv, e1, e1n, e1m]) | ((first | (with_reducible refine condS_split ?_ ?_)) <;> intro qb <;> (have qp := qb; try simp only [psq] at qp) <;> simp [-map_take, -map_drop, -map_tail, rgs, sltV, bv, e1, e1n, e1m, qb])
    · rw [drop_gt (by omega)] at hJ
      refine hnx.go (a + 1) (by omega) (by simp [wrap_succ (i := i) (n := s.used.length) (by omega) hlim, i64_ok (x := a + 1) (by simp only [LIM] at hlim; omega)]) (by simp) keepA (by first | omega | (simp; omega)) ?_
      try dsimp only
      simp [cntB, qb] at hJ ⊢
      omega
    · rw [drop_gt (by omega)] at hJ
      refine hnx.go (a) (by omega) (by simp [wrap_succ (i := i) (n := s.used.length) (by omega) hlim]) (by simp) keepA (by first | omega | (simp; omega)) ?_
      try dsimp only
      simp [cntB, qb] at hJ ⊢
      omega
    · refine ⟨?_, keepA⟩
      rw [List.drop_eq_nil_of_le (by omega)] at hJ
      simp [cntB, *] at hJ ⊢
      omega
theorem s_Holds {F : Nat → Bool} {s : Slt} {x : Han} : PC ctx.P 33 [.agg (sltV F s), .agg (hanC x)] (.bool (sltOk s && sltHolds s x)) := by
  refine PC.lim (n := s.ages.length) (x := .agg (sltV F s)) (by simp) (.agg (x := .view (F 8) 1 (s.ages.map iv)) (by simp [sltV]) (.here (by simp))) ⟨_, Try.func33, by kernel_rfl, by kernel_rfl⟩ fun hlim => ?_
  by_cases hs : sltOk s = true
  · have hl := sltOk_len hs
    refine PC.o okC Try.func33 rfl (.bool _) fun h nx hnx => ?_
    try simp [-map_take, -map_drop, -map_tail, rgs, sltV, hanC, iv, bv, hs, wrap_pred hlim]
    repeat' first | done | ((first | ((with_reducible show lenS _ _ _ _ _ _); refine lenS_slice rfl fun _ => ?_) | ((with_reducible show iaddrS _ _ _ _ _ _ _); refine iaddr_map rfl omA omA ?_) | ((with_reducible show doCall _ _ _ 31 _ _); refine call_pc (s_SlotsOk (s := s) (F := F)) ?_) | ((with_reducible show doCall _ _ _ 34 _ _); refine call_pc (s_l1In) ?_) | (with_reducible refine go_draw (i := 1) [(0, [], []), (1, [], []), (2, [], []), (3, [], []), (4, [], []), (5, [], []), (6, [], []), (7, [], []), (8, [], []), (9, [], []), (10, [], []), (11, [], []), (12, [], []), (13, [], []), (14, [], []), (15, [], []), (16, [], []), (17, [], []), (18, [], []), (19, [], []), (20, [], []), (21, [], []), (22, [], []), (23, [], []), (24, [], []), (25, [], []), (26, [], []), (27, [], []), (28, [], []), (29, [], []), (30, [], [])] (by kernel_rfl) ?_)) <;> simp [-map_take, -map_drop, -map_tail, rgs, sltV, hanC, iv, bv, hs, wrap_pred hlim]) | ((first | (with_reducible refine guardD_split ?_ ?_)) <;> intro qb <;> (have qp := qb; try simp only [psq] at qp) <;> simp [-map_take, -map_drop, -map_tail, rgs, sltV, hanC, iv, bv, hs, wrap_pred hlim, qb])
    all_goals (try clear hnx)
    all_goals first | (simp_all [sltHolds, isIn]; done) | (simp_all [sltHolds, isIn]; omega) | (rw [Bool.eq_iff_iff]; simp_all [sltHolds, isIn]; done) | (rw [Bool.eq_iff_iff]; simp_all [sltHolds, isIn]; omega) | omega | (simp only [sltHolds, isIn]; grind) | grind
  · refine PC.o okC Try.func33 rfl (.bool _) fun h nx hnx => ?_
    try simp [-map_take, -map_drop, -map_tail, rgs, hs]
    repeat' first | done | ((first | ((with_reducible show lenS _ _ _ _ _ _); refine lenS_slice rfl fun _ => ?_) | ((with_reducible show iaddrS _ _ _ _ _ _ _); refine iaddr_map rfl omA omA ?_) | ((with_reducible show doCall _ _ _ 31 _ _); refine call_pc (s_SlotsOk (s := s) (F := F)) ?_) | (with_reducible refine go_draw (i := 1) [(0, [], []), (1, [], []), (2, [], []), (3, [], []), (4, [], []), (5, [], []), (6, [], []), (7, [], []), (8, [], []), (9, [], []), (10, [], []), (11, [], []), (12, [], []), (13, [], []), (14, [], []), (15, [], []), (16, [], []), (17, [], []), (18, [], []), (19, [], []), (20, [], []), (21, [], []), (22, [], []), (23, [], []), (24, [], []), (25, [], []), (26, [], []), (27, [], []), (28, [], []), (29, [], []), (30, [], [])] (by kernel_rfl) ?_)) <;> simp [-map_take, -map_drop, -map_tail, rgs, hs]) | ((first | (with_reducible refine guardD_split ?_ ?_)) <;> intro qb <;> (have qp := qb; try simp only [psq] at qp) <;> simp [-map_take, -map_drop, -map_tail, rgs, hs, qb])
    all_goals (try clear hnx)
    all_goals first | (simp_all [sltHolds]; done) | (simp_all [sltHolds]; omega) | (rw [Bool.eq_iff_iff]; simp_all [sltHolds]; done) | (rw [Bool.eq_iff_iff]; simp_all [sltHolds]; omega) | omega | (simp only [sltHolds]; grind) | grind
end Go.AE.Try
end

section
/- Contracts of the reference's readers: heaps, timers, trees, events. -/
set_option maxRecDepth 8000
set_option maxHeartbeats 4000000
namespace Go.AE.Try
open Go.Proofs

end Go.AE.Try
end

section
/- Contracts of the reference's readers: chains, events, functions, tasks, groups. -/
set_option maxRecDepth 8000
set_option maxHeartbeats 4000000
namespace Go.AE.Try
open Go.Proofs

end Go.AE.Try
end

section
/- Contracts of the reference's readers: chains, events, functions, tasks, groups. -/
set_option maxRecDepth 8000
set_option maxHeartbeats 4000000
namespace Go.AE.Try
open Go.Proofs

end Go.AE.Try
end

section
/- Contracts of the reference's readers: chains, events, functions, tasks, groups. -/
set_option maxRecDepth 8000
set_option maxHeartbeats 4000000
namespace Go.AE.Try
open Go.Proofs
open List (map_take map_drop map_tail)

theorem s_AftersOk {F : Nat → Bool} {x : Afs} : PC ctx.P 14 [.agg (afsV F x)] (.bool (afsOk x)) := by
  refine PC.lim (n := x.list.length) (x := .agg (afsV F x)) (by simp) (.agg (x := .view (F 10) 5 (x.list.map afrC)) (by simp [afsV]) (.here (by simp))) ⟨_, Try.func14, by kernel_rfl, by kernel_rfl⟩ fun hlim => ?_
  by_cases hs : sltOk x.slots = true
  · refine PC.o okC Try.func14 rfl (.bool _) fun h nx hnx => ?_
    try simp [-map_take, -map_drop, -map_tail, rgs, afsV, hs]
    repeat' first | done | ((first | ((with_reducible show lenS _ _ _ _ _ _); refine lenS_slice rfl fun _ => ?_) | ((with_reducible show iaddrS _ _ _ _ _ _ _); refine iaddr_map rfl omA omA ?_) | ((with_reducible show doCall _ _ _ 31 _ _); refine call_pc (s_SlotsOk (s := x.slots) (F := F)) ?_) | ((with_reducible show doCall _ _ _ 32 _ _); refine call_pc (s_UsedIn (s := x.slots) (F := F)) ?_) | (with_reducible refine go_draw (i := 1) [(0, [], []), (1, [], []), (2, [], []), (3, [], []), (4, [], []), (5, [], []), (6, [], []), (7, [], []), (8, [], []), (9, [], []), (10, [.tmp 11], []), (11, [], []), (12, [], [])] (by kernel_rfl) ?_) | (with_reducible refine go_draw (i := 12) [(0, [], []), (1, [], []), (2, [], []), (3, [], []), (4, [], []), (5, [], []), (6, [], []), (7, [], []), (8, [], [])] (by kernel_rfl) ?_)) <;> simp [-map_take, -map_drop, -map_tail, rgs, afsV, hs]) | ((first | (with_reducible refine guardD_split ?_ ?_) | (with_reducible refine guardS_split ?_ ?_) | (with_reducible refine condS_split ?_ ?_)) <;> intro qb <;> (have qp := qb; try simp only [psq] at qp) <;> simp [-map_take, -map_drop, -map_tail, rgs, afsV, hs, qb])
    · simp only [afsOk]; grind
    refine go_upP [2, 3, 4, 5, 19, 20, 21, 22, 23, 24, 25, 26, 27, 28, 29, 30, 31, 32, 33, 34, 35, 36, 37, 38, 39, 40, 41, 42, 43, 44, 45, 46, 47, 48, 49, 50, 51, 52, 53, 54, 55, 56, 57, 58, 59, 60, 61, 62] (x.list.length) (fun (i : Nat) a => [(3, .int .i64 i)]) (fun i_ a_ h_ _ => (fun (i : Nat) (_ : Unit) _ => allI (fun i y => isAfter y.node y.fn && (sltHolds x.slots y.han && afsAt x.list y.han == i)) (x.list.drop i) i = allI (fun i y => isAfter y.node y.fn && (sltHolds x.slots y.han && afsAt x.list y.han == i)) x.list 0) i_ a_ h_) (()) (by simp) ?_ keep_rfl (Nat.le_refl _) ?_
    · simp
    · intro i a tm h' n' hle hJ hE hn' next hnx
      try dsimp only at hJ
      have hK : KeepB nx h' h := KeepB.sub hE keepA (by omega)
      simp [-map_take, -map_drop, -map_tail]
      have e1 : h' (nx) = some (.obj (afsV F x)) := by have := hE (nx) (by omega); simpa [afsV] using this
      have e1n : ∀ k, ((nx) = n' + k) = False := fun k => by simp only [eq_iff_iff, iff_false]; omega
      have e1m : ((nx) = n') = False := by simp only [eq_iff_iff, iff_false]; omega
      try simp [-map_take, -map_drop, -map_tail, rgs, afsV, afrC, e1, e1n, e1m, hs]
      repeat' first | done | ((first | ((with_reducible show lenS _ _ _ _ _ _); refine lenS_slice rfl fun _ => ?_) | ((with_reducible show iaddrS _ _ _ _ _ _ _); refine iaddr_map rfl omA omA ?_) | ((with_reducible show doCall _ _ _ 33 _ _); refine call_pc (s_Holds (s := x.slots) (F := F) (x := (gt x.list (i : Int)).han)) ?_) | ((with_reducible show doCall _ _ _ 34 _ _); refine call_pc (s_l1In) ?_) | (with_reducible refine go_draw (i := 1) [(0, [], []), (1, [], []), (2, [], []), (3, [], []), (4, [], []), (5, [], []), (6, [], []), (7, [], []), (8, [], []), (9, [], []), (10, [.tmp 11], []), (11, [], []), (12, [], [])] (by kernel_rfl) ?_) | (with_reducible refine go_draw (i := 12) [(0, [], []), (1, [], []), (2, [], []), (3, [], []), (4, [], []), (5, [], []), (6, [], []), (7, [], []), (8, [], [])] (by kernel_rfl) ?_)) <;> simp [-map_take, -map_drop, -map_tail, rgs, afsV, afrC, e1, e1n, e1m, hs]) | ((first | (with_reducible refine guardD_split ?_ ?_) | (with_reducible refine guardS_split ?_ ?_) | (with_reducible refine condS_split ?_ ?_)) <;> intro qb <;> (have qp := qb; try simp only [psq] at qp) <;> simp [-map_take, -map_drop, -map_tail, rgs, afsV, afrC, e1, e1n, e1m, hs, qb])
      · have hlt : i < x.list.length := (by omega)
        rw [drop_gt hlt] at hJ
        refine ⟨?_, keepA⟩; clear hnx; simp only [allI] at hJ; simp only [afsOk]; grind
      · have hlt : i < x.list.length := (by omega)
        rw [drop_gt hlt] at hJ
        refine ⟨?_, keepA⟩; clear hnx; simp only [allI, isAfter] at hJ; simp only [afsOk, isAfter]; grind
      · have hlt : i < x.list.length := (by omega)
        rw [drop_gt hlt] at hJ
        refine ⟨?_, keepA⟩; clear hnx; simp only [allI, isAfter] at hJ; simp only [afsOk, isAfter]; grind
      · have hlt : i < x.list.length := (by omega)
        rw [drop_gt hlt] at hJ
        refine go_upP [2, 5, 49, 50, 51, 52, 53, 54, 55, 56, 57, 58, 59, 60, 61, 62] (i) (fun (i : Nat) a => [(5, .int .i64 i)]) (fun i_ a_ h_ _ => (fun (j : Nat) (_ : Unit) _ => idxI (fun y => y.han == (gt x.list (i : Int)).han) ((x.list.take i).drop j) j = idxI (fun y => y.han == (gt x.list (i : Int)).han) (x.list.take i) 0) i_ a_ h_) (()) (by simp) ?_ keep_rfl (Nat.le_refl _) ?_
        · simp
        · intro j b tm2 h2 n2 hle2 hJ2 hE2 hn2 next2 hnx2
          try dsimp only at hJ2
          have hK2 : KeepB nx h2 h := KeepB.sub hE2 keepA (by omega)
          simp [-map_take, -map_drop, -map_tail]
          have e2 : h2 (nx) = some (.obj (afsV F x)) := by have := hE2 (nx) (by omega); simpa [e1, e1n, e1m, afsV] using this
          have e2n : ∀ k, ((nx) = n2 + k) = False := fun k => by simp only [eq_iff_iff, iff_false]; omega
          have e2m : ((nx) = n2) = False := by simp only [eq_iff_iff, iff_false]; omega
          have e3 : h2 (n' + 10) = some (.obj (afrC (gt x.list (i : Int)))) := by have := hE2 (n' + 10) (by omega); simpa [afrC] using this
          have e3n : ∀ k, ((n' + 10) = n2 + k) = False := fun k => by simp only [eq_iff_iff, iff_false]; omega
          have e3m : ((n' + 10) = n2) = False := by simp only [eq_iff_iff, iff_false]; omega
          try simp [-map_take, -map_drop, -map_tail, rgs, afsV, afrC, e2, e2n, e2m, e3, e3n, e3m, hanC, lfOf, cellsEq, cellEq]
          repeat' first | done | ((first | ((with_reducible show lenS _ _ _ _ _ _); refine lenS_slice rfl fun _ => ?_) | ((with_reducible show iaddrS _ _ _ _ _ _ _); refine iaddr_map rfl omA omA ?_) | (with_reducible refine go_draw (i := 1) [(0, [], []), (1, [], []), (2, [], []), (3, [], []), (4, [], []), (5, [], []), (6, [], []), (7, [], []), (8, [], []), (9, [], []), (10, [.tmp 11], []), (11, [], []), (12, [], [])] (by kernel_rfl) ?_) | (with_reducible refine go_draw (i := 12) [(0, [], []), (1, [], []), (2, [], []), (3, [], []), (4, [], []), (5, [], []), (6, [], []), (7, [], []), (8, [], [])] (by kernel_rfl) ?_)) <;> simp [-map_take, -map_drop, -map_tail, rgs, afsV, afrC, e2, e2n, e2m, e3, e3n, e3m, hanC, lfOf, cellsEq, cellEq]) | ((first | (with_reducible refine guardD_split ?_ ?_) | (with_reducible refine guardS_split ?_ ?_) | (with_reducible refine condS_split ?_ ?_)) <;> intro qb <;> (have qp := qb; try simp only [psq] at qp) <;> simp [-map_take, -map_drop, -map_tail, rgs, afsV, afrC, e2, e2n, e2m, e3, e3n, e3m, hanC, lfOf, cellsEq, cellEq, qb])
          · rw [han_eq] at qb
            have r := idx_here (by omega) (by omega) hJ2 qb
            have hh := afsAt_here hlt
            rw [r] at hh
            refine ⟨?_, keepA⟩; clear hnx hnx2; simp only [allI, isAfter] at hJ; simp only [afsOk, isAfter]; grind
          · rw [han_eq] at qb
            refine hnx2.go () (by omega) (by simp [wrap_succ (show j < x.list.length by omega) hlim]) (by simp) keepA (by first | omega | (simp; omega)) ?_
            exact idx_on (by omega) (by omega) hJ2 qb
          · have r := idx_end (by omega) hJ2
            have hh := afsAt_here hlt
            rw [r] at hh
            refine hnx.go () (by omega) (by simp [wrap_succ hlt hlim]) (by simp) keepA (by first | omega | (simp; omega)) ?_
            clear hnx hnx2; dsimp only; simp only [allI, isAfter] at hJ ⊢; grind
      · refine ⟨?_, keepA⟩; rw [List.drop_eq_nil_of_le (by omega)] at hJ; clear hnx; simp only [allI] at hJ; simp only [afsOk]; grind
  · refine PC.o okC Try.func14 rfl (.bool _) fun h nx hnx => ?_
    try simp [-map_take, -map_drop, -map_tail, rgs, afsV, hs]
    repeat' first | done | ((first | ((with_reducible show lenS _ _ _ _ _ _); refine lenS_slice rfl fun _ => ?_) | ((with_reducible show iaddrS _ _ _ _ _ _ _); refine iaddr_map rfl omA omA ?_) | ((with_reducible show doCall _ _ _ 31 _ _); refine call_pc (s_SlotsOk (s := x.slots) (F := F)) ?_) | (with_reducible refine go_draw (i := 1) [(0, [], []), (1, [], []), (2, [], []), (3, [], []), (4, [], []), (5, [], []), (6, [], []), (7, [], []), (8, [], []), (9, [], []), (10, [.tmp 11], []), (11, [], []), (12, [], [])] (by kernel_rfl) ?_) | (with_reducible refine go_draw (i := 12) [(0, [], []), (1, [], []), (2, [], []), (3, [], []), (4, [], []), (5, [], []), (6, [], []), (7, [], []), (8, [], [])] (by kernel_rfl) ?_)) <;> simp [-map_take, -map_drop, -map_tail, rgs, afsV, hs]) | ((first | (with_reducible refine guardD_split ?_ ?_) | (with_reducible refine guardS_split ?_ ?_) | (with_reducible refine condS_split ?_ ?_)) <;> intro qb <;> (have qp := qb; try simp only [psq] at qp) <;> simp [-map_take, -map_drop, -map_tail, rgs, afsV, hs, qb])
    all_goals (try clear hnx)
    all_goals first | (simp_all [afsOk]; done) | (simp_all [afsOk]; omega) | (rw [Bool.eq_iff_iff]; simp_all [afsOk]; done) | (rw [Bool.eq_iff_iff]; simp_all [afsOk]; omega) | omega | (simp only [afsOk]; grind) | grind
end Go.AE.Try
end

section
/- Contracts of the reference's readers: worlds. -/
set_option maxRecDepth 8000
set_option maxHeartbeats 4000000
namespace Go.AE.Try
open Go.Proofs

end Go.AE.Try
end

section
/- Contracts of the reference's readers: worlds. -/
set_option maxRecDepth 8000
set_option maxHeartbeats 4000000
namespace Go.AE.Try
open Go.Proofs

end Go.AE.Try
end

section
/- Contracts of the reference's copies. -/
set_option maxRecDepth 8000
set_option maxHeartbeats 4000000
namespace Go.AE.Try
open Go.Proofs
open List (map_take map_drop map_tail)

theorem s_l1CopySlots {F : Nat → Bool} {s : Slt} (h1 : s.ages.length ≤ 1048576) (h2 : s.used.length ≤ 1048576) : PC ctx.P 36 [.agg (sltV F s)] (.agg (sltV (fun _ => true) s)) := by
  refine PC.o okC Try.func36 rfl (.agg _ (sltV_fz s)) fun h nx hnx => ?_
  try simp [-map_take, -map_drop, -map_tail, rgs, free_of hnx, sltV, iv, bv]
  repeat' first | done | ((first | ((with_reducible show appS _ _ _ _ _ _ _ _); refine app_end rfl rfl (by decide) (by decide) (by first | (simp [-map_take, -map_drop, -map_tail, rgs, free_of hnx, sltV, iv, bv]; done) | (simp [-map_take, -map_drop, -map_tail, rgs, free_of hnx, sltV, iv, bv]; rfl)) (by first | (simp [-map_take, -map_drop, -map_tail, rgs, free_of hnx, sltV, iv, bv]; done) | (simp [-map_take, -map_drop, -map_tail, rgs, free_of hnx, sltV, iv, bv]; rfl)) (by first | (simp; done) | (simp; omega)) (by first | (simp only [MLIM, LIM] at *; simp; omega) | (simp only [MLIM]; simp; omega)) (by simp [iv, bv]) ?_) | (with_reducible refine go_draw (i := 1) [(1, [], []), (2, [], [0, 4]), (5, [], []), (6, [], [0, 4]), (0, [], []), (3, [.tmp 8], [4]), (4, [], []), (7, [], []), (8, [], []), (9, [], [])] (by kernel_rfl) ?_)) <;> simp [-map_take, -map_drop, -map_tail, rgs, free_of hnx, sltV, iv, bv])
theorem s_l8Copy {F : Nat → Bool} {s : Afs} (h1 : s.slots.ages.length ≤ 1048576) (h2 : s.slots.used.length ≤ 1048576) (h3 : s.list.length ≤ 1048576) : PC ctx.P 16 [.agg (afsV F s)] (.agg (afsV (fun _ => true) s)) := by
  refine PC.o okC Try.func16 rfl (.agg _ (afsV_fz s)) fun h nx hnx => ?_
  try simp [-map_take, -map_drop, -map_tail, rgs, free_of hnx, afsV, afrC, sltV]
  repeat' first | done | ((first | ((with_reducible show doCall _ _ _ 36 _ _); refine call_pc (s_l1CopySlots (s := s.slots) (F := F) h1 h2) ?_) | ((with_reducible show appS _ _ _ _ _ _ _ _); refine app_end rfl rfl (by decide) (by decide) (by first | (simp [-map_take, -map_drop, -map_tail, rgs, free_of hnx, afsV, afrC, sltV]; done) | (simp [-map_take, -map_drop, -map_tail, rgs, free_of hnx, afsV, afrC, sltV]; rfl)) (by first | (simp [-map_take, -map_drop, -map_tail, rgs, free_of hnx, afsV, afrC, sltV]; done) | (simp [-map_take, -map_drop, -map_tail, rgs, free_of hnx, afsV, afrC, sltV]; rfl)) (by first | (simp; done) | (simp; omega)) (by first | (simp only [MLIM, LIM] at *; simp; omega) | (simp only [MLIM]; simp; omega)) (by simp [iv, bv]) ?_) | (with_reducible refine go_draw (i := 1) [(0, [], []), (1, [], [3]), (4, [], []), (5, [], [3]), (2, [.tmp 7], [3]), (3, [], []), (6, [], []), (7, [], []), (8, [], [])] (by kernel_rfl) ?_)) <;> simp [-map_take, -map_drop, -map_tail, rgs, free_of hnx, afsV, afrC, sltV])
end Go.AE.Try
end

section
/- Contracts of the reference's copies as new rows. -/
set_option maxRecDepth 8000
set_option maxHeartbeats 4000000
namespace Go.AE.Try
open Go.Proofs
open List (map_take map_drop map_tail)

theorem f_l1CopySlots {F : Nat → Bool} {s : Slt} (h1 : s.ages.length ≤ 1048576) (h2 : s.used.length ≤ 1048576) : FC ctx.P 36 [.agg (sltV F s)] (.agg [.ref 0 1 0 s.ages.length, .ref 1 1 0 s.used.length]) [.row 1 (s.ages.map iv), .row 1 (s.used.map bv)] := by
  refine FC.o okC Try.func36 rfl ((.one _ (.agg _ fun c hc => by simp at hc; rcases hc with rfl | rfl <;> first | exact .ref _ _ _ _ (by simp) | exact .fz _ (.int _ _)))) ((fun e he => by simp at he; rcases he with rfl | rfl <;> first | exact fz_mapR iv_fz _ | exact fz_mapR bv_fz _ | exact fz_mapR twgC_fz _ | exact fz_mapR tmrC_fz _ | exact fz_mapR afrC_fz _)) fun h nx hnx => ?_
  try simp [-map_take, -map_drop, -map_tail, rgs, free_of hnx, sltV, iv, bv]
  repeat' first | done | ((first | ((with_reducible show appS _ _ _ _ _ _ _ _); refine app_end rfl rfl (by decide) (by decide) (by first | (simp [-map_take, -map_drop, -map_tail, rgs, free_of hnx, sltV, iv, bv]; done) | (simp [-map_take, -map_drop, -map_tail, rgs, free_of hnx, sltV, iv, bv]; rfl)) (by first | (simp [-map_take, -map_drop, -map_tail, rgs, free_of hnx, sltV, iv, bv]; done) | (simp [-map_take, -map_drop, -map_tail, rgs, free_of hnx, sltV, iv, bv]; rfl)) (by first | (simp; done) | (simp; omega)) (by first | (simp only [MLIM, LIM] at *; simp; omega) | (simp only [MLIM]; simp; omega)) (by simp [iv, bv]) ?_) | (with_reducible refine go_draw (i := 1) [(1, [], []), (2, [], [0, 4]), (5, [], []), (6, [], [0, 4]), (0, [], []), (3, [.tmp 8], [4]), (4, [], []), (7, [], []), (8, [], []), (9, [], [])] (by kernel_rfl) ?_)) <;> simp [-map_take, -map_drop, -map_tail, rgs, free_of hnx, sltV, iv, bv])
  exact finF2 (i := nx + 5) (j := nx + 9) keepA (by omega) (by omega) (by omega) (by simp) (by simp) (by simp)
theorem f_l8Copy {F : Nat → Bool} {s : Afs} (h1 : s.slots.ages.length ≤ 1048576) (h2 : s.slots.used.length ≤ 1048576) (h3 : s.list.length ≤ 1048576) : FC ctx.P 16 [.agg (afsV F s)] (.agg [.ref 0 1 0 s.slots.ages.length, .ref 1 1 0 s.slots.used.length, .ref 2 5 0 s.list.length]) [.row 1 (s.slots.ages.map iv), .row 1 (s.slots.used.map bv), .row 5 (s.list.map afrC)] := by
  refine FC.o okC Try.func16 rfl ((.one _ (.agg _ fun c hc => by simp at hc; rcases hc with rfl | rfl | rfl <;> first | exact .ref _ _ _ _ (by simp) | exact .fz _ (.int _ _)))) ((fun e he => by simp at he; rcases he with rfl | rfl | rfl <;> first | exact fz_mapR iv_fz _ | exact fz_mapR bv_fz _ | exact fz_mapR twgC_fz _ | exact fz_mapR tmrC_fz _ | exact fz_mapR afrC_fz _)) fun h nx hnx => ?_
  try simp [-map_take, -map_drop, -map_tail, rgs, free_of hnx, afsV, afrC, sltV]
  repeat' first | done | ((first | ((with_reducible show doCall _ _ _ 36 _ _); refine call_fc (f_l1CopySlots (s := s.slots) (F := F) h1 h2) ?_) | ((with_reducible show appS _ _ _ _ _ _ _ _); refine app_end rfl rfl (by decide) (by decide) (by first | (simp [-map_take, -map_drop, -map_tail, rgs, free_of hnx, afsV, afrC, sltV]; done) | (simp [-map_take, -map_drop, -map_tail, rgs, free_of hnx, afsV, afrC, sltV]; rfl)) (by first | (simp [-map_take, -map_drop, -map_tail, rgs, free_of hnx, afsV, afrC, sltV]; done) | (simp [-map_take, -map_drop, -map_tail, rgs, free_of hnx, afsV, afrC, sltV]; rfl)) (by first | (simp; done) | (simp; omega)) (by first | (simp only [MLIM, LIM] at *; simp; omega) | (simp only [MLIM]; simp; omega)) (by simp [iv, bv]) ?_) | (with_reducible refine go_draw (i := 1) [(0, [], []), (1, [], [3]), (4, [], []), (5, [], [3]), (2, [.tmp 7], [3]), (3, [], []), (6, [], []), (7, [], []), (8, [], [])] (by kernel_rfl) ?_)) <;> simp [-map_take, -map_drop, -map_tail, rgs, free_of hnx, afsV, afrC, sltV])
  exact finF3 (i := nx + 11) (j := nx + 12) (l := nx + 8) keepA (by omega) (by omega) (by omega) (by omega) (by omega) (by omega) (by simp) (by simp) (by simp) (by simp)
end Go.AE.Try
end

section
/- Contracts of the reference's copies of worlds as new rows. -/
set_option maxRecDepth 8000
set_option maxHeartbeats 4000000
namespace Go.AE.Try
open Go.Proofs
end Go.AE.Try
end

section
/- Contracts of the reference's readers: worlds. -/
set_option maxRecDepth 8000
set_option maxHeartbeats 4000000
namespace Go.AE.Try
open Go.Proofs

end Go.AE.Try
end

section
/- Contracts of the reference's readers: worlds. -/
set_option maxRecDepth 8000
set_option maxHeartbeats 4000000
namespace Go.AE.Try
open Go.Proofs

end Go.AE.Try
end

section
/- Contracts of the reference's readers: worlds. -/
set_option maxRecDepth 8000
set_option maxHeartbeats 4000000
namespace Go.AE.Try
open Go.Proofs

end Go.AE.Try
end

section
/- Contracts of the reference's requests. -/
set_option maxRecDepth 8000
set_option maxHeartbeats 4000000
namespace Go.AE.Try
open Go.Proofs
end Go.AE.Try
end

section
/- Contracts of the reference's functions that are started. -/
set_option maxRecDepth 8000
set_option maxHeartbeats 4000000
namespace Go.AE.Try
open Go.Proofs
open List (map_take map_drop map_tail)
theorem s_Dropped {F : Nat → Bool} {s : Slt} {x : Han} (hs : sltOk s = true) (hc : canDrop s x = true) (hr : 0 ≤ x.age ∧ x.age < 1000000) : PC ctx.P 35 [.agg (sltV F s), .agg (hanC x)] (.tup [.agg (sltV (fun _ => true) (dropS s x)), .bool true]) := by
  have hsl := sltOk_len hs
  have hs64 : s.ages.length ≤ 64 := by simp [sltOk, inR] at hs; omega
  have hh : sltHolds s x = true := by simp [canDrop] at hc; exact hc.1
  have hsl2 : 0 ≤ x.slot ∧ x.slot < s.ages.length := by
    simp only [sltHolds, Bool.and_eq_true, isIn, inR, decide_eq_true_eq] at hh; omega
  have ew : IntKind.i64.wrap (x.age + 1) = x.age + 1 := i64_ok (by omega)
  have ha2 : (x.age == 1000000) = false := by simp; omega
  have n1 : x.slot.toNat < s.ages.length := by omega
  have hg : s.ages[x.slot.toNat]? = some x.age := by
    simp only [sltHolds, Bool.and_eq_true, beq_iff_eq] at hh
    rw [← hh.2.2, ← gt_some hsl2.1 hsl2.2]
  refine PC.o okC Try.func35 rfl (.tup _ (by simp only [List.mem_cons, List.not_mem_nil, or_false]; rintro c (rfl | rfl); exact .agg _ (sltV_fz _); exact .bool _)) fun h nx hnx => ?_
  try simp [-map_take, -map_drop, -map_tail, rgs, hs, hh, ha2, ew, hanC, sltV, iv, bv]
  repeat' first | done | ((first | ((with_reducible show iaddrS _ _ _ _ _ _ _); refine iaddr_map rfl omA omA ?_) | ((with_reducible show doCall _ _ _ 31 _ _); refine call_pc (s_SlotsOk (s := s) (F := F)) ?_) | ((with_reducible show doCall _ _ _ 36 _ _); refine call_fc (f_l1CopySlots (s := s) (F := F) (by omega) (by omega)) ?_) | ((with_reducible show doCall _ _ _ 33 _ _); refine call_pc (s_Holds (s := s) (F := F) (x := x)) ?_) | (((with_reducible show iaddrS _ _ _ _ (.ref _ _ _ _) _ _); refine iaddr_ref rfl (by omega) (by omega) ?_))) <;> simp [-map_take, -map_drop, -map_tail, rgs, hs, hh, ha2, ew, hanC, sltV, iv, bv]) | ((first | (with_reducible refine guardS_split ?_ ?_) | (with_reducible refine condS_split ?_ ?_)) <;> intro qb <;> (have qp := qb; try simp only [psq] at qp) <;> simp [-map_take, -map_drop, -map_tail, rgs, hs, hh, ha2, ew, hanC, sltV, iv, bv, qb])
  refine storeE_put (sz := 1) (xs := s.used.map bv) (cells := bv (gt s.used x.slot)) (by simp) rfl rfl rfl (by rw [List.getElem?_map, gt_some hsl2.1 (by omega)]; rfl) rfl ?_
  try simp [-map_take, -map_drop, -map_tail, rgs, hs, hh, ha2, ew, hanC, sltV, iv, bv]
  repeat' first | done | ((first | ((with_reducible show iaddrS _ _ _ _ _ _ _); refine iaddr_map rfl omA omA ?_) | (((with_reducible show iaddrS _ _ _ _ (.ref _ _ _ _) _ _); refine iaddr_ref rfl (by omega) (by omega) ?_))) <;> simp [-map_take, -map_drop, -map_tail, rgs, hs, hh, ha2, ew, hanC, sltV, iv, bv]) | ((first | (with_reducible refine guardS_split ?_ ?_) | (with_reducible refine condS_split ?_ ?_)) <;> intro qb <;> (have qp := qb; try simp only [psq] at qp) <;> simp [-map_take, -map_drop, -map_tail, rgs, hs, hh, ha2, ew, hanC, sltV, iv, bv, qb])
  refine storeE_put (sz := 1) (xs := s.ages.map iv) (cells := iv x.age) (by simp [iv]) rfl rfl rfl (by rw [List.getElem?_map, hg]; rfl) rfl ?_
  try simp [-map_take, -map_drop, -map_tail, rgs, hs, hh, ha2, ew, hanC, sltV, iv, bv]
  repeat' first | done | ((first | ((with_reducible show iaddrS _ _ _ _ _ _ _); refine iaddr_map rfl omA omA ?_)) <;> simp [-map_take, -map_drop, -map_tail, rgs, hs, hh, ha2, ew, hanC, sltV, iv, bv]) | ((first | (with_reducible refine guardS_split ?_ ?_) | (with_reducible refine condS_split ?_ ?_)) <;> intro qb <;> (have qp := qb; try simp only [psq] at qp) <;> simp [-map_take, -map_drop, -map_tail, rgs, hs, hh, ha2, ew, hanC, sltV, iv, bv, qb])
  exact ⟨by rw [List.take_of_length_le (by simp)]; simp [dropS, iv, List.map_set], by rw [List.take_of_length_le (by simp)]; simp [dropS, bv, List.map_set]⟩
theorem s_l8Away {F : Nat → Bool} {a : Afs} {i : Nat} (hs : sltOk a.slots = true) (hi : i < a.list.length) (hl : a.list.length ≤ 64) (hc : canDrop a.slots (gt a.list (i : Int)).han = true) (hr : 0 ≤ (gt a.list (i : Int)).han.age ∧ (gt a.list (i : Int)).han.age < 1000000) :
    PC ctx.P 15 [.agg (afsV F a), .int .i64 i] (.agg (afsV (fun _ => true) (goA a i))) := by
  have hsl := sltOk_len hs
  have hs64 : a.slots.ages.length ≤ 64 := by simp [sltOk, inR] at hs; omega
  have ew : IntKind.i64.wrap ((i : Int) + 1) = (i : Int) + 1 := i64_ok (by omega)
  have hgx : (gt a.list (i : Int)) = gt a.list (i : Int) := rfl
  have hdr := s_Dropped (F := F) (x := (gt a.list (i : Int)).han) hs hc hr
  refine PC.o okC Try.func15 rfl (.agg _ (afsV_fz _)) fun h nx hnx => ?_
  try simp [-map_take, -map_drop, -map_tail, rgs, afsV, sltV, free_of hnx, ew]
  repeat' first | done | ((first | ((with_reducible show iaddrS _ _ _ _ _ _ _); refine iaddr_map rfl omA omA ?_) | ((with_reducible show sliceS _ _ _ _ _ _ _ _); refine slice_to rfl omA omA ?_) | ((with_reducible show sliceS _ _ _ _ _ _ _ _); refine slice_from rfl omA omA ?_) | ((with_reducible show sliceS _ _ _ _ _ _ _ _); refine slice_mid rfl omA omA omA ?_) | ((with_reducible show sliceI _ _ _ _ _ _ _ _ _ _ _); refine sliceI_to rfl omA omA ?_) | ((with_reducible show sliceI _ _ _ _ _ _ _ _ _ _ _); refine sliceI_from rfl omA omA ?_) | ((with_reducible show sliceI _ _ _ _ _ _ _ _ _ _ _); refine sliceI_mid rfl omA omA omA ?_) | ((with_reducible show doCall _ _ _ 16 _ _); refine call_fc (f_l8Copy (s := a) (F := F) (by omega) (by omega) (by omega)) ?_) | ((with_reducible show appS _ _ _ _ _ _ _ _); refine app_end rfl rfl (by decide) (by decide) (by first | (simp [-map_take, -map_drop, -map_tail, rgs, afsV, sltV, free_of hnx, ew]; done) | (simp [-map_take, -map_drop, -map_tail, rgs, afsV, sltV, free_of hnx, ew]; rfl)) (by first | (simp [-map_take, -map_drop, -map_tail, rgs, afsV, sltV, free_of hnx, ew]; done) | (simp [-map_take, -map_drop, -map_tail, rgs, afsV, sltV, free_of hnx, ew]; rfl)) (by first | (simp; done) | (simp; omega)) (by first | (simp only [MLIM, LIM] at *; simp; omega) | (simp only [MLIM]; simp; omega)) (by simp [iv, bv]) ?_) | (with_reducible refine go_draw (i := 2) [(0, [], []), (1, [], []), (2, [], []), (3, [], []), (4, [], []), (5, [], []), (6, [], []), (7, [], []), (8, [], []), (9, [], []), (10, [], []), (11, [], []), (12, [], []), (13, [], [])] (by kernel_rfl) ?_) | (with_reducible refine go_draw (i := 3) [(1, [], []), (2, [], [0]), (3, [], []), (4, [], []), (6, [], []), (7, [], [0]), (8, [], []), (9, [], []), (10, [], []), (0, [], []), (5, [.tmp 27], []), (11, [], []), (12, [], []), (13, [], [])] (by kernel_rfl) ?_)) <;> simp [-map_take, -map_drop, -map_tail, rgs, afsV, sltV, free_of hnx, ew])
  rw [show List.take 2 (afrC (gt a.list (i : Int))) = hanC (gt a.list (i : Int)).han from rfl]
  refine call_pc hdr ?_
  try simp [-map_take, -map_drop, -map_tail, rgs, afsV, sltV, free_of hnx, ew, afrC]
  repeat' first | done | ((first | ((with_reducible show iaddrS _ _ _ _ _ _ _); refine iaddr_map rfl omA omA ?_) | ((with_reducible show sliceS _ _ _ _ _ _ _ _); refine slice_to rfl omA omA ?_) | ((with_reducible show sliceS _ _ _ _ _ _ _ _); refine slice_from rfl omA omA ?_) | ((with_reducible show sliceS _ _ _ _ _ _ _ _); refine slice_mid rfl omA omA omA ?_) | ((with_reducible show sliceI _ _ _ _ _ _ _ _ _ _ _); refine sliceI_to rfl omA omA ?_) | ((with_reducible show sliceI _ _ _ _ _ _ _ _ _ _ _); refine sliceI_from rfl omA omA ?_) | ((with_reducible show sliceI _ _ _ _ _ _ _ _ _ _ _); refine sliceI_mid rfl omA omA omA ?_) | (((with_reducible show appS _ _ _ _ _ _ _ _); refine app_end rfl rfl (by decide) (by decide) (by simp; rfl) (by simp; rfl) (by simp) (by simp only [MLIM]; simp; omega) (by first | exact ho_take afr_one _ _ | exact ho_drop afr_one _ _) ?_)) | ((with_reducible show appS _ _ _ _ _ _ _ _); refine app_end rfl rfl (by decide) (by decide) (by first | (simp [-map_take, -map_drop, -map_tail, rgs, afsV, sltV, free_of hnx, ew, afrC]; done) | (simp [-map_take, -map_drop, -map_tail, rgs, afsV, sltV, free_of hnx, ew, afrC]; rfl)) (by first | (simp [-map_take, -map_drop, -map_tail, rgs, afsV, sltV, free_of hnx, ew, afrC]; done) | (simp [-map_take, -map_drop, -map_tail, rgs, afsV, sltV, free_of hnx, ew, afrC]; rfl)) (by first | (simp; done) | (simp; omega)) (by first | (simp only [MLIM, LIM] at *; simp; omega) | (simp only [MLIM]; simp; omega)) (by simp [iv, bv]) ?_) | (with_reducible refine go_draw (i := 2) [(0, [], []), (1, [], []), (2, [], []), (3, [], []), (4, [], []), (5, [], []), (6, [], []), (7, [], []), (8, [], []), (9, [], []), (10, [], []), (11, [], []), (12, [], []), (13, [], [])] (by kernel_rfl) ?_) | (with_reducible refine go_draw (i := 3) [(1, [], []), (2, [], [0]), (3, [], []), (4, [], []), (6, [], []), (7, [], [0]), (8, [], []), (9, [], []), (10, [], []), (0, [], []), (5, [.tmp 27], []), (11, [], []), (12, [], []), (13, [], [])] (by kernel_rfl) ?_)) <;> simp [-map_take, -map_drop, -map_tail, rgs, afsV, sltV, free_of hnx, ew, afrC])
  refine ⟨rfl, rfl, ?_⟩
  rw [List.take_of_length_le (by simp)]
  simp only [goA, List.eraseIdx_eq_take_drop_succ, List.map_append, List.map_take, List.map_drop]
theorem s_Started {F : Nat → Bool} {A : Afs} (hs : afsOk A = true) : PC ctx.P 5 [.agg (afsV F A)] (.tup [.agg (afsV (fun _ => true) (match goAt A with | some i => goA A i | none => A)), .agg (afrC (match goAt A with | some i => gt A.list (i : Int) | none => default)), .bool (goAt A).isSome]) := by
  obtain ⟨a1, a2, a3⟩ := afs_facts hs
  have hso : sltOk A.slots = true := by simp [afsOk] at hs; exact hs.1
  have hs64 : A.slots.ages.length ≤ 64 := by simp [sltOk, inR] at hso; omega
  have hlim : A.list.length ≤ LIM := by simp only [LIM]; omega
  have hheld := afs_held hs
  refine PC.o okC Try.func5 rfl (.tup _ (by simp only [List.mem_cons, List.not_mem_nil, or_false]; rintro c (rfl | rfl | rfl); exact .agg _ (afsV_fz _); exact .agg _ (afrC_fz _); exact .bool _)) fun h nx hnx => ?_
  try simp [-map_take, -map_drop, -map_tail, rgs, hs, afsV]
  repeat' first | done | ((first | ((with_reducible show lenS _ _ _ _ _ _); refine lenS_slice rfl fun _ => ?_) | ((with_reducible show iaddrS _ _ _ _ _ _ _); refine iaddr_map rfl omA omA ?_) | ((with_reducible show doCall _ _ _ 14 _ _); refine call_pc (s_AftersOk (x := A) (F := F)) ?_) | (with_reducible refine go_draw (i := 7) [(0, [], []), (1, [], []), (3, [], []), (4, [], []), (5, [], []), (6, [], []), (7, [], []), (2, [.tmp 37, .tmp 40], []), (8, [.tmp 37, .tmp 40], []), (9, [], []), (10, [], [])] (by kernel_rfl) ?_)) <;> simp [-map_take, -map_drop, -map_tail, rgs, hs, afsV]) | ((first | (with_reducible refine guardS_split ?_ ?_) | (with_reducible refine condS_split ?_ ?_)) <;> intro qb <;> (have qp := qb; try simp only [psq] at qp) <;> simp [-map_take, -map_drop, -map_tail, rgs, hs, afsV, qb])
  refine go_upP [4, 5, 11, 12, 13, 14, 15, 16, 17, 18, 19, 20, 21, 22, 23, 24, 25, 26, 27, 28, 29, 30, 31, 32, 33, 34, 35, 36, 37, 38, 39, 40, 41] (A.list.length) (fun (i : Nat) a => [(5, .int .i64 i)]) (fun i_ a_ h_ _ => (fun i (_ : Unit) h' => (∀ k : Nat, k < i → isGo A (gt A.list (k : Int)) = false)) i_ a_ h_) (()) (by simp) ?_ keep_rfl (Nat.le_refl _) ?_
  · exact fun k hk => by omega
  · intro i a tm h' n' hle hJ hE hn' next hnx
    try dsimp only at hJ
    have hK : KeepB nx h' h := KeepB.sub hE keepA (by omega)
    simp [-map_take, -map_drop, -map_tail]
    have e1 : h' (nx) = some (.obj (afsV F A)) := by have := hE (nx) (by omega); simpa [afsV] using this
    have e1n : ∀ k, ((nx) = n' + k) = False := fun k => by simp only [eq_iff_iff, iff_false]; omega
    have e1m : ((nx) = n') = False := by simp only [eq_iff_iff, iff_false]; omega
    have e2 : h' (nx + 1) = some (.obj [.nil, .nil, .nil]) := by have := hE (nx + 1) (by omega); simpa using this
    have e2n : ∀ k, ((nx + 1) = n' + k) = False := fun k => by simp only [eq_iff_iff, iff_false]; omega
    have e2m : ((nx + 1) = n') = False := by simp only [eq_iff_iff, iff_false]; omega
    have e3 : h' (nx + 2) = some (.obj [.int .i64 0, .int .i64 0, .int .i64 0, .int .i64 0, .bool false]) := by have := hE (nx + 2) (by omega); simpa using this
    have e3n : ∀ k, ((nx + 2) = n' + k) = False := fun k => by simp only [eq_iff_iff, iff_false]; omega
    have e3m : ((nx + 2) = n') = False := by simp only [eq_iff_iff, iff_false]; omega
    by_cases hlt : i < A.list.length
    · obtain ⟨x, hx⟩ : ∃ x, x = gt A.list (i : Int) := ⟨_, rfl⟩
      have hh := hheld i hlt
      have h3 := a3 i hlt
      have haw := fun hc => s_l8Away (F := F) (a := A) (i := i) hso hlt a2 hc (h3 hc)
      rw [← hx] at hh h3 haw
      by_cases hq : x.queued = true
      · by_cases hc : canDrop A.slots x.han = true
        · have hgo : goAt A = some i := goAt_some hlt hJ (by simp [isGo, ← hx, hq, hc])
          have hz : (x.han.age < 1000000) = True := by simp only [eq_iff_iff, iff_true]; exact (h3 hc).2
          have haw := haw hc
          rw [hgo]
          try simp [-map_take, -map_drop, -map_tail, rgs, e1, e1n, e1m, e2, e2n, e2m, e3, e3n, e3m, hlt, afsV, hz, ← hx, hq, afrC]
          repeat' first | done | ((first | ((with_reducible show lenS _ _ _ _ _ _); refine lenS_slice rfl fun _ => ?_) | ((with_reducible show iaddrS _ _ _ _ _ _ _); refine iaddr_map rfl omA omA ?_) | (refine call_pc (haw) ?_) | (with_reducible refine go_draw (i := 7) [(0, [], []), (1, [], []), (3, [], []), (4, [], []), (5, [], []), (6, [], []), (7, [], []), (2, [.tmp 37, .tmp 40], []), (8, [.tmp 37, .tmp 40], []), (9, [], []), (10, [], [])] (by kernel_rfl) ?_)) <;> simp [-map_take, -map_drop, -map_tail, rgs, e1, e1n, e1m, e2, e2n, e2m, e3, e3n, e3m, hlt, afsV, hz, ← hx, hq, afrC]) | ((first | (with_reducible refine guardS_split ?_ ?_) | (with_reducible refine condS_split ?_ ?_)) <;> intro qb <;> (have qp := qb; try simp only [psq] at qp) <;> simp [-map_take, -map_drop, -map_tail, rgs, e1, e1n, e1m, e2, e2n, e2m, e3, e3n, e3m, hlt, afsV, hz, ← hx, hq, afrC, qb])
          exact keepA
        · have hz : (x.han.age < 1000000) = False := by
            simp only [eq_iff_iff, iff_false]
            simp [canDrop, hh] at hc
            omega
          try simp [-map_take, -map_drop, -map_tail, rgs, e1, e1n, e1m, hlt, afsV, hz, ← hx, hq, afrC]
          repeat' first | done | ((first | ((with_reducible show lenS _ _ _ _ _ _); refine lenS_slice rfl fun _ => ?_) | ((with_reducible show iaddrS _ _ _ _ _ _ _); refine iaddr_map rfl omA omA ?_) | (with_reducible refine go_draw (i := 7) [(0, [], []), (1, [], []), (3, [], []), (4, [], []), (5, [], []), (6, [], []), (7, [], []), (2, [.tmp 37, .tmp 40], []), (8, [.tmp 37, .tmp 40], []), (9, [], []), (10, [], [])] (by kernel_rfl) ?_)) <;> simp [-map_take, -map_drop, -map_tail, rgs, e1, e1n, e1m, hlt, afsV, hz, ← hx, hq, afrC]) | ((first | (with_reducible refine guardS_split ?_ ?_) | (with_reducible refine condS_split ?_ ?_)) <;> intro qb <;> (have qp := qb; try simp only [psq] at qp) <;> simp [-map_take, -map_drop, -map_tail, rgs, e1, e1n, e1m, hlt, afsV, hz, ← hx, hq, afrC, qb])
          refine hnx.go () ?_ ?_ ?_ ?_ ?_ ?_
          · omega
          · simp [wrap_succ hlt hlim]
          · simp
          · exact keepA
          · first | omega | (simp; omega)
          try dsimp only
          intro k hk
          by_cases hk2 : k < i
          · exact hJ k hk2
          · obtain rfl : k = i := by omega
            simp [isGo, ← hx, hc]
      · try simp [-map_take, -map_drop, -map_tail, rgs, e1, e1n, e1m, hlt, afsV, ← hx, hq, afrC]
        repeat' first | done | ((first | ((with_reducible show lenS _ _ _ _ _ _); refine lenS_slice rfl fun _ => ?_) | ((with_reducible show iaddrS _ _ _ _ _ _ _); refine iaddr_map rfl omA omA ?_) | (with_reducible refine go_draw (i := 7) [(0, [], []), (1, [], []), (3, [], []), (4, [], []), (5, [], []), (6, [], []), (7, [], []), (2, [.tmp 37, .tmp 40], []), (8, [.tmp 37, .tmp 40], []), (9, [], []), (10, [], [])] (by kernel_rfl) ?_)) <;> simp [-map_take, -map_drop, -map_tail, rgs, e1, e1n, e1m, hlt, afsV, ← hx, hq, afrC]) | ((first | (with_reducible refine guardS_split ?_ ?_) | (with_reducible refine condS_split ?_ ?_)) <;> intro qb <;> (have qp := qb; try simp only [psq] at qp) <;> simp [-map_take, -map_drop, -map_tail, rgs, e1, e1n, e1m, hlt, afsV, ← hx, hq, afrC, qb])
        refine hnx.go () ?_ ?_ ?_ ?_ ?_ ?_
        · omega
        · simp [wrap_succ hlt hlim]
        · simp
        · exact keepA
        · first | omega | (simp; omega)
        try dsimp only
        intro k hk
        by_cases hk2 : k < i
        · exact hJ k hk2
        · obtain rfl : k = i := by omega
          simp [isGo, ← hx, hq]
    · have he : i = A.list.length := by omega
      subst he
      have hgo : goAt A = none := goAt_none hJ
      rw [hgo]
      try simp [-map_take, -map_drop, -map_tail, rgs, e1, e1n, e1m, e2, e2n, e2m, e3, e3n, e3m, hlt, afsV, afrC]
      repeat' first | done | ((first | ((with_reducible show lenS _ _ _ _ _ _); refine lenS_slice rfl fun _ => ?_) | ((with_reducible show iaddrS _ _ _ _ _ _ _); refine iaddr_map rfl omA omA ?_) | ((with_reducible show doCall _ _ _ 16 _ _); refine call_pc (s_l8Copy (s := A) (F := F) (by omega) (by omega) (by omega)) ?_) | (with_reducible refine go_draw (i := 7) [(0, [], []), (1, [], []), (3, [], []), (4, [], []), (5, [], []), (6, [], []), (7, [], []), (2, [.tmp 37, .tmp 40], []), (8, [.tmp 37, .tmp 40], []), (9, [], []), (10, [], [])] (by kernel_rfl) ?_)) <;> simp [-map_take, -map_drop, -map_tail, rgs, e1, e1n, e1m, e2, e2n, e2m, e3, e3n, e3m, hlt, afsV, afrC]) | ((first | (with_reducible refine guardS_split ?_ ?_) | (with_reducible refine condS_split ?_ ?_)) <;> intro qb <;> (have qp := qb; try simp only [psq] at qp) <;> simp [-map_take, -map_drop, -map_tail, rgs, e1, e1n, e1m, e2, e2n, e2m, e3, e3n, e3m, hlt, afsV, afrC, qb])
      exact ⟨⟨rfl, rfl, rfl, rfl, rfl⟩, keepA⟩
end Go.AE.Try
end

section
/- Contracts of the laws' marks. -/
set_option maxRecDepth 8000
set_option maxHeartbeats 4000000
namespace Go.AE.Try
open Go.Proofs
open List (map_take map_drop map_tail)

def mkAfr (k : Int) : Afr := ⟨⟨k, k + 1⟩, k + 2, k + 3, (k + 4).tmod 3 == 0⟩
theorem m_markAfterS {id : Nat} {xs : List Afr} {k : Int} (hlim : xs.length ≤ LIM) (h0 : 0 ≤ k) (h1 : k ≤ 1152921504606846976) : AC ctx.P 26 [.ref id 5 0 xs.length, .int .i64 k] (fun h _ => h id = some (.row 5 (xs.map afrC)))
    (fun h nx v h' nx' => v = .int .i64 (k + (5 : Nat) * xs.length) ∧ h' id = some (.row 5 ((markL mkAfr 5 k xs.length).map afrC)) ∧ ∀ j, j < nx → j ≠ id → h' j = h j) := by
  refine AC.o okC Try.func26 rfl fun h nx hfr hnx hpre => ?_
  have hid : id < nx := hnx id (by rw [hpre]; simp)
  try simp [-map_take, -map_drop, -map_tail, rgs]
  repeat' first | done | ((first | ((with_reducible show lenS _ _ _ _ _ _); refine lenS_slice rfl fun _ => ?_) | ((with_reducible show iaddrS _ _ _ _ _ _ _); refine iaddr_map rfl omA omA ?_)) <;> simp [-map_take, -map_drop, -map_tail, rgs]) | ((first | (with_reducible refine condS_split ?_ ?_)) <;> intro qb <;> (have qp := qb; try simp only [psq] at qp) <;> simp [-map_take, -map_drop, -map_tail, rgs, qb])
  refine go_upP (h0 := h) (nx0 := 0) [1, 5, 6, 7, 8, 9, 10, 11, 12, 13, 14, 15, 16, 17, 18, 19, 20, 21, 22, 23, 24, 25, 26, 27, 28, 29, 30, 31, 32, 33, 34, 35, 36, 37, 38, 39, 40, 41, 42, 43, 44, 45, 46, 47, 48, 49, 50] (xs.length) (fun (i : Nat) a => [(5, .int .i64 i), (1, .int .i64 (k + (5 : Nat) * i))]) (fun i (_ : Unit) h' n' => h' id = some (.row 5 (markF afrC mkAfr 5 k xs i)) ∧ (∀ j, j < nx → j ≠ id → h' j = h j) ∧ nx ≤ n') (()) (by simp) ?_ (fun j hj => absurd hj (by omega)) (Nat.zero_le _) ?_
  · simp [markF_0, hpre]
  · intro i a tm h' n' hle hJ hE hn' next hnx
    try dsimp only at hJ
    simp [-map_take, -map_drop, -map_tail]
    obtain ⟨hJ, hJf, hJn⟩ := hJ
    by_cases hlt : i < xs.length
    · have hl : (markF afrC mkAfr 5 k xs i).length = xs.length := markF_len (by omega)
      rw [markF_self hlt] at hJ
      have hlim0 := hlim
      simp only [LIM] at hlim
      try simp [-map_take, -map_drop, -map_tail, rgs, hJ, afrC, i64_ok (x := k + 5 * (i : Int) + 1) (by omega), i64_ok (x := k + 5 * (i : Int) + 1 + 1) (by omega), i64_ok (x := k + 5 * (i : Int) + 1 + 1 + 1) (by omega), i64_ok (x := k + 5 * (i : Int) + 1 + 1 + 1 + 1) (by omega), i64_ok (x := k + 5 * (i : Int) + 1 + 1 + 1 + 1 + 1) (by omega)]
      repeat' first | done | ((first | ((with_reducible show lenS _ _ _ _ _ _); refine lenS_slice rfl fun _ => ?_) | ((with_reducible show iaddrS _ _ _ _ _ _ _); refine iaddr_map rfl omA omA ?_) | (((with_reducible show iaddrS _ _ _ _ (.ref _ _ _ _) _ _); refine iaddr_ref rfl (by omega) (by omega) ?_)) | (((with_reducible show storeE _ _ _ _ _ _ _ _ _); refine storeE_fld (xs := markF afrC mkAfr 5 k xs i) (by first | exact hJ | exact upd_same _ _ _) (by omega) rfl rfl (by omega) ?_))) <;> simp [-map_take, -map_drop, -map_tail, rgs, hJ, afrC, i64_ok (x := k + 5 * (i : Int) + 1) (by omega), i64_ok (x := k + 5 * (i : Int) + 1 + 1) (by omega), i64_ok (x := k + 5 * (i : Int) + 1 + 1 + 1) (by omega), i64_ok (x := k + 5 * (i : Int) + 1 + 1 + 1 + 1) (by omega), i64_ok (x := k + 5 * (i : Int) + 1 + 1 + 1 + 1 + 1) (by omega)]) | ((first | (with_reducible refine condS_split ?_ ?_)) <;> intro qb <;> (have qp := qb; try simp only [psq] at qp) <;> simp [-map_take, -map_drop, -map_tail, rgs, hJ, afrC, i64_ok (x := k + 5 * (i : Int) + 1) (by omega), i64_ok (x := k + 5 * (i : Int) + 1 + 1) (by omega), i64_ok (x := k + 5 * (i : Int) + 1 + 1 + 1) (by omega), i64_ok (x := k + 5 * (i : Int) + 1 + 1 + 1 + 1) (by omega), i64_ok (x := k + 5 * (i : Int) + 1 + 1 + 1 + 1 + 1) (by omega), qb])
      all_goals first
      | omega
      | (refine hnx.go () ?_ ?_ ?_ ?_ ?_ ?_
         · omega
         · simp [wrap_succ hlt hlim0] <;> omega
         · simp
         · exact fun j hj => absurd hj (by omega)
         · exact Nat.zero_le _
         try dsimp only
         refine ⟨?_, fun j hj hji => ?_, by omega⟩
         · rw [← markF_set hlt]
           simp [mkAfr, afrC, Int.add_assoc]
         · simp [hji]
           exact hJf j hj hji)
    · try simp [-map_take, -map_drop, -map_tail, rgs, hJ, hlt]
      repeat' first | done | ((first | ((with_reducible show lenS _ _ _ _ _ _); refine lenS_slice rfl fun _ => ?_) | ((with_reducible show iaddrS _ _ _ _ _ _ _); refine iaddr_map rfl omA omA ?_)) <;> simp [-map_take, -map_drop, -map_tail, rgs, hJ, hlt]) | ((first | (with_reducible refine condS_split ?_ ?_)) <;> intro qb <;> (have qp := qb; try simp only [psq] at qp) <;> simp [-map_take, -map_drop, -map_tail, rgs, hJ, hlt, qb])
      refine ⟨by omega, ?_, hJf⟩
      have : i = xs.length := by omega
      subst this
      exact markF_end (Nat.le_refl _)

def mkInt (k : Int) : Int := k
theorem m_markInt64S {id : Nat} {xs : List Int} {k : Int} (hlim : xs.length ≤ LIM) (h0 : 0 ≤ k) (h1 : k ≤ 1152921504606846976) : AC ctx.P 51 [.ref id 1 0 xs.length, .int .i64 k] (fun h _ => h id = some (.row 1 (xs.map iv)))
    (fun h nx v h' nx' => v = .int .i64 (k + (1 : Nat) * xs.length) ∧ h' id = some (.row 1 ((markL mkInt 1 k xs.length).map iv)) ∧ ∀ j, j < nx → j ≠ id → h' j = h j) := by
  refine AC.o okC Try.func51 rfl fun h nx hfr hnx hpre => ?_
  have hid : id < nx := hnx id (by rw [hpre]; simp)
  try simp [-map_take, -map_drop, -map_tail, rgs]
  repeat' first | done | ((first | ((with_reducible show lenS _ _ _ _ _ _); refine lenS_slice rfl fun _ => ?_) | ((with_reducible show iaddrS _ _ _ _ _ _ _); refine iaddr_map rfl omA omA ?_)) <;> simp [-map_take, -map_drop, -map_tail, rgs]) | ((first | (with_reducible refine condS_split ?_ ?_)) <;> intro qb <;> (have qp := qb; try simp only [psq] at qp) <;> simp [-map_take, -map_drop, -map_tail, rgs, qb])
  refine go_upP (h0 := h) (nx0 := 0) [1, 5, 6, 7, 8, 9, 10, 11, 12, 13, 14, 15, 16, 17] (xs.length) (fun (i : Nat) a => [(5, .int .i64 i), (1, .int .i64 (k + (1 : Nat) * i))]) (fun i (_ : Unit) h' n' => h' id = some (.row 1 (markF iv mkInt 1 k xs i)) ∧ (∀ j, j < nx → j ≠ id → h' j = h j) ∧ nx ≤ n') (()) (by simp) ?_ (fun j hj => absurd hj (by omega)) (Nat.zero_le _) ?_
  · simp [markF_0, hpre]
  · intro i a tm h' n' hle hJ hE hn' next hnx
    try dsimp only at hJ
    simp [-map_take, -map_drop, -map_tail]
    obtain ⟨hJ, hJf, hJn⟩ := hJ
    by_cases hlt : i < xs.length
    · have hl : (markF iv mkInt 1 k xs i).length = xs.length := markF_len (by omega)
      rw [markF_self hlt] at hJ
      have hlim0 := hlim
      simp only [LIM] at hlim
      try simp [-map_take, -map_drop, -map_tail, rgs, hJ, iv, i64_ok (x := k + (i : Int) + 1) (by omega)]
      repeat' first | done | ((first | ((with_reducible show lenS _ _ _ _ _ _); refine lenS_slice rfl fun _ => ?_) | ((with_reducible show iaddrS _ _ _ _ _ _ _); refine iaddr_map rfl omA omA ?_) | (((with_reducible show iaddrS _ _ _ _ (.ref _ _ _ _) _ _); refine iaddr_ref rfl (by omega) (by omega) ?_)) | (((with_reducible show storeE _ _ _ _ _ _ _ _ _); refine storeE_fld (xs := markF iv mkInt 1 k xs i) (by first | exact hJ | exact upd_same _ _ _) (by omega) rfl rfl (by omega) ?_))) <;> simp [-map_take, -map_drop, -map_tail, rgs, hJ, iv, i64_ok (x := k + (i : Int) + 1) (by omega)]) | ((first | (with_reducible refine condS_split ?_ ?_)) <;> intro qb <;> (have qp := qb; try simp only [psq] at qp) <;> simp [-map_take, -map_drop, -map_tail, rgs, hJ, iv, i64_ok (x := k + (i : Int) + 1) (by omega), qb])
      all_goals first
      | omega
      | (refine hnx.go () ?_ ?_ ?_ ?_ ?_ ?_
         · omega
         · simp [wrap_succ hlt hlim0] <;> omega
         · simp
         · exact fun j hj => absurd hj (by omega)
         · exact Nat.zero_le _
         try dsimp only
         refine ⟨?_, fun j hj hji => ?_, by omega⟩
         · rw [← markF_set hlt]
           simp [mkInt, iv, Int.add_assoc]
         · simp [hji]
           exact hJf j hj hji)
    · try simp [-map_take, -map_drop, -map_tail, rgs, hJ, hlt]
      repeat' first | done | ((first | ((with_reducible show lenS _ _ _ _ _ _); refine lenS_slice rfl fun _ => ?_) | ((with_reducible show iaddrS _ _ _ _ _ _ _); refine iaddr_map rfl omA omA ?_)) <;> simp [-map_take, -map_drop, -map_tail, rgs, hJ, hlt]) | ((first | (with_reducible refine condS_split ?_ ?_)) <;> intro qb <;> (have qp := qb; try simp only [psq] at qp) <;> simp [-map_take, -map_drop, -map_tail, rgs, hJ, hlt, qb])
      refine ⟨by omega, ?_, hJf⟩
      have : i = xs.length := by omega
      subst this
      exact markF_end (Nat.le_refl _)

def mkBool (k : Int) : Bool := k.tmod 3 == 0
theorem m_markBoolS {id : Nat} {xs : List Bool} {k : Int} (hlim : xs.length ≤ LIM) (h0 : 0 ≤ k) (h1 : k ≤ 1152921504606846976) : AC ctx.P 52 [.ref id 1 0 xs.length, .int .i64 k] (fun h _ => h id = some (.row 1 (xs.map bv)))
    (fun h nx v h' nx' => v = .int .i64 (k + (1 : Nat) * xs.length) ∧ h' id = some (.row 1 ((markL mkBool 1 k xs.length).map bv)) ∧ ∀ j, j < nx → j ≠ id → h' j = h j) := by
  refine AC.o okC Try.func52 rfl fun h nx hfr hnx hpre => ?_
  have hid : id < nx := hnx id (by rw [hpre]; simp)
  try simp [-map_take, -map_drop, -map_tail, rgs]
  repeat' first | done | ((first | ((with_reducible show lenS _ _ _ _ _ _); refine lenS_slice rfl fun _ => ?_) | ((with_reducible show iaddrS _ _ _ _ _ _ _); refine iaddr_map rfl omA omA ?_)) <;> simp [-map_take, -map_drop, -map_tail, rgs]) | ((first | (with_reducible refine condS_split ?_ ?_)) <;> intro qb <;> (have qp := qb; try simp only [psq] at qp) <;> simp [-map_take, -map_drop, -map_tail, rgs, qb])
  refine go_upP (h0 := h) (nx0 := 0) [1, 5, 6, 7, 8, 9, 10, 11, 12, 13, 14, 15, 16, 17, 18, 19] (xs.length) (fun (i : Nat) a => [(5, .int .i64 i), (1, .int .i64 (k + (1 : Nat) * i))]) (fun i (_ : Unit) h' n' => h' id = some (.row 1 (markF bv mkBool 1 k xs i)) ∧ (∀ j, j < nx → j ≠ id → h' j = h j) ∧ nx ≤ n') (()) (by simp) ?_ (fun j hj => absurd hj (by omega)) (Nat.zero_le _) ?_
  · simp [markF_0, hpre]
  · intro i a tm h' n' hle hJ hE hn' next hnx
    try dsimp only at hJ
    simp [-map_take, -map_drop, -map_tail]
    obtain ⟨hJ, hJf, hJn⟩ := hJ
    by_cases hlt : i < xs.length
    · have hl : (markF bv mkBool 1 k xs i).length = xs.length := markF_len (by omega)
      rw [markF_self hlt] at hJ
      have hlim0 := hlim
      simp only [LIM] at hlim
      try simp [-map_take, -map_drop, -map_tail, rgs, hJ, bv, i64_ok (x := k + (i : Int) + 1) (by omega)]
      repeat' first | done | ((first | ((with_reducible show lenS _ _ _ _ _ _); refine lenS_slice rfl fun _ => ?_) | ((with_reducible show iaddrS _ _ _ _ _ _ _); refine iaddr_map rfl omA omA ?_) | (((with_reducible show iaddrS _ _ _ _ (.ref _ _ _ _) _ _); refine iaddr_ref rfl (by omega) (by omega) ?_)) | (((with_reducible show storeE _ _ _ _ _ _ _ _ _); refine storeE_fld (xs := markF bv mkBool 1 k xs i) (by first | exact hJ | exact upd_same _ _ _) (by omega) rfl rfl (by omega) ?_))) <;> simp [-map_take, -map_drop, -map_tail, rgs, hJ, bv, i64_ok (x := k + (i : Int) + 1) (by omega)]) | ((first | (with_reducible refine condS_split ?_ ?_)) <;> intro qb <;> (have qp := qb; try simp only [psq] at qp) <;> simp [-map_take, -map_drop, -map_tail, rgs, hJ, bv, i64_ok (x := k + (i : Int) + 1) (by omega), qb])
      all_goals first
      | omega
      | (refine hnx.go () ?_ ?_ ?_ ?_ ?_ ?_
         · omega
         · simp [wrap_succ hlt hlim0] <;> omega
         · simp
         · exact fun j hj => absurd hj (by omega)
         · exact Nat.zero_le _
         try dsimp only
         refine ⟨?_, fun j hj hji => ?_, by omega⟩
         · rw [← markF_set hlt]
           simp [mkBool, bv, Int.add_assoc]
         · simp [hji]
           exact hJf j hj hji)
    · try simp [-map_take, -map_drop, -map_tail, rgs, hJ, hlt]
      repeat' first | done | ((first | ((with_reducible show lenS _ _ _ _ _ _); refine lenS_slice rfl fun _ => ?_) | ((with_reducible show iaddrS _ _ _ _ _ _ _); refine iaddr_map rfl omA omA ?_)) <;> simp [-map_take, -map_drop, -map_tail, rgs, hJ, hlt]) | ((first | (with_reducible refine condS_split ?_ ?_)) <;> intro qb <;> (have qp := qb; try simp only [psq] at qp) <;> simp [-map_take, -map_drop, -map_tail, rgs, hJ, hlt, qb])
      refine ⟨by omega, ?_, hJf⟩
      have : i = xs.length := by omega
      subst this
      exact markF_end (Nat.le_refl _)

end Go.AE.Try
end

section
/- Contracts of the laws' marks of programs and groups. -/
set_option maxRecDepth 8000
set_option maxHeartbeats 4000000
namespace Go.AE.Try
open Go.Proofs
end Go.AE.Try
end

section
/- Contracts of the laws' marks of groups. -/
set_option maxRecDepth 8000
set_option maxHeartbeats 4000000
namespace Go.AE.Try
open Go.Proofs
end Go.AE.Try
end

section
/- Contracts of the laws' marks of a world's parts. -/
set_option maxRecDepth 8000
set_option maxHeartbeats 4000000
namespace Go.AE.Try
open Go.Proofs
open List (map_take map_drop map_tail)


theorem m_markSlots {ia ib : Nat} {ages : List Int} {used : List Bool} {k : Int} (hab : ia ≠ ib) (hl1 : ages.length ≤ LIM) (hl2 : used.length ≤ LIM) (h0 : 0 ≤ k) (h1 : k + (ages.length : Int) + (used.length : Int) ≤ 1152921504606846976) :
    AC ctx.P 25 [.agg [.ref ia 1 0 ages.length, .ref ib 1 0 used.length], .int .i64 k] (fun h _ => h ia = some (.row 1 (ages.map iv)) ∧ h ib = some (.row 1 (used.map bv)))
    (fun h nx v h' nx' => v = .int .i64 (k + (ages.length : Int) + (used.length : Int)) ∧ h' ia = some (.row 1 ((markL mkInt 1 k ages.length).map iv)) ∧ h' ib = some (.row 1 ((markL mkBool 1 (k + (ages.length : Int)) used.length).map bv)) ∧ ∀ j, j < nx → j ≠ ia → j ≠ ib → h' j = h j) := by
  refine AC.o okC Try.func25 rfl fun h nx hfr hnx hpre => ?_
  obtain ⟨p1, p2⟩ := hpre
  have i1 : ia < nx := hnx ia (by rw [p1]; simp)
  have i2 : ib < nx := hnx ib (by rw [p2]; simp)
  have k1 : ∀ k, (ia = nx + k) = False := fun k => by simp only [eq_iff_iff, iff_false]; omega
  have k2 : ∀ k, (ib = nx + k) = False := fun k => by simp only [eq_iff_iff, iff_false]; omega
  have k3 : (ia = nx) = False := by simp only [eq_iff_iff, iff_false]; omega
  have k4 : (ib = nx) = False := by simp only [eq_iff_iff, iff_false]; omega
  try simp [-map_take, -map_drop, -map_tail, rgs, k1, k2, k3, k4]
  refine call_ac (m_markInt64S (id := ia) (xs := ages) (k := k) hl1 h0 (by omega)) (by simp [k1, k3, p1]) ?_
  rintro r h2 n2 ⟨rfl, hq, hqf⟩ hle2 hfr2
  dsimp only at hq hqf hle2
  have g0 := hqf nx (by omega) (by omega)
  have g2 := hqf ib (by omega) (by omega)
  simp [k2, k4, p2] at g0 g2
  try simp [-map_take, -map_drop, -map_tail, rgs, g0, g2]
  refine call_ac (m_markBoolS (id := ib) (xs := used) (k := k + (ages.length : Int)) hl2 (by omega) (by omega)) g2 ?_
  rintro r h3 n3 ⟨rfl, hq3, hqf3⟩ hle3 hfr3
  dsimp only at hq3 hqf3 hle3
  have g3 := hqf3 ia (by omega) hab
  rw [hq] at g3
  try simp [-map_take, -map_drop, -map_tail, rgs]
  refine ⟨by simpa using g3, by simpa using hq3, fun j hj ha hb => ?_⟩
  rw [hqf3 j (by omega) hb, hqf j (by omega) ha]
  first | rfl | (rw [upd_ne _ _ _ _ (by omega)])


theorem m_markAfters {ia ib ic : Nat} {ages : List Int} {used : List Bool} {lst : List Afr} {k : Int} (hab : ia ≠ ib) (hac : ia ≠ ic) (hbc : ib ≠ ic) (hl1 : ages.length ≤ LIM) (hl2 : used.length ≤ LIM) (hl3 : lst.length ≤ LIM) (h0 : 0 ≤ k) (h1 : k + (ages.length : Int) + (used.length : Int) + (5 : Nat) * lst.length ≤ 1152921504606846976) :
    AC ctx.P 10 [.agg [.ref ia 1 0 ages.length, .ref ib 1 0 used.length, .ref ic 5 0 lst.length], .int .i64 k] (fun h _ => h ia = some (.row 1 (ages.map iv)) ∧ h ib = some (.row 1 (used.map bv)) ∧ h ic = some (.row 5 (lst.map afrC)))
    (fun h nx v h' nx' => v = .int .i64 (k + (ages.length : Int) + (used.length : Int) + (5 : Nat) * lst.length) ∧ h' ia = some (.row 1 ((markL mkInt 1 k ages.length).map iv)) ∧ h' ib = some (.row 1 ((markL mkBool 1 (k + (ages.length : Int)) used.length).map bv)) ∧
      h' ic = some (.row 5 ((markL mkAfr 5 (k + (ages.length : Int) + (used.length : Int)) lst.length).map afrC)) ∧ ∀ j, j < nx → j ≠ ia → j ≠ ib → j ≠ ic → h' j = h j) := by
  refine AC.o okC Try.func10 rfl fun h nx hfr hnx hpre => ?_
  obtain ⟨p1, p2, p3⟩ := hpre
  have i1 : ia < nx := hnx ia (by rw [p1]; simp)
  have i2 : ib < nx := hnx ib (by rw [p2]; simp)
  have i3 : ic < nx := hnx ic (by rw [p3]; simp)
  have k1 : ∀ k, (ia = nx + k) = False := fun k => by simp only [eq_iff_iff, iff_false]; omega
  have k2 : ∀ k, (ib = nx + k) = False := fun k => by simp only [eq_iff_iff, iff_false]; omega
  have k5 : ∀ k, (ic = nx + k) = False := fun k => by simp only [eq_iff_iff, iff_false]; omega
  have k3 : (ia = nx) = False := by simp only [eq_iff_iff, iff_false]; omega
  have k4 : (ib = nx) = False := by simp only [eq_iff_iff, iff_false]; omega
  have k6 : (ic = nx) = False := by simp only [eq_iff_iff, iff_false]; omega
  try simp [-map_take, -map_drop, -map_tail, rgs, k1, k2, k3, k4, k5, k6]
  refine call_ac (m_markSlots (ia := ia) (ib := ib) (ages := ages) (used := used) (k := k) hab hl1 hl2 h0 (by omega)) ⟨by simp [k1, k3, p1], by simp [k2, k4, p2]⟩ ?_
  rintro r h2 n2 ⟨rfl, hqa, hqb, hqf⟩ hle2 hfr2
  dsimp only at hqa hqb hqf hle2
  have g0 := hqf nx (by omega) (by omega) (by omega)
  have g2 := hqf ic (by omega) (by omega) (by omega)
  simp [k5, k6, p3] at g0 g2
  try simp [-map_take, -map_drop, -map_tail, rgs, g0, g2]
  refine call_ac (m_markAfterS (id := ic) (xs := lst) (k := k + (ages.length : Int) + (used.length : Int)) hl3 (by omega) (by omega)) g2 ?_
  rintro r h3 n3 ⟨rfl, hq3, hqf3⟩ hle3 hfr3
  dsimp only at hq3 hqf3 hle3
  have g3 := hqf3 ia (by omega) hac
  have g4 := hqf3 ib (by omega) hbc
  rw [hqa] at g3
  rw [hqb] at g4
  try simp [-map_take, -map_drop, -map_tail, rgs]
  refine ⟨by simpa using g3, by simpa using g4, by simpa using hq3, fun j hj ha hb hc => ?_⟩
  rw [hqf3 j (by omega) hc, hqf j (by omega) ha hb]
  first | rfl | (rw [upd_ne _ _ _ _ (by omega)])

end Go.AE.Try
end

section
/- Contracts of the laws' readings of marks. -/
set_option maxRecDepth 8000
set_option maxHeartbeats 4000000
namespace Go.AE.Try
open Go.Proofs
open List (map_take map_drop map_tail)





theorem h_heldAfterS {p : Bool} {n : Nat} {k : Int} (hlim : n ≤ LIM) (h0 : 0 ≤ k) (h1 : k ≤ 1152921504606846976) : PC ctx.P 28 [.view p 5 ((markL mkAfr 5 k n).map afrC), .int .i64 k] (.int .i64 (k + (5 : Nat) * n)) := by
  refine PC.o okC Try.func28 rfl (.int _ _) fun h nx hnx => ?_
  try simp [-map_take, -map_drop, -map_tail, rgs]
  repeat' first | done | ((first | ((with_reducible show lenS _ _ _ _ _ _); refine lenS_slice rfl fun _ => ?_) | ((with_reducible show iaddrS _ _ _ _ _ _ _); refine iaddr_map rfl omA omA ?_)) <;> simp [-map_take, -map_drop, -map_tail, rgs]) | ((first | (with_reducible refine condS_split ?_ ?_)) <;> intro qb <;> (have qp := qb; try simp only [psq] at qp) <;> simp [-map_take, -map_drop, -map_tail, rgs, qb])
  refine go_upP [1, 4, 5, 6, 7, 8, 9, 10, 11, 12, 13, 14, 15, 16, 17, 18, 19, 20, 21, 22, 23, 24, 25, 26, 27, 28, 29, 30, 31, 32, 33, 34, 35, 36, 37, 38, 39, 40, 41, 42, 43, 44, 45, 46, 47, 48, 49, 50, 51, 52, 53, 54, 55, 56, 57, 58, 59, 60] (n) (fun (i : Nat) a => [(5, .int .i64 i), (1, .int .i64 (k + (5 : Nat) * i))]) (fun i_ a_ h_ _ => (fun i (_ : Unit) _ => True) i_ a_ h_) (()) (by simp) ?_ keep_rfl (Nat.le_refl _) ?_
  · trivial
  · intro i a tm h' n' hle hJ hE hn' next hnx
    try dsimp only at hJ
    have hK : KeepB nx h' h := KeepB.sub hE keepA (by omega)
    simp [-map_take, -map_drop, -map_tail]
    have hlim0 := hlim
    simp only [LIM] at hlim
    by_cases hlt : i < n
    · have hg : gt (markL mkAfr 5 k n) (i : Int) = mkAfr (k + (5 : Nat) * i) := markL_gt hlt
      try simp [-map_take, -map_drop, -map_tail, rgs, hg, afrC, mkAfr, i64_ok (x := k + (5 * (i : Int) + 1)) (by omega), i64_ok (x := k + (5 * (i : Int) + 2)) (by omega), i64_ok (x := k + (5 * (i : Int) + 3)) (by omega), i64_ok (x := k + (5 * (i : Int) + 4)) (by omega), i64_ok (x := k + (5 * (i : Int) + 5)) (by omega), Int.add_assoc]
      repeat' first | done | ((first | ((with_reducible show lenS _ _ _ _ _ _); refine lenS_slice rfl fun _ => ?_) | ((with_reducible show iaddrS _ _ _ _ _ _ _); refine iaddr_map rfl omA omA ?_)) <;> simp [-map_take, -map_drop, -map_tail, rgs, hg, afrC, mkAfr, i64_ok (x := k + (5 * (i : Int) + 1)) (by omega), i64_ok (x := k + (5 * (i : Int) + 2)) (by omega), i64_ok (x := k + (5 * (i : Int) + 3)) (by omega), i64_ok (x := k + (5 * (i : Int) + 4)) (by omega), i64_ok (x := k + (5 * (i : Int) + 5)) (by omega), Int.add_assoc]) | ((first | (with_reducible refine condS_split ?_ ?_)) <;> intro qb <;> (have qp := qb; try simp only [psq] at qp) <;> simp [-map_take, -map_drop, -map_tail, rgs, hg, afrC, mkAfr, i64_ok (x := k + (5 * (i : Int) + 1)) (by omega), i64_ok (x := k + (5 * (i : Int) + 2)) (by omega), i64_ok (x := k + (5 * (i : Int) + 3)) (by omega), i64_ok (x := k + (5 * (i : Int) + 4)) (by omega), i64_ok (x := k + (5 * (i : Int) + 5)) (by omega), Int.add_assoc, qb])
      all_goals first
      | omega
      | (refine hnx.go () ?_ ?_ ?_ ?_ ?_ ?_
         · omega
         · simp [wrap_succ hlt hlim0] <;> omega
         · simp
         · exact keepA
         · first | omega | (simp; omega)
         trivial)
      | trace_state
    · have : i = n := by omega
      subst this
      try simp [-map_take, -map_drop, -map_tail, rgs, hlt]
      repeat' first | done | ((first | ((with_reducible show lenS _ _ _ _ _ _); refine lenS_slice rfl fun _ => ?_) | ((with_reducible show iaddrS _ _ _ _ _ _ _); refine iaddr_map rfl omA omA ?_)) <;> simp [-map_take, -map_drop, -map_tail, rgs, hlt]) | ((first | (with_reducible refine condS_split ?_ ?_)) <;> intro qb <;> (have qp := qb; try simp only [psq] at qp) <;> simp [-map_take, -map_drop, -map_tail, rgs, hlt, qb])
      all_goals (try clear hnx)
      all_goals first | (simp_all []; done) | (simp_all []; omega) | (rw [Bool.eq_iff_iff]; simp_all []; done) | (rw [Bool.eq_iff_iff]; simp_all []; omega) | omega | (simp only []; grind) | grind





theorem h_heldInt64S {p : Bool} {n : Nat} {k : Int} (hlim : n ≤ LIM) (h0 : 0 ≤ k) (h1 : k ≤ 1152921504606846976) : PC ctx.P 53 [.view p 1 ((markL mkInt 1 k n).map iv), .int .i64 k] (.int .i64 (k + (1 : Nat) * n)) := by
  refine PC.o okC Try.func53 rfl (.int _ _) fun h nx hnx => ?_
  try simp [-map_take, -map_drop, -map_tail, rgs]
  repeat' first | done | ((first | ((with_reducible show lenS _ _ _ _ _ _); refine lenS_slice rfl fun _ => ?_) | ((with_reducible show iaddrS _ _ _ _ _ _ _); refine iaddr_map rfl omA omA ?_)) <;> simp [-map_take, -map_drop, -map_tail, rgs]) | ((first | (with_reducible refine condS_split ?_ ?_)) <;> intro qb <;> (have qp := qb; try simp only [psq] at qp) <;> simp [-map_take, -map_drop, -map_tail, rgs, qb])
  refine go_upP [1, 4, 5, 6, 7, 8, 9, 10, 11, 12, 13, 14, 15, 16, 17, 18, 19] (n) (fun (i : Nat) a => [(5, .int .i64 i), (1, .int .i64 (k + (1 : Nat) * i))]) (fun i_ a_ h_ _ => (fun i (_ : Unit) _ => True) i_ a_ h_) (()) (by simp) ?_ keep_rfl (Nat.le_refl _) ?_
  · trivial
  · intro i a tm h' n' hle hJ hE hn' next hnx
    try dsimp only at hJ
    have hK : KeepB nx h' h := KeepB.sub hE keepA (by omega)
    simp [-map_take, -map_drop, -map_tail]
    have hlim0 := hlim
    simp only [LIM] at hlim
    by_cases hlt : i < n
    · have hg : gt (markL mkInt 1 k n) (i : Int) = mkInt (k + (1 : Nat) * i) := markL_gt hlt
      try simp [-map_take, -map_drop, -map_tail, rgs, hg, iv, mkInt, i64_ok (x := k + ((i : Int) + 1)) (by omega), Int.add_assoc]
      repeat' first | done | ((first | ((with_reducible show lenS _ _ _ _ _ _); refine lenS_slice rfl fun _ => ?_) | ((with_reducible show iaddrS _ _ _ _ _ _ _); refine iaddr_map rfl omA omA ?_)) <;> simp [-map_take, -map_drop, -map_tail, rgs, hg, iv, mkInt, i64_ok (x := k + ((i : Int) + 1)) (by omega), Int.add_assoc]) | ((first | (with_reducible refine condS_split ?_ ?_)) <;> intro qb <;> (have qp := qb; try simp only [psq] at qp) <;> simp [-map_take, -map_drop, -map_tail, rgs, hg, iv, mkInt, i64_ok (x := k + ((i : Int) + 1)) (by omega), Int.add_assoc, qb])
      all_goals first
      | omega
      | (refine hnx.go () ?_ ?_ ?_ ?_ ?_ ?_
         · omega
         · simp [wrap_succ hlt hlim0] <;> omega
         · simp
         · exact keepA
         · first | omega | (simp; omega)
         trivial)
      | trace_state
    · have : i = n := by omega
      subst this
      try simp [-map_take, -map_drop, -map_tail, rgs, hlt]
      repeat' first | done | ((first | ((with_reducible show lenS _ _ _ _ _ _); refine lenS_slice rfl fun _ => ?_) | ((with_reducible show iaddrS _ _ _ _ _ _ _); refine iaddr_map rfl omA omA ?_)) <;> simp [-map_take, -map_drop, -map_tail, rgs, hlt]) | ((first | (with_reducible refine condS_split ?_ ?_)) <;> intro qb <;> (have qp := qb; try simp only [psq] at qp) <;> simp [-map_take, -map_drop, -map_tail, rgs, hlt, qb])
      all_goals (try clear hnx)
      all_goals first | (simp_all []; done) | (simp_all []; omega) | (rw [Bool.eq_iff_iff]; simp_all []; done) | (rw [Bool.eq_iff_iff]; simp_all []; omega) | omega | (simp only []; grind) | grind

theorem h_heldBoolS {p : Bool} {n : Nat} {k : Int} (hlim : n ≤ LIM) (h0 : 0 ≤ k) (h1 : k ≤ 1152921504606846976) : PC ctx.P 54 [.view p 1 ((markL mkBool 1 k n).map bv), .int .i64 k] (.int .i64 (k + (1 : Nat) * n)) := by
  refine PC.o okC Try.func54 rfl (.int _ _) fun h nx hnx => ?_
  try simp [-map_take, -map_drop, -map_tail, rgs]
  repeat' first | done | ((first | ((with_reducible show lenS _ _ _ _ _ _); refine lenS_slice rfl fun _ => ?_) | ((with_reducible show iaddrS _ _ _ _ _ _ _); refine iaddr_map rfl omA omA ?_)) <;> simp [-map_take, -map_drop, -map_tail, rgs]) | ((first | (with_reducible refine condS_split ?_ ?_)) <;> intro qb <;> (have qp := qb; try simp only [psq] at qp) <;> simp [-map_take, -map_drop, -map_tail, rgs, qb])
  refine go_upP [1, 4, 5, 6, 7, 8, 9, 10, 11, 12, 13, 14, 15, 16, 17, 18, 19, 20, 21] (n) (fun (i : Nat) a => [(5, .int .i64 i), (1, .int .i64 (k + (1 : Nat) * i))]) (fun i_ a_ h_ _ => (fun i (_ : Unit) _ => True) i_ a_ h_) (()) (by simp) ?_ keep_rfl (Nat.le_refl _) ?_
  · trivial
  · intro i a tm h' n' hle hJ hE hn' next hnx
    try dsimp only at hJ
    have hK : KeepB nx h' h := KeepB.sub hE keepA (by omega)
    simp [-map_take, -map_drop, -map_tail]
    have hlim0 := hlim
    simp only [LIM] at hlim
    by_cases hlt : i < n
    · have hg : gt (markL mkBool 1 k n) (i : Int) = mkBool (k + (1 : Nat) * i) := markL_gt hlt
      try simp [-map_take, -map_drop, -map_tail, rgs, hg, bv, mkBool, i64_ok (x := k + ((i : Int) + 1)) (by omega), Int.add_assoc]
      repeat' first | done | ((first | ((with_reducible show lenS _ _ _ _ _ _); refine lenS_slice rfl fun _ => ?_) | ((with_reducible show iaddrS _ _ _ _ _ _ _); refine iaddr_map rfl omA omA ?_)) <;> simp [-map_take, -map_drop, -map_tail, rgs, hg, bv, mkBool, i64_ok (x := k + ((i : Int) + 1)) (by omega), Int.add_assoc]) | ((first | (with_reducible refine condS_split ?_ ?_)) <;> intro qb <;> (have qp := qb; try simp only [psq] at qp) <;> simp [-map_take, -map_drop, -map_tail, rgs, hg, bv, mkBool, i64_ok (x := k + ((i : Int) + 1)) (by omega), Int.add_assoc, qb])
      all_goals first
      | omega
      | (refine hnx.go () ?_ ?_ ?_ ?_ ?_ ?_
         · omega
         · simp [wrap_succ hlt hlim0] <;> omega
         · simp
         · exact keepA
         · first | omega | (simp; omega)
         trivial)
      | trace_state
    · have : i = n := by omega
      subst this
      try simp [-map_take, -map_drop, -map_tail, rgs, hlt]
      repeat' first | done | ((first | ((with_reducible show lenS _ _ _ _ _ _); refine lenS_slice rfl fun _ => ?_) | ((with_reducible show iaddrS _ _ _ _ _ _ _); refine iaddr_map rfl omA omA ?_)) <;> simp [-map_take, -map_drop, -map_tail, rgs, hlt]) | ((first | (with_reducible refine condS_split ?_ ?_)) <;> intro qb <;> (have qp := qb; try simp only [psq] at qp) <;> simp [-map_take, -map_drop, -map_tail, rgs, hlt, qb])
      all_goals (try clear hnx)
      all_goals first | (simp_all []; done) | (simp_all []; omega) | (rw [Bool.eq_iff_iff]; simp_all []; done) | (rw [Bool.eq_iff_iff]; simp_all []; omega) | omega | (simp only []; grind) | grind

end Go.AE.Try
end

section
/- Contracts of the laws' marks of a world. -/
set_option maxRecDepth 8000
set_option maxHeartbeats 4000000
namespace Go.AE.Try
open Go.Proofs
end Go.AE.Try
end

section
/- Contracts of the laws' readings of a marked world. -/
set_option maxRecDepth 8000
set_option maxHeartbeats 4000000
namespace Go.AE.Try
open Go.Proofs
open List (map_take map_drop map_tail)
theorem h_heldSlots {F : Nat → Bool} {n1 n2 : Nat} {k : Int} (hl1 : n1 ≤ 1048576) (hl2 : n2 ≤ 1048576) (h0 : 0 ≤ k) (h1 : k ≤ 1099511627776) : PC ctx.P 27 [.agg (sltV F ⟨markL mkInt 1 k n1, markL mkBool 1 (k + (n1 : Int)) n2⟩), .int .i64 k] (.int .i64 (k + (n1 : Int) + (n2 : Int))) := by
  refine PC.o okC Try.func27 rfl (.int _ _) fun h nx hnx => ?_
  try simp [-map_take, -map_drop, -map_tail, rgs, sltV]
  repeat' first | done | ((first | ((with_reducible show doCall _ _ _ 53 _ _); refine call_pc (h_heldInt64S (n := n1) (k := k) (by simp only [LIM]; omega) (by omega) (by omega)) ?_) | ((with_reducible show doCall _ _ _ 54 _ _); refine call_pc (h_heldBoolS (n := n2) (k := k + (n1 : Int)) (by simp only [LIM]; omega) (by omega) (by omega)) ?_)) <;> simp [-map_take, -map_drop, -map_tail, rgs, sltV]) | ((first | (with_reducible refine condS_split ?_ ?_)) <;> intro qb <;> (have qp := qb; try simp only [psq] at qp) <;> simp [-map_take, -map_drop, -map_tail, rgs, sltV, qb])
  all_goals first
  | omega
  | (simp at *; omega)
  | trace_state


theorem h_heldAfters {F : Nat → Bool} {n1 n2 n3 : Nat} {k : Int} (hl1 : n1 ≤ 1048576) (hl2 : n2 ≤ 1048576) (hl3 : n3 ≤ 1048576) (h0 : 0 ≤ k) (h1 : k ≤ 1099511627776) : PC ctx.P 11 [.agg (afsV F ⟨⟨markL mkInt 1 k n1, markL mkBool 1 (k + (n1 : Int)) n2⟩, markL mkAfr 5 (k + (n1 : Int) + (n2 : Int)) n3⟩), .int .i64 k] (.int .i64 (k + (n1 : Int) + (n2 : Int) + (5 : Nat) * (n3 : Int))) := by
  refine PC.o okC Try.func11 rfl (.int _ _) fun h nx hnx => ?_
  try simp [-map_take, -map_drop, -map_tail, rgs, afsV]
  repeat' first | done | ((first | ((with_reducible show doCall _ _ _ 27 _ _); refine call_pc (h_heldSlots (F := F) (n1 := n1) (n2 := n2) (k := k) (by omega) (by omega) (by omega) (by omega)) ?_) | ((with_reducible show doCall _ _ _ 28 _ _); refine call_pc (h_heldAfterS (n := n3) (k := k + (n1 : Int) + (n2 : Int)) (by simp only [LIM]; omega) (by omega) (by omega)) ?_)) <;> simp [-map_take, -map_drop, -map_tail, rgs, afsV]) | ((first | (with_reducible refine condS_split ?_ ?_)) <;> intro qb <;> (have qp := qb; try simp only [psq] at qp) <;> simp [-map_take, -map_drop, -map_tail, rgs, afsV, qb])
  all_goals first
  | omega
  | (simp at *; omega)
  | trace_state

end Go.AE.Try
end

section
/- Contracts of the laws' helpers: copies, comparisons, sizes. -/
set_option maxRecDepth 8000
set_option maxHeartbeats 2000000
namespace Go.AE.Try
open Go.Proofs
open List (map_take map_drop map_tail)
theorem c_toHandle {x : Han} : PC ctx.P 55 [.agg (hanC x)] (.agg (hanC x)) := by
  refine PC.o okC Try.func55 rfl (.agg _ (hanC_fz x)) fun h nx hnx => ?_
  try simp [-map_take, -map_drop, -map_tail, rgs, hanC]

theorem c_eqHandle {x y : Han} : PC ctx.P 24 [.agg (hanC x), .agg (hanC y)] (.bool (x == y)) := by
  rw [han_beq]
  refine PC.o okC Try.func24 rfl (.bool _) fun h nx hnx => ?_
  try simp [-map_take, -map_drop, -map_tail, rgs, hanC]
  repeat' first | done | ((first | (with_reducible refine condS_split ?_ ?_)) <;> intro qb <;> (have qp := qb; try simp only [psq] at qp) <;> simp [-map_take, -map_drop, -map_tail, rgs, hanC, qb])
  all_goals (try clear hnx)
  all_goals first | (simp_all []; done) | (simp_all []; omega) | (rw [Bool.eq_iff_iff]; simp_all []; done) | (rw [Bool.eq_iff_iff]; simp_all []; omega) | omega | (simp only []; grind) | grind





























theorem c_toAfter {x : Afr} : PC ctx.P 39 [.agg (afrC x)] (.agg (afrC x)) := by
  refine PC.o okC Try.func39 rfl (.agg _ (afrC_fz x)) fun h nx hnx => ?_
  try simp [-map_take, -map_drop, -map_tail, rgs, afrC, hanC]
  repeat' first | done | ((first | ((with_reducible show doCall _ _ _ 55 _ _); refine call_pc (c_toHandle (x := x.han)) ?_)) <;> simp [-map_take, -map_drop, -map_tail, rgs, afrC, hanC])

theorem c_eqAfter {x y : Afr} : PC ctx.P 9 [.agg (afrC x), .agg (afrC y)] (.bool (x == y)) := by
  rw [afr_beq]
  refine PC.o okC Try.func9 rfl (.bool _) fun h nx hnx => ?_
  try simp [-map_take, -map_drop, -map_tail, rgs, afrC, hanC]
  repeat' first | done | ((first | ((with_reducible show doCall _ _ _ 24 _ _); refine call_pc (c_eqHandle (x := x.han) (y := y.han)) ?_)) <;> simp [-map_take, -map_drop, -map_tail, rgs, afrC, hanC]) | ((first | (with_reducible refine condS_split ?_ ?_)) <;> intro qb <;> (have qp := qb; try simp only [psq] at qp) <;> simp [-map_take, -map_drop, -map_tail, rgs, afrC, hanC, qb])
  all_goals (try clear hnx)
  all_goals first | (simp_all []; done) | (simp_all []; omega) | (rw [Bool.eq_iff_iff]; simp_all []; done) | (rw [Bool.eq_iff_iff]; simp_all []; omega) | omega | (simp only []; grind) | grind

theorem c_toAfterS {p : Bool} {xs : List Afr} (hm : xs.length ≤ MLIM) : PC ctx.P 18 [.view p 5 (xs.map afrC)] (.view true 5 (xs.map afrC)) := by
  refine PC.lim (n := xs.length) (x := .view p 5 (xs.map afrC)) (by simp) (.here (by simp)) ⟨_, Try.func18, by kernel_rfl, by kernel_rfl⟩ fun hlim => ?_
  refine PC.o okC Try.func18 rfl (.vmap afrC_fz) fun h nx hnx => ?_
  try simp [-map_take, -map_drop, -map_tail, rgs, hm]
  repeat' first | done | ((first | ((with_reducible show lenS _ _ _ _ _ _); refine lenS_slice rfl fun _ => ?_) | ((with_reducible show iaddrS _ _ _ _ _ _ _); refine iaddr_map rfl omA omA ?_)) <;> simp [-map_take, -map_drop, -map_tail, rgs, hm]) | ((first | (with_reducible refine condS_split ?_ ?_)) <;> intro qb <;> (have qp := qb; try simp only [psq] at qp) <;> simp [-map_take, -map_drop, -map_tail, rgs, hm, qb])
  refine go_upP (h0 := h) (nx0 := nx) [4, 8, 9, 10, 11, 12, 13, 14, 15, 16, 17, 18, 19, 20, 21] (xs.length) (fun (i : Nat) a => [(4, .int .i64 i)]) (fun i (_ : Unit) h' n' => h' (nx + 3) = some (.row 5 (fillR afrC [.int .i64 0, .int .i64 0, .int .i64 0, .int .i64 0, .bool false] xs i)) ∧ nx + 4 ≤ n') (()) (by simp) ?_ keepA (by omega) ?_
  · simp [fillR_0]
  · intro i a tm h' n' hle hJ hE hn' next hnx
    try dsimp only at hJ
    have hK : KeepB nx h' h := KeepB.sub hE keepA (by omega)
    simp [-map_take, -map_drop, -map_tail]
    obtain ⟨hJ, hJn⟩ := hJ
    try simp [-map_take, -map_drop, -map_tail, rgs, hJ]
    repeat' first | done | ((first | ((with_reducible show lenS _ _ _ _ _ _); refine lenS_slice rfl fun _ => ?_) | ((with_reducible show iaddrS _ _ _ _ _ _ _); refine iaddr_map rfl omA omA ?_) | ((with_reducible show doCall _ _ _ 39 _ _); refine call_pc (c_toAfter) ?_) | ((with_reducible show iaddrS _ _ _ _ (.ref _ _ _ _) _ _); refine iaddr_ref rfl omA omA ?_) | ((with_reducible show storeE _ _ _ _ _ _ _ _ _); refine storeE_fill hJ (by first | rfl | (simp; done)) (by simp) (by rfl) (by rfl) (by rfl) (by omega) ?_)) <;> simp [-map_take, -map_drop, -map_tail, rgs, hJ]) | ((first | (with_reducible refine condS_split ?_ ?_)) <;> intro qb <;> (have qp := qb; try simp only [psq] at qp) <;> simp [-map_take, -map_drop, -map_tail, rgs, hJ, qb])
    all_goals first
      | (have hlt : i < xs.length := (by first | omega | (simp at *; omega)); refine hnx.go () (by omega) (by simp [wrap_succ hlt hlim]) (by simp) keepA (by first | omega | (simp; omega)) ?_; (try dsimp only); refine ⟨by simp, by first | omega | (simp; omega)⟩)
      | (refine ⟨?_, keepA⟩; rw [fillR_ge (by first | omega | (simp at *; omega))]; first | done | (simp; done) | (rw [List.take_of_length_le (by simp)]))

theorem c_eqAfterS {p q : Bool} {xs ys : List Afr} : PC ctx.P 23 [.view p 5 (xs.map afrC), .view q 5 (ys.map afrC)] (.bool (xs == ys)) := by
  refine PC.lim (n := xs.length) (x := .view p 5 (xs.map afrC)) (by simp) (.here (by simp)) ⟨_, Try.func23, by kernel_rfl, by kernel_rfl⟩ fun hlim => ?_
  by_cases hl : xs.length = ys.length
  · refine PC.o okC Try.func23 rfl (.bool _) fun h nx hnx => ?_
    try simp [-map_take, -map_drop, -map_tail, rgs, hl]
    repeat' first | done | ((first | ((with_reducible show lenS _ _ _ _ _ _); refine lenS_slice rfl fun _ => ?_) | ((with_reducible show iaddrS _ _ _ _ _ _ _); refine iaddr_map rfl omA omA ?_) | (with_reducible refine go_draw (i := 6) [(0, [], []), (1, [], []), (2, [], []), (3, [], []), (4, [], []), (5, [], []), (6, [], []), (7, [], []), (8, [], []), (9, [], [])] (by kernel_rfl) ?_)) <;> simp [-map_take, -map_drop, -map_tail, rgs, hl]) | ((first | (with_reducible refine condS_split ?_ ?_)) <;> intro qb <;> (have qp := qb; try simp only [psq] at qp) <;> simp [-map_take, -map_drop, -map_tail, rgs, hl, qb])
    refine go_upP [4, 5, 11, 12, 13, 14, 15, 16, 17, 18, 19, 20, 21, 22, 23, 24, 25, 26] (ys.length) (fun (i : Nat) a => [(5, .int .i64 i)]) (fun i_ a_ h_ _ => (fun i (_ : Unit) _ => (xs.drop i == ys.drop i) = (xs == ys)) i_ a_ h_) (()) (by simp) ?_ keep_rfl (Nat.le_refl _) ?_
    · simp
    · intro i a tm h' n' hle hJ hE hn' next hnx
      try dsimp only at hJ
      have hK : KeepB nx h' h := KeepB.sub hE keepA (by omega)
      simp [-map_take, -map_drop, -map_tail]
      try simp [-map_take, -map_drop, -map_tail, rgs, hl, afrC]
      repeat' first | done | ((first | ((with_reducible show lenS _ _ _ _ _ _); refine lenS_slice rfl fun _ => ?_) | ((with_reducible show iaddrS _ _ _ _ _ _ _); refine iaddr_map rfl omA omA ?_) | ((with_reducible show doCall _ _ _ 9 _ _); refine call_pc (c_eqAfter) ?_) | (with_reducible refine go_draw (i := 6) [(0, [], []), (1, [], []), (2, [], []), (3, [], []), (4, [], []), (5, [], []), (6, [], []), (7, [], []), (8, [], []), (9, [], [])] (by kernel_rfl) ?_)) <;> simp [-map_take, -map_drop, -map_tail, rgs, hl, afrC]) | ((first | (with_reducible refine condS_split ?_ ?_)) <;> intro qb <;> (have qp := qb; try simp only [psq] at qp) <;> simp [-map_take, -map_drop, -map_tail, rgs, hl, afrC, qb])
      all_goals first
      | (have hlt : i < xs.length := (by first | omega | (simp at *; omega))
         rw [drop_gt hlt, drop_gt (xs := ys) (i := i) (by omega), List.cons_beq_cons] at hJ
         first
         | (refine hnx.go () ?_ ?_ ?_ ?_ ?_ ?_; omega; (simp [wrap_succ hlt hlim]); (simp); exact keepA; (first | omega | (simp; omega)); (try dsimp only); clear hnx; first | (simp_all; done) | grind)
         | (refine ⟨?_, keepA⟩; clear hnx; first | (simp_all; done) | grind)
         | (clear hnx; first | (simp_all; done) | grind))
      | (obtain rfl : i = xs.length := (by first | omega | (simp at *; omega))
         rw [List.drop_eq_nil_of_le (Nat.le_refl _), List.drop_eq_nil_of_le (by omega)] at hJ
         refine ⟨?_, keepA⟩; clear hnx; first | (simp_all; done) | grind)
  · refine PC.o okC Try.func23 rfl (.bool _) fun h nx hnx => ?_
    try simp [-map_take, -map_drop, -map_tail, rgs]
    repeat' first | done | ((first | ((with_reducible show lenS _ _ _ _ _ _); refine lenS_slice rfl fun _ => ?_) | ((with_reducible show iaddrS _ _ _ _ _ _ _); refine iaddr_map rfl omA omA ?_) | (with_reducible refine go_draw (i := 6) [(0, [], []), (1, [], []), (2, [], []), (3, [], []), (4, [], []), (5, [], []), (6, [], []), (7, [], []), (8, [], []), (9, [], [])] (by kernel_rfl) ?_)) <;> simp [-map_take, -map_drop, -map_tail, rgs]) | ((first | (with_reducible refine condS_split ?_ ?_)) <;> intro qb <;> (have qp := qb; try simp only [psq] at qp) <;> simp [-map_take, -map_drop, -map_tail, rgs, qb])
    all_goals first | (exfalso; omega) | (symm; rw [beq_eq_false_iff_ne]; intro e; exact hl (by rw [e])) | (intro e; exact hl (by rw [e])) | skip

theorem c_szAfterS {p : Bool} {xs : List Afr} {k : Int} (h0 : 0 ≤ k) (h1 : k ≤ 1048576) : PC ctx.P 13 [.view p 5 (xs.map afrC), .int .i64 k] (.int .i64 (szR xs.length k)) := by
  refine PC.lim (n := xs.length) (x := .view p 5 (xs.map afrC)) (by simp) (.here (by simp)) ⟨_, Try.func13, by kernel_rfl, by kernel_rfl⟩ fun hlim => ?_
  simp only [LIM] at hlim
  refine PC.o okC Try.func13 rfl (.int _ _) fun h nx hnx => ?_
  try simp [-map_take, -map_drop, -map_tail, rgs, i64_ok (x := k - (xs.length : Int)) (by omega)]
  repeat' first | done | ((first | ((with_reducible show lenS _ _ _ _ _ _); refine lenS_slice rfl fun _ => ?_)) <;> simp [-map_take, -map_drop, -map_tail, rgs, i64_ok (x := k - (xs.length : Int)) (by omega)]) | ((first | (with_reducible refine condS_split ?_ ?_)) <;> intro qb <;> (have qp := qb; try simp only [psq] at qp) <;> simp [-map_take, -map_drop, -map_tail, rgs, i64_ok (x := k - (xs.length : Int)) (by omega), qb])
  all_goals (clear hnx; simp only [szR]; split <;> first | omega | (simp; omega))





















theorem c_toInt64S {p : Bool} {xs : List Int} (hm : xs.length ≤ MLIM) : PC ctx.P 37 [.view p 1 (xs.map iv)] (.view true 1 (xs.map iv)) := by
  refine PC.lim (n := xs.length) (x := .view p 1 (xs.map iv)) (by simp) (.here (by simp)) ⟨_, Try.func37, by kernel_rfl, by kernel_rfl⟩ fun hlim => ?_
  refine PC.o okC Try.func37 rfl (.vmap iv_fz) fun h nx hnx => ?_
  try simp [-map_take, -map_drop, -map_tail, rgs, hm]
  repeat' first | done | ((first | ((with_reducible show lenS _ _ _ _ _ _); refine lenS_slice rfl fun _ => ?_) | ((with_reducible show iaddrS _ _ _ _ _ _ _); refine iaddr_map rfl omA omA ?_)) <;> simp [-map_take, -map_drop, -map_tail, rgs, hm]) | ((first | (with_reducible refine condS_split ?_ ?_)) <;> intro qb <;> (have qp := qb; try simp only [psq] at qp) <;> simp [-map_take, -map_drop, -map_tail, rgs, hm, qb])
  refine go_upP (h0 := h) (nx0 := nx) [4, 8, 9, 10, 11, 12, 13, 14, 15, 16, 17, 18, 19, 20] (xs.length) (fun (i : Nat) a => [(4, .int .i64 i)]) (fun i (_ : Unit) h' n' => h' (nx + 3) = some (.row 1 (fillR iv [.int .i64 0] xs i)) ∧ nx + 4 ≤ n') (()) (by simp) ?_ keepA (by omega) ?_
  · simp [fillR_0]
  · intro i a tm h' n' hle hJ hE hn' next hnx
    try dsimp only at hJ
    have hK : KeepB nx h' h := KeepB.sub hE keepA (by omega)
    simp [-map_take, -map_drop, -map_tail]
    obtain ⟨hJ, hJn⟩ := hJ
    try simp [-map_take, -map_drop, -map_tail, rgs, hJ, iv]
    repeat' first | done | ((first | ((with_reducible show lenS _ _ _ _ _ _); refine lenS_slice rfl fun _ => ?_) | ((with_reducible show iaddrS _ _ _ _ _ _ _); refine iaddr_map rfl omA omA ?_) | ((with_reducible show iaddrS _ _ _ _ (.ref _ _ _ _) _ _); refine iaddr_ref rfl omA omA ?_) | ((with_reducible show storeE _ _ _ _ _ _ _ _ _); refine storeE_fill hJ (by first | rfl | (simp; done)) (by simp) (by rfl) (by rfl) (by rfl) (by omega) ?_)) <;> simp [-map_take, -map_drop, -map_tail, rgs, hJ, iv]) | ((first | (with_reducible refine condS_split ?_ ?_)) <;> intro qb <;> (have qp := qb; try simp only [psq] at qp) <;> simp [-map_take, -map_drop, -map_tail, rgs, hJ, iv, qb])
    all_goals first
      | (have hlt : i < xs.length := (by first | omega | (simp at *; omega)); refine hnx.go () (by omega) (by simp [wrap_succ hlt hlim]) (by simp) keepA (by first | omega | (simp; omega)) ?_; (try dsimp only); refine ⟨by simp, by first | omega | (simp; omega)⟩)
      | (refine ⟨?_, keepA⟩; rw [fillR_ge (by first | omega | (simp at *; omega))]; first | done | (simp; done) | (rw [List.take_of_length_le (by simp)]))

theorem c_eqInt64S {p q : Bool} {xs ys : List Int} : PC ctx.P 49 [.view p 1 (xs.map iv), .view q 1 (ys.map iv)] (.bool (xs == ys)) := by
  refine PC.lim (n := xs.length) (x := .view p 1 (xs.map iv)) (by simp) (.here (by simp)) ⟨_, Try.func49, by kernel_rfl, by kernel_rfl⟩ fun hlim => ?_
  by_cases hl : xs.length = ys.length
  · refine PC.o okC Try.func49 rfl (.bool _) fun h nx hnx => ?_
    try simp [-map_take, -map_drop, -map_tail, rgs, hl]
    repeat' first | done | ((first | ((with_reducible show lenS _ _ _ _ _ _); refine lenS_slice rfl fun _ => ?_) | ((with_reducible show iaddrS _ _ _ _ _ _ _); refine iaddr_map rfl omA omA ?_) | (with_reducible refine go_draw (i := 6) [(0, [], []), (1, [], []), (2, [], []), (3, [], []), (4, [], []), (5, [], []), (6, [], []), (7, [], []), (8, [], [])] (by kernel_rfl) ?_)) <;> simp [-map_take, -map_drop, -map_tail, rgs, hl]) | ((first | (with_reducible refine condS_split ?_ ?_)) <;> intro qb <;> (have qp := qb; try simp only [psq] at qp) <;> simp [-map_take, -map_drop, -map_tail, rgs, hl, qb])
    refine go_upP [4, 5, 11, 12, 13, 14, 15, 16, 17, 18, 19, 20, 21, 22, 23, 24, 25] (ys.length) (fun (i : Nat) a => [(5, .int .i64 i)]) (fun i_ a_ h_ _ => (fun i (_ : Unit) _ => (xs.drop i == ys.drop i) = (xs == ys)) i_ a_ h_) (()) (by simp) ?_ keep_rfl (Nat.le_refl _) ?_
    · simp
    · intro i a tm h' n' hle hJ hE hn' next hnx
      try dsimp only at hJ
      have hK : KeepB nx h' h := KeepB.sub hE keepA (by omega)
      simp [-map_take, -map_drop, -map_tail]
      try simp [-map_take, -map_drop, -map_tail, rgs, hl, iv]
      repeat' first | done | ((first | ((with_reducible show lenS _ _ _ _ _ _); refine lenS_slice rfl fun _ => ?_) | ((with_reducible show iaddrS _ _ _ _ _ _ _); refine iaddr_map rfl omA omA ?_) | (with_reducible refine go_draw (i := 6) [(0, [], []), (1, [], []), (2, [], []), (3, [], []), (4, [], []), (5, [], []), (6, [], []), (7, [], []), (8, [], [])] (by kernel_rfl) ?_)) <;> simp [-map_take, -map_drop, -map_tail, rgs, hl, iv]) | ((first | (with_reducible refine condS_split ?_ ?_)) <;> intro qb <;> (have qp := qb; try simp only [psq] at qp) <;> simp [-map_take, -map_drop, -map_tail, rgs, hl, iv, qb])
      all_goals first
      | (have hlt : i < xs.length := (by first | omega | (simp at *; omega))
         rw [drop_gt hlt, drop_gt (xs := ys) (i := i) (by omega), List.cons_beq_cons] at hJ
         first
         | (refine hnx.go () ?_ ?_ ?_ ?_ ?_ ?_; omega; (simp [wrap_succ hlt hlim]); (simp); exact keepA; (first | omega | (simp; omega)); (try dsimp only); clear hnx; first | (simp_all; done) | grind)
         | (refine ⟨?_, keepA⟩; clear hnx; first | (simp_all; done) | grind)
         | (clear hnx; first | (simp_all; done) | grind))
      | (obtain rfl : i = xs.length := (by first | omega | (simp at *; omega))
         rw [List.drop_eq_nil_of_le (Nat.le_refl _), List.drop_eq_nil_of_le (by omega)] at hJ
         refine ⟨?_, keepA⟩; clear hnx; first | (simp_all; done) | grind)
  · refine PC.o okC Try.func49 rfl (.bool _) fun h nx hnx => ?_
    try simp [-map_take, -map_drop, -map_tail, rgs]
    repeat' first | done | ((first | ((with_reducible show lenS _ _ _ _ _ _); refine lenS_slice rfl fun _ => ?_) | ((with_reducible show iaddrS _ _ _ _ _ _ _); refine iaddr_map rfl omA omA ?_) | (with_reducible refine go_draw (i := 6) [(0, [], []), (1, [], []), (2, [], []), (3, [], []), (4, [], []), (5, [], []), (6, [], []), (7, [], []), (8, [], [])] (by kernel_rfl) ?_)) <;> simp [-map_take, -map_drop, -map_tail, rgs]) | ((first | (with_reducible refine condS_split ?_ ?_)) <;> intro qb <;> (have qp := qb; try simp only [psq] at qp) <;> simp [-map_take, -map_drop, -map_tail, rgs, qb])
    all_goals first | (exfalso; omega) | (symm; rw [beq_eq_false_iff_ne]; intro e; exact hl (by rw [e])) | (intro e; exact hl (by rw [e])) | skip

theorem c_szInt64S {p : Bool} {xs : List Int} {k : Int} (h0 : 0 ≤ k) (h1 : k ≤ 1048576) : PC ctx.P 29 [.view p 1 (xs.map iv), .int .i64 k] (.int .i64 (szR xs.length k)) := by
  refine PC.lim (n := xs.length) (x := .view p 1 (xs.map iv)) (by simp) (.here (by simp)) ⟨_, Try.func29, by kernel_rfl, by kernel_rfl⟩ fun hlim => ?_
  simp only [LIM] at hlim
  refine PC.o okC Try.func29 rfl (.int _ _) fun h nx hnx => ?_
  try simp [-map_take, -map_drop, -map_tail, rgs, i64_ok (x := k - (xs.length : Int)) (by omega)]
  repeat' first | done | ((first | ((with_reducible show lenS _ _ _ _ _ _); refine lenS_slice rfl fun _ => ?_)) <;> simp [-map_take, -map_drop, -map_tail, rgs, i64_ok (x := k - (xs.length : Int)) (by omega)]) | ((first | (with_reducible refine condS_split ?_ ?_)) <;> intro qb <;> (have qp := qb; try simp only [psq] at qp) <;> simp [-map_take, -map_drop, -map_tail, rgs, i64_ok (x := k - (xs.length : Int)) (by omega), qb])
  all_goals (clear hnx; simp only [szR]; split <;> first | omega | (simp; omega))

theorem c_toBoolS {p : Bool} {xs : List Bool} (hm : xs.length ≤ MLIM) : PC ctx.P 38 [.view p 1 (xs.map bv)] (.view true 1 (xs.map bv)) := by
  refine PC.lim (n := xs.length) (x := .view p 1 (xs.map bv)) (by simp) (.here (by simp)) ⟨_, Try.func38, by kernel_rfl, by kernel_rfl⟩ fun hlim => ?_
  refine PC.o okC Try.func38 rfl (.vmap bv_fz) fun h nx hnx => ?_
  try simp [-map_take, -map_drop, -map_tail, rgs, hm]
  repeat' first | done | ((first | ((with_reducible show lenS _ _ _ _ _ _); refine lenS_slice rfl fun _ => ?_) | ((with_reducible show iaddrS _ _ _ _ _ _ _); refine iaddr_map rfl omA omA ?_)) <;> simp [-map_take, -map_drop, -map_tail, rgs, hm]) | ((first | (with_reducible refine condS_split ?_ ?_)) <;> intro qb <;> (have qp := qb; try simp only [psq] at qp) <;> simp [-map_take, -map_drop, -map_tail, rgs, hm, qb])
  refine go_upP (h0 := h) (nx0 := nx) [4, 8, 9, 10, 11, 12, 13, 14, 15, 16, 17, 18, 19, 20] (xs.length) (fun (i : Nat) a => [(4, .int .i64 i)]) (fun i (_ : Unit) h' n' => h' (nx + 3) = some (.row 1 (fillR bv [.bool false] xs i)) ∧ nx + 4 ≤ n') (()) (by simp) ?_ keepA (by omega) ?_
  · simp [fillR_0]
  · intro i a tm h' n' hle hJ hE hn' next hnx
    try dsimp only at hJ
    have hK : KeepB nx h' h := KeepB.sub hE keepA (by omega)
    simp [-map_take, -map_drop, -map_tail]
    obtain ⟨hJ, hJn⟩ := hJ
    try simp [-map_take, -map_drop, -map_tail, rgs, hJ, bv]
    repeat' first | done | ((first | ((with_reducible show lenS _ _ _ _ _ _); refine lenS_slice rfl fun _ => ?_) | ((with_reducible show iaddrS _ _ _ _ _ _ _); refine iaddr_map rfl omA omA ?_) | ((with_reducible show iaddrS _ _ _ _ (.ref _ _ _ _) _ _); refine iaddr_ref rfl omA omA ?_) | ((with_reducible show storeE _ _ _ _ _ _ _ _ _); refine storeE_fill hJ (by first | rfl | (simp; done)) (by simp) (by rfl) (by rfl) (by rfl) (by omega) ?_)) <;> simp [-map_take, -map_drop, -map_tail, rgs, hJ, bv]) | ((first | (with_reducible refine condS_split ?_ ?_)) <;> intro qb <;> (have qp := qb; try simp only [psq] at qp) <;> simp [-map_take, -map_drop, -map_tail, rgs, hJ, bv, qb])
    all_goals first
      | (have hlt : i < xs.length := (by first | omega | (simp at *; omega)); refine hnx.go () (by omega) (by simp [wrap_succ hlt hlim]) (by simp) keepA (by first | omega | (simp; omega)) ?_; (try dsimp only); refine ⟨by simp, by first | omega | (simp; omega)⟩)
      | (refine ⟨?_, keepA⟩; rw [fillR_ge (by first | omega | (simp at *; omega))]; first | done | (simp; done) | (rw [List.take_of_length_le (by simp)]))

theorem c_eqBoolS {p q : Bool} {xs ys : List Bool} : PC ctx.P 50 [.view p 1 (xs.map bv), .view q 1 (ys.map bv)] (.bool (xs == ys)) := by
  refine PC.lim (n := xs.length) (x := .view p 1 (xs.map bv)) (by simp) (.here (by simp)) ⟨_, Try.func50, by kernel_rfl, by kernel_rfl⟩ fun hlim => ?_
  by_cases hl : xs.length = ys.length
  · refine PC.o okC Try.func50 rfl (.bool _) fun h nx hnx => ?_
    try simp [-map_take, -map_drop, -map_tail, rgs, hl]
    repeat' first | done | ((first | ((with_reducible show lenS _ _ _ _ _ _); refine lenS_slice rfl fun _ => ?_) | ((with_reducible show iaddrS _ _ _ _ _ _ _); refine iaddr_map rfl omA omA ?_) | (with_reducible refine go_draw (i := 6) [(0, [], []), (1, [], []), (2, [], []), (3, [], []), (4, [], []), (5, [], []), (6, [], []), (7, [], []), (8, [], [])] (by kernel_rfl) ?_)) <;> simp [-map_take, -map_drop, -map_tail, rgs, hl]) | ((first | (with_reducible refine condS_split ?_ ?_)) <;> intro qb <;> (have qp := qb; try simp only [psq] at qp) <;> simp [-map_take, -map_drop, -map_tail, rgs, hl, qb])
    refine go_upP [4, 5, 11, 12, 13, 14, 15, 16, 17, 18, 19, 20, 21, 22, 23, 24, 25] (ys.length) (fun (i : Nat) a => [(5, .int .i64 i)]) (fun i_ a_ h_ _ => (fun i (_ : Unit) _ => (xs.drop i == ys.drop i) = (xs == ys)) i_ a_ h_) (()) (by simp) ?_ keep_rfl (Nat.le_refl _) ?_
    · simp
    · intro i a tm h' n' hle hJ hE hn' next hnx
      try dsimp only at hJ
      have hK : KeepB nx h' h := KeepB.sub hE keepA (by omega)
      simp [-map_take, -map_drop, -map_tail]
      try simp [-map_take, -map_drop, -map_tail, rgs, hl, bv]
      repeat' first | done | ((first | ((with_reducible show lenS _ _ _ _ _ _); refine lenS_slice rfl fun _ => ?_) | ((with_reducible show iaddrS _ _ _ _ _ _ _); refine iaddr_map rfl omA omA ?_) | (with_reducible refine go_draw (i := 6) [(0, [], []), (1, [], []), (2, [], []), (3, [], []), (4, [], []), (5, [], []), (6, [], []), (7, [], []), (8, [], [])] (by kernel_rfl) ?_)) <;> simp [-map_take, -map_drop, -map_tail, rgs, hl, bv]) | ((first | (with_reducible refine condS_split ?_ ?_)) <;> intro qb <;> (have qp := qb; try simp only [psq] at qp) <;> simp [-map_take, -map_drop, -map_tail, rgs, hl, bv, qb])
      all_goals first
      | (have hlt : i < xs.length := (by first | omega | (simp at *; omega))
         rw [drop_gt hlt, drop_gt (xs := ys) (i := i) (by omega), List.cons_beq_cons] at hJ
         first
         | (refine hnx.go () ?_ ?_ ?_ ?_ ?_ ?_; omega; (simp [wrap_succ hlt hlim]); (simp); exact keepA; (first | omega | (simp; omega)); (try dsimp only); clear hnx; first | (simp_all; done) | grind)
         | (refine ⟨?_, keepA⟩; clear hnx; first | (simp_all; done) | grind)
         | (clear hnx; first | (simp_all; done) | grind))
      | (obtain rfl : i = xs.length := (by first | omega | (simp at *; omega))
         rw [List.drop_eq_nil_of_le (Nat.le_refl _), List.drop_eq_nil_of_le (by omega)] at hJ
         refine ⟨?_, keepA⟩; clear hnx; first | (simp_all; done) | grind)
  · refine PC.o okC Try.func50 rfl (.bool _) fun h nx hnx => ?_
    try simp [-map_take, -map_drop, -map_tail, rgs]
    repeat' first | done | ((first | ((with_reducible show lenS _ _ _ _ _ _); refine lenS_slice rfl fun _ => ?_) | ((with_reducible show iaddrS _ _ _ _ _ _ _); refine iaddr_map rfl omA omA ?_) | (with_reducible refine go_draw (i := 6) [(0, [], []), (1, [], []), (2, [], []), (3, [], []), (4, [], []), (5, [], []), (6, [], []), (7, [], []), (8, [], [])] (by kernel_rfl) ?_)) <;> simp [-map_take, -map_drop, -map_tail, rgs]) | ((first | (with_reducible refine condS_split ?_ ?_)) <;> intro qb <;> (have qp := qb; try simp only [psq] at qp) <;> simp [-map_take, -map_drop, -map_tail, rgs, qb])
    all_goals first | (exfalso; omega) | (symm; rw [beq_eq_false_iff_ne]; intro e; exact hl (by rw [e])) | (intro e; exact hl (by rw [e])) | skip

theorem c_szBoolS {p : Bool} {xs : List Bool} {k : Int} (h0 : 0 ≤ k) (h1 : k ≤ 1048576) : PC ctx.P 30 [.view p 1 (xs.map bv), .int .i64 k] (.int .i64 (szR xs.length k)) := by
  refine PC.lim (n := xs.length) (x := .view p 1 (xs.map bv)) (by simp) (.here (by simp)) ⟨_, Try.func30, by kernel_rfl, by kernel_rfl⟩ fun hlim => ?_
  simp only [LIM] at hlim
  refine PC.o okC Try.func30 rfl (.int _ _) fun h nx hnx => ?_
  try simp [-map_take, -map_drop, -map_tail, rgs, i64_ok (x := k - (xs.length : Int)) (by omega)]
  repeat' first | done | ((first | ((with_reducible show lenS _ _ _ _ _ _); refine lenS_slice rfl fun _ => ?_)) <;> simp [-map_take, -map_drop, -map_tail, rgs, i64_ok (x := k - (xs.length : Int)) (by omega)]) | ((first | (with_reducible refine condS_split ?_ ?_)) <;> intro qb <;> (have qp := qb; try simp only [psq] at qp) <;> simp [-map_take, -map_drop, -map_tail, rgs, i64_ok (x := k - (xs.length : Int)) (by omega), qb])
  all_goals (clear hnx; simp only [szR]; split <;> first | omega | (simp; omega))

end Go.AE.Try
end

section
/- Contracts of the laws' helpers: worlds. -/
set_option maxRecDepth 8000
set_option maxHeartbeats 4000000
namespace Go.AE.Try
open Go.Proofs

end Go.AE.Try
end

section
/- Contracts of the laws' copies as new rows. -/
set_option maxRecDepth 8000
set_option maxHeartbeats 2000000
namespace Go.AE.Try
open Go.Proofs
open List (map_take map_drop map_tail)







theorem f_toAfterS {p : Bool} {xs : List Afr} (hm : xs.length ≤ MLIM) : FC ctx.P 18 [.view p 5 (xs.map afrC)] (.ref 0 5 0 (xs.map afrC).length) [.row 5 (xs.map afrC)] := by
  have hlim : xs.length ≤ LIM := by simp only [MLIM, LIM] at *; omega
  refine FC.o1 okC Try.func18 rfl (fz_mapR afrC_fz xs) fun h nx hnx => ?_
  try simp [-map_take, -map_drop, -map_tail, rgs, hm]
  repeat' first | done | ((first | ((with_reducible show lenS _ _ _ _ _ _); refine lenS_slice rfl fun _ => ?_) | ((with_reducible show iaddrS _ _ _ _ _ _ _); refine iaddr_map rfl omA omA ?_)) <;> simp [-map_take, -map_drop, -map_tail, rgs, hm]) | ((first | (with_reducible refine condS_split ?_ ?_)) <;> intro qb <;> (have qp := qb; try simp only [psq] at qp) <;> simp [-map_take, -map_drop, -map_tail, rgs, hm, qb])
  refine go_upP (h0 := h) (nx0 := nx) [4, 8, 9, 10, 11, 12, 13, 14, 15, 16, 17, 18, 19, 20, 21] (xs.length) (fun (i : Nat) a => [(4, .int .i64 i)]) (fun i (_ : Unit) h' n' => h' (nx + 3) = some (.row 5 (fillR afrC [.int .i64 0, .int .i64 0, .int .i64 0, .int .i64 0, .bool false] xs i)) ∧ nx + 4 ≤ n') (()) (by simp) ?_ keepA (by omega) ?_
  · simp [fillR_0]
  · intro i a tm h' n' hle hJ hE hn' next hnx
    try dsimp only at hJ
    have hK : KeepB nx h' h := KeepB.sub hE keepA (by omega)
    simp [-map_take, -map_drop, -map_tail]
    obtain ⟨hJ, hJn⟩ := hJ
    try simp [-map_take, -map_drop, -map_tail, rgs, hJ]
    repeat' first | done | ((first | ((with_reducible show lenS _ _ _ _ _ _); refine lenS_slice rfl fun _ => ?_) | ((with_reducible show iaddrS _ _ _ _ _ _ _); refine iaddr_map rfl omA omA ?_) | ((with_reducible show doCall _ _ _ 39 _ _); refine call_pc (c_toAfter) ?_) | ((with_reducible show iaddrS _ _ _ _ (.ref _ _ _ _) _ _); refine iaddr_ref rfl omA omA ?_) | ((with_reducible show storeE _ _ _ _ _ _ _ _ _); refine storeE_fill hJ (by first | rfl | (simp; done)) (by simp) (by rfl) (by rfl) (by rfl) (by omega) ?_)) <;> simp [-map_take, -map_drop, -map_tail, rgs, hJ]) | ((first | (with_reducible refine condS_split ?_ ?_)) <;> intro qb <;> (have qp := qb; try simp only [psq] at qp) <;> simp [-map_take, -map_drop, -map_tail, rgs, hJ, qb])
    all_goals first
      | (have hlt : i < xs.length := (by first | omega | (simp at *; omega)); refine hnx.go () (by omega) (by simp [wrap_succ hlt hlim]) (by simp) keepA (by first | omega | (simp; omega)) ?_; (try dsimp only); refine ⟨by simp, by first | omega | (simp; omega)⟩)
      | (rw [fillR_ge (by first | omega | (simp at *; omega))] at hJ; exact fin1_ref keepA (by first | omega | (simp; omega)) (by omega) (by simp [hJ]) rfl (by simp))





theorem f_toInt64S {p : Bool} {xs : List Int} (hm : xs.length ≤ MLIM) : FC ctx.P 37 [.view p 1 (xs.map iv)] (.ref 0 1 0 (xs.map iv).length) [.row 1 (xs.map iv)] := by
  have hlim : xs.length ≤ LIM := by simp only [MLIM, LIM] at *; omega
  refine FC.o1 okC Try.func37 rfl (fz_mapR iv_fz xs) fun h nx hnx => ?_
  try simp [-map_take, -map_drop, -map_tail, rgs, hm]
  repeat' first | done | ((first | ((with_reducible show lenS _ _ _ _ _ _); refine lenS_slice rfl fun _ => ?_) | ((with_reducible show iaddrS _ _ _ _ _ _ _); refine iaddr_map rfl omA omA ?_)) <;> simp [-map_take, -map_drop, -map_tail, rgs, hm]) | ((first | (with_reducible refine condS_split ?_ ?_)) <;> intro qb <;> (have qp := qb; try simp only [psq] at qp) <;> simp [-map_take, -map_drop, -map_tail, rgs, hm, qb])
  refine go_upP (h0 := h) (nx0 := nx) [4, 8, 9, 10, 11, 12, 13, 14, 15, 16, 17, 18, 19, 20] (xs.length) (fun (i : Nat) a => [(4, .int .i64 i)]) (fun i (_ : Unit) h' n' => h' (nx + 3) = some (.row 1 (fillR iv [.int .i64 0] xs i)) ∧ nx + 4 ≤ n') (()) (by simp) ?_ keepA (by omega) ?_
  · simp [fillR_0]
  · intro i a tm h' n' hle hJ hE hn' next hnx
    try dsimp only at hJ
    have hK : KeepB nx h' h := KeepB.sub hE keepA (by omega)
    simp [-map_take, -map_drop, -map_tail]
    obtain ⟨hJ, hJn⟩ := hJ
    try simp [-map_take, -map_drop, -map_tail, rgs, hJ, iv]
    repeat' first | done | ((first | ((with_reducible show lenS _ _ _ _ _ _); refine lenS_slice rfl fun _ => ?_) | ((with_reducible show iaddrS _ _ _ _ _ _ _); refine iaddr_map rfl omA omA ?_) | ((with_reducible show iaddrS _ _ _ _ (.ref _ _ _ _) _ _); refine iaddr_ref rfl omA omA ?_) | ((with_reducible show storeE _ _ _ _ _ _ _ _ _); refine storeE_fill hJ (by first | rfl | (simp; done)) (by simp) (by rfl) (by rfl) (by rfl) (by omega) ?_)) <;> simp [-map_take, -map_drop, -map_tail, rgs, hJ, iv]) | ((first | (with_reducible refine condS_split ?_ ?_)) <;> intro qb <;> (have qp := qb; try simp only [psq] at qp) <;> simp [-map_take, -map_drop, -map_tail, rgs, hJ, iv, qb])
    all_goals first
      | (have hlt : i < xs.length := (by first | omega | (simp at *; omega)); refine hnx.go () (by omega) (by simp [wrap_succ hlt hlim]) (by simp) keepA (by first | omega | (simp; omega)) ?_; (try dsimp only); refine ⟨by simp, by first | omega | (simp; omega)⟩)
      | (rw [fillR_ge (by first | omega | (simp at *; omega))] at hJ; exact fin1_ref keepA (by first | omega | (simp; omega)) (by omega) (by simp [hJ]) rfl (by simp))

theorem f_toBoolS {p : Bool} {xs : List Bool} (hm : xs.length ≤ MLIM) : FC ctx.P 38 [.view p 1 (xs.map bv)] (.ref 0 1 0 (xs.map bv).length) [.row 1 (xs.map bv)] := by
  have hlim : xs.length ≤ LIM := by simp only [MLIM, LIM] at *; omega
  refine FC.o1 okC Try.func38 rfl (fz_mapR bv_fz xs) fun h nx hnx => ?_
  try simp [-map_take, -map_drop, -map_tail, rgs, hm]
  repeat' first | done | ((first | ((with_reducible show lenS _ _ _ _ _ _); refine lenS_slice rfl fun _ => ?_) | ((with_reducible show iaddrS _ _ _ _ _ _ _); refine iaddr_map rfl omA omA ?_)) <;> simp [-map_take, -map_drop, -map_tail, rgs, hm]) | ((first | (with_reducible refine condS_split ?_ ?_)) <;> intro qb <;> (have qp := qb; try simp only [psq] at qp) <;> simp [-map_take, -map_drop, -map_tail, rgs, hm, qb])
  refine go_upP (h0 := h) (nx0 := nx) [4, 8, 9, 10, 11, 12, 13, 14, 15, 16, 17, 18, 19, 20] (xs.length) (fun (i : Nat) a => [(4, .int .i64 i)]) (fun i (_ : Unit) h' n' => h' (nx + 3) = some (.row 1 (fillR bv [.bool false] xs i)) ∧ nx + 4 ≤ n') (()) (by simp) ?_ keepA (by omega) ?_
  · simp [fillR_0]
  · intro i a tm h' n' hle hJ hE hn' next hnx
    try dsimp only at hJ
    have hK : KeepB nx h' h := KeepB.sub hE keepA (by omega)
    simp [-map_take, -map_drop, -map_tail]
    obtain ⟨hJ, hJn⟩ := hJ
    try simp [-map_take, -map_drop, -map_tail, rgs, hJ, bv]
    repeat' first | done | ((first | ((with_reducible show lenS _ _ _ _ _ _); refine lenS_slice rfl fun _ => ?_) | ((with_reducible show iaddrS _ _ _ _ _ _ _); refine iaddr_map rfl omA omA ?_) | ((with_reducible show iaddrS _ _ _ _ (.ref _ _ _ _) _ _); refine iaddr_ref rfl omA omA ?_) | ((with_reducible show storeE _ _ _ _ _ _ _ _ _); refine storeE_fill hJ (by first | rfl | (simp; done)) (by simp) (by rfl) (by rfl) (by rfl) (by omega) ?_)) <;> simp [-map_take, -map_drop, -map_tail, rgs, hJ, bv]) | ((first | (with_reducible refine condS_split ?_ ?_)) <;> intro qb <;> (have qp := qb; try simp only [psq] at qp) <;> simp [-map_take, -map_drop, -map_tail, rgs, hJ, bv, qb])
    all_goals first
      | (have hlt : i < xs.length := (by first | omega | (simp at *; omega)); refine hnx.go () (by omega) (by simp [wrap_succ hlt hlim]) (by simp) keepA (by first | omega | (simp; omega)) ?_; (try dsimp only); refine ⟨by simp, by first | omega | (simp; omega)⟩)
      | (rw [fillR_ge (by first | omega | (simp at *; omega))] at hJ; exact fin1_ref keepA (by first | omega | (simp; omega)) (by omega) (by simp [hJ]) rfl (by simp))

end Go.AE.Try
end

section
/- Contracts of the laws' helpers: worlds. -/
set_option maxRecDepth 8000
set_option maxHeartbeats 4000000
namespace Go.AE.Try
open Go.Proofs
open List (map_take map_drop map_tail)
theorem c_toSlots {F : Nat → Bool} {s : Slt} (hs : sltsz s ≤ 1048576) : PC ctx.P 17 [.agg (sltV F s)] (.agg (sltV (fun _ => true) s)) := by
  simp only [wldsz, afssz, tmssz, sprsz, sltsz] at hs
  refine PC.o okC Try.func17 rfl (.agg _ (sltV_fz s)) fun h nx hnx => ?_
  try simp [-map_take, -map_drop, -map_tail, rgs, sltV]
  repeat' first | done | ((first | ((with_reducible show doCall _ _ _ 37 _ _); refine call_pc (c_toInt64S (by simp only [MLIM]; omega)) ?_) | ((with_reducible show doCall _ _ _ 38 _ _); refine call_pc (c_toBoolS (by simp only [MLIM]; omega)) ?_)) <;> simp [-map_take, -map_drop, -map_tail, rgs, sltV])
theorem c_eqSlots {F1 F2 : Nat → Bool} {x y : Slt} : PC ctx.P 22 [.agg (sltV F1 x), .agg (sltV F2 y)] (.bool (x == y)) := by
  rw [slt_beq]
  refine PC.o okC Try.func22 rfl (.bool _) fun h nx hnx => ?_
  try simp [-map_take, -map_drop, -map_tail, rgs, sltV]
  repeat' first | done | ((first | ((with_reducible show doCall _ _ _ 49 _ _); refine call_pc (c_eqInt64S) ?_) | ((with_reducible show doCall _ _ _ 50 _ _); refine call_pc (c_eqBoolS) ?_)) <;> simp [-map_take, -map_drop, -map_tail, rgs, sltV]) | ((first | (with_reducible refine condS_split ?_ ?_)) <;> intro qb <;> (have qp := qb; try simp only [psq] at qp) <;> simp [-map_take, -map_drop, -map_tail, rgs, sltV, qb])
  all_goals (try clear hnx)
  all_goals first | (simp_all []; done) | (simp_all []; omega) | (rw [Bool.eq_iff_iff]; simp_all []; done) | (rw [Bool.eq_iff_iff]; simp_all []; omega) | omega | (simp only []; grind) | grind
theorem c_szSlots {F : Nat → Bool} {s : Slt} {k : Int} (h0 : 0 ≤ k) (h1 : k ≤ 1048576) : PC ctx.P 12 [.agg (sltV F s), .int .i64 k] (.int .i64 (szR (sltsz s) k)) := by
  rw [slt_szN s h0]
  refine PC.o okC Try.func12 rfl (.int _ _) fun h nx hnx => ?_
  try simp [-map_take, -map_drop, -map_tail, rgs, sltV]
  repeat' first | done | ((first | ((with_reducible show doCall _ _ _ 29 _ _); refine call_pc (c_szInt64S (by first | assumption | omega) (by repeat (first | assumption | apply szR_hi))) ?_) | ((with_reducible show doCall _ _ _ 30 _ _); refine call_pc (c_szBoolS (by first | assumption | omega) (by repeat (first | assumption | apply szR_hi))) ?_)) <;> simp [-map_take, -map_drop, -map_tail, rgs, sltV]) | ((first | (with_reducible refine condS_split ?_ ?_)) <;> intro qb <;> (have qp := qb; try simp only [psq] at qp) <;> simp [-map_take, -map_drop, -map_tail, rgs, sltV, qb])
  all_goals (clear hnx; simp only [szN]; repeat (first | rw [if_pos (by omega)] | rw [if_neg (by omega)]))



theorem c_toAfters {F : Nat → Bool} {s : Afs} (hs : afssz s ≤ 1048576) : PC ctx.P 6 [.agg (afsV F s)] (.agg (afsV (fun _ => true) s)) := by
  simp only [wldsz, afssz, tmssz, sprsz, sltsz] at hs
  refine PC.o okC Try.func6 rfl (.agg _ (afsV_fz s)) fun h nx hnx => ?_
  try simp [-map_take, -map_drop, -map_tail, rgs, afsV, sltV]
  repeat' first | done | ((first | ((with_reducible show doCall _ _ _ 17 _ _); refine call_pc (c_toSlots (s := s.slots) (F := F) (by simp only [afssz, tmssz, sprsz, sltsz]; omega)) ?_) | ((with_reducible show doCall _ _ _ 18 _ _); refine call_pc (c_toAfterS (by simp only [MLIM]; omega)) ?_)) <;> simp [-map_take, -map_drop, -map_tail, rgs, afsV, sltV])
theorem c_eqAfters {F1 F2 : Nat → Bool} {x y : Afs} : PC ctx.P 8 [.agg (afsV F1 x), .agg (afsV F2 y)] (.bool (x == y)) := by
  rw [afs_beq]
  refine PC.o okC Try.func8 rfl (.bool _) fun h nx hnx => ?_
  try simp [-map_take, -map_drop, -map_tail, rgs, afsV, sltV]
  repeat' first | done | ((first | ((with_reducible show doCall _ _ _ 22 _ _); refine call_pc (c_eqSlots (x := x.slots) (y := y.slots) (F1 := F1) (F2 := F2)) ?_) | ((with_reducible show doCall _ _ _ 23 _ _); refine call_pc (c_eqAfterS) ?_)) <;> simp [-map_take, -map_drop, -map_tail, rgs, afsV, sltV]) | ((first | (with_reducible refine condS_split ?_ ?_)) <;> intro qb <;> (have qp := qb; try simp only [psq] at qp) <;> simp [-map_take, -map_drop, -map_tail, rgs, afsV, sltV, qb])
  all_goals (try clear hnx)
  all_goals first | (simp_all []; done) | (simp_all []; omega) | (rw [Bool.eq_iff_iff]; simp_all []; done) | (rw [Bool.eq_iff_iff]; simp_all []; omega) | omega | (simp only []; grind) | grind
theorem c_szAfters {F : Nat → Bool} {s : Afs} {k : Int} (h0 : 0 ≤ k) (h1 : k ≤ 1048576) : PC ctx.P 4 [.agg (afsV F s), .int .i64 k] (.int .i64 (szR (afssz s) k)) := by
  rw [afs_szN s h0]
  refine PC.o okC Try.func4 rfl (.int _ _) fun h nx hnx => ?_
  try simp [-map_take, -map_drop, -map_tail, rgs, afsV, sltV]
  repeat' first | done | ((first | ((with_reducible show doCall _ _ _ 12 _ _); refine call_pc (c_szSlots (s := s.slots) (F := F) (by first | assumption | omega) (by repeat (first | assumption | apply szR_hi))) ?_) | ((with_reducible show doCall _ _ _ 13 _ _); refine call_pc (c_szAfterS (by first | assumption | omega) (by repeat (first | assumption | apply szR_hi))) ?_)) <;> simp [-map_take, -map_drop, -map_tail, rgs, afsV, sltV]) | ((first | (with_reducible refine condS_split ?_ ?_)) <;> intro qb <;> (have qp := qb; try simp only [psq] at qp) <;> simp [-map_take, -map_drop, -map_tail, rgs, afsV, sltV, qb])
  all_goals (clear hnx; simp only [szN]; repeat (first | rw [if_pos (by omega)] | rw [if_neg (by omega)]))


end Go.AE.Try
end

section
/- Contracts of the laws' copies of worlds as new rows. -/
set_option maxRecDepth 8000
set_option maxHeartbeats 2000000
namespace Go.AE.Try
open Go.Proofs
open List (map_take map_drop map_tail)
theorem f_toSlots {F : Nat → Bool} {s : Slt} (h1 : s.ages.length ≤ MLIM) (h2 : s.used.length ≤ MLIM) : FC ctx.P 17 [.agg (sltV F s)] (.agg [.ref 0 1 0 s.ages.length, .ref 1 1 0 s.used.length]) [.row 1 (s.ages.map iv), .row 1 (s.used.map bv)] := by
  refine FC.o okC Try.func17 rfl ((.one _ (.agg _ fun c hc => by simp at hc; rcases hc with rfl | rfl <;> first | exact .ref _ _ _ _ (by simp) | exact .fz _ (.int _ _)))) ((fun e he => by simp at he; rcases he with rfl | rfl <;> first | exact fz_mapR iv_fz _ | exact fz_mapR bv_fz _ | exact fz_mapR twgC_fz _ | exact fz_mapR tmrC_fz _ | exact fz_mapR afrC_fz _)) fun h nx hnx => ?_
  try simp [-map_take, -map_drop, -map_tail, rgs, sltV]
  repeat' first | done | ((first | ((with_reducible show doCall _ _ _ 37 _ _); refine call_fc (f_toInt64S h1) ?_) | ((with_reducible show doCall _ _ _ 38 _ _); refine call_fc (f_toBoolS h2) ?_)) <;> simp [-map_take, -map_drop, -map_tail, rgs, sltV])
  exact finF2 (i := nx + 8) (j := nx + 14) keepA (by omega) (by omega) (by omega) (by simp) (by simp) (by simp)
theorem f_toAfters {F : Nat → Bool} {s : Afs} (h1 : s.slots.ages.length ≤ MLIM) (h2 : s.slots.used.length ≤ MLIM) (h3 : s.list.length ≤ MLIM) : FC ctx.P 6 [.agg (afsV F s)] (.agg [.ref 0 1 0 s.slots.ages.length, .ref 1 1 0 s.slots.used.length, .ref 2 5 0 s.list.length]) [.row 1 (s.slots.ages.map iv), .row 1 (s.slots.used.map bv), .row 5 (s.list.map afrC)] := by
  refine FC.o okC Try.func6 rfl ((.one _ (.agg _ fun c hc => by simp at hc; rcases hc with rfl | rfl | rfl <;> first | exact .ref _ _ _ _ (by simp) | exact .fz _ (.int _ _)))) ((fun e he => by simp at he; rcases he with rfl | rfl | rfl <;> first | exact fz_mapR iv_fz _ | exact fz_mapR bv_fz _ | exact fz_mapR twgC_fz _ | exact fz_mapR tmrC_fz _ | exact fz_mapR afrC_fz _)) fun h nx hnx => ?_
  try simp [-map_take, -map_drop, -map_tail, rgs, afsV, sltV]
  repeat' first | done | ((first | ((with_reducible show doCall _ _ _ 17 _ _); refine call_fc (f_toSlots (s := s.slots) (F := F) h1 h2) ?_) | ((with_reducible show doCall _ _ _ 18 _ _); refine call_fc (f_toAfterS h3) ?_)) <;> simp [-map_take, -map_drop, -map_tail, rgs, afsV, sltV])
  exact finF3 (i := nx + 8) (j := nx + 9) (l := nx + 15) keepA (by omega) (by omega) (by omega) (by omega) (by omega) (by omega) (by simp) (by simp) (by simp) (by simp)
end Go.AE.Try
end

section
/- Contracts of the program's functions that are registered, in an object of their own. -/
set_option maxRecDepth 8000
set_option maxHeartbeats 4000000
namespace Go.AE.Try
open Go.Proofs
open List (map_take map_drop map_tail)
theorem m_removeA {A : Afs} {p ia ib ic i : Nat} (hi : i < A.list.length) (hl : A.list.length ≤ 1048576) (hsl : A.slots.used.length = A.slots.ages.length)
    (hr : canDrop A.slots (gt A.list (i : Int)).han = true → 0 ≤ (gt A.list (i : Int)).han.age ∧ (gt A.list (i : Int)).han.age < 1000000) : AC ctx.P 48 [.ptr p 0, .int .i64 i]
    (fun h _ => h p = some (.obj (afsR ia ib ic A)) ∧ AfO h ia ib ic A)
    (RemA p ia ib ic (canDrop A.slots (gt A.list (i : Int)).han) (goA A i)) := by
  refine AC.o okC Try.func48 rfl fun h nx hfr hnx hpre => ?_
  obtain ⟨o1, A1⟩ := hpre
  have hp : p < nx := hnx p (by rw [o1]; simp)
  have i1 : ia < nx := hnx ia (by rw [A1.r1]; simp)
  have i2 : ib < nx := hnx ib (by rw [A1.r2]; simp)
  have i3 : ic < nx := hnx ic (by rw [A1.r3]; simp)
  have npa : p ≠ ia := fun e => by have := A1.r1; rw [← e, o1] at this; cases this
  have npb : p ≠ ib := fun e => by have := A1.r2; rw [← e, o1] at this; cases this
  have npc : p ≠ ic := fun e => by have := A1.r3; rw [← e, o1] at this; cases this
  have n13 := A1.n13
  have n23 := A1.n23
  have t9 := A1.r3
  simp only [afsR] at o1
  have hgx : (A.list.map afrC)[i]? = some (afrC (gt A.list (i : Int))) := by rw [List.getElem?_map, ← Int.toNat_natCast i, gt_some (by omega) (by omega)]; simp
  obtain ⟨x, hx⟩ : ∃ x, x = gt A.list (i : Int) := ⟨_, rfl⟩
  rw [← hx] at hgx hr ⊢
  try simp [-map_take, -map_drop, -map_tail, rgs, o1, t9]
  repeat' first | done | ((first | ((with_reducible show iaddrS _ _ _ _ _ _ _); refine iaddr_map rfl omA omA ?_) | (((with_reducible show iaddrS _ _ _ _ (.ref _ _ _ _) _ _); refine iaddr_ref rfl (by omega) (by omega) ?_)) | (((with_reducible show loadE _ _ _ _ _ _ _ _); refine loadE_row hgx ?_)) | (with_reducible refine go_draw (i := 1) [(0, [], []), (1, [], []), (2, [], []), (3, [], []), (4, [], []), (5, [], []), (6, [], []), (7, [], []), (8, [], []), (9, [], []), (10, [], []), (11, [], []), (12, [], []), (13, [], [])] (by kernel_rfl) ?_)) <;> simp [-map_take, -map_drop, -map_tail, rgs, o1, t9]) | ((first | (with_reducible refine condS_split ?_ ?_)) <;> intro qb <;> (have qp := qb; try simp only [psq] at qp) <;> simp [-map_take, -map_drop, -map_tail, rgs, o1, t9, qb])
  rw [show List.take 2 (afrC x) = hanC x.han from rfl]
  refine call_ac (m_drop (ia := ia) (ib := ib) (s := A.slots) (x := x.han) A1.ne hsl hr) ⟨A1.r1, A1.r2⟩ ?_
  rintro r h1 n1 ⟨rfl, d1, d2, df⟩ hle1 hfr1
  dsimp only at df hle1
  have o2 := df p (by omega) npa npb
  rw [o1] at o2
  have t9' := (df ic (by omega) n13.symm n23.symm).trans t9
  by_cases hc : canDrop A.slots x.han = true
  · have ew : IntKind.i64.wrap ((i : Int) + 1) = (i : Int) + 1 := i64_ok (by omega)
    simp only [dropIf, hc, if_true] at d1 d2
    rw [hc]
    try simp [-map_take, -map_drop, -map_tail, rgs, hc, o2, t9', ew]
    repeat' first | done | ((first | ((with_reducible show iaddrS _ _ _ _ _ _ _); refine iaddr_map rfl omA omA ?_) | (with_reducible refine go_draw (i := 1) [(0, [], []), (1, [], []), (2, [], []), (3, [], []), (4, [], []), (5, [], []), (6, [], []), (7, [], []), (8, [], []), (9, [], []), (10, [], []), (11, [], []), (12, [], []), (13, [], [])] (by kernel_rfl) ?_)) <;> simp [-map_take, -map_drop, -map_tail, rgs, hc, o2, t9', ew]) | ((first | (with_reducible refine condS_split ?_ ?_)) <;> intro qb <;> (have qp := qb; try simp only [psq] at qp) <;> simp [-map_take, -map_drop, -map_tail, rgs, hc, o2, t9', ew, qb])
    refine call_ac (m_DeleteAfr hi hl) t9' ?_
    rintro r h2 n2 ⟨jd, rfl, hj1, hj2, hrow, hf⟩ hle2 hfr2
    dsimp only at hj1 hf hle2
    have o3 := hf p (by omega) npc
    rw [o2] at o3
    try simp [-map_take, -map_drop, -map_tail, rgs, o3]
    repeat' first | done | ((first | ((with_reducible show iaddrS _ _ _ _ _ _ _); refine iaddr_map rfl omA omA ?_) | (with_reducible refine go_draw (i := 1) [(0, [], []), (1, [], []), (2, [], []), (3, [], []), (4, [], []), (5, [], []), (6, [], []), (7, [], []), (8, [], []), (9, [], []), (10, [], []), (11, [], []), (12, [], []), (13, [], [])] (by kernel_rfl) ?_)) <;> simp [-map_take, -map_drop, -map_tail, rgs, o3]) | ((first | (with_reducible refine condS_split ?_ ?_)) <;> intro qb <;> (have qp := qb; try simp only [psq] at qp) <;> simp [-map_take, -map_drop, -map_tail, rgs, o3, qb])
    refine ⟨rfl, fun _ => ⟨jd, by omega, by omega, ?_, A1.ne, ?_, ?_, ?_⟩, (fun e => by cases e), fun j hj hjp ha hb hcc => ?_⟩
    · rw [upd_same]; simp [afsR, goA, dropS]
    · rw [upd_ne _ _ _ _ npa.symm, hf ia (by omega) n13, d1]; simp only [goA, ← hx]
    · rw [upd_ne _ _ _ _ npb.symm, hf ib (by omega) n23, d2]; simp only [goA, ← hx]
    · rw [upd_ne _ _ _ _ (by omega)]; exact hrow
    · rw [upd_ne _ _ _ _ hjp, hf j (by omega) hcc, df j (by omega) ha hb]
  · have hc2 : canDrop A.slots x.han = false := by simpa using hc
    simp only [dropIf, hc2, if_neg (by decide : ¬ (false = true))] at d1 d2
    rw [hc2]
    try simp [-map_take, -map_drop, -map_tail, rgs, hc2, o2, t9']
    repeat' first | done | ((first | ((with_reducible show iaddrS _ _ _ _ _ _ _); refine iaddr_map rfl omA omA ?_) | (with_reducible refine go_draw (i := 1) [(0, [], []), (1, [], []), (2, [], []), (3, [], []), (4, [], []), (5, [], []), (6, [], []), (7, [], []), (8, [], []), (9, [], []), (10, [], []), (11, [], []), (12, [], []), (13, [], [])] (by kernel_rfl) ?_)) <;> simp [-map_take, -map_drop, -map_tail, rgs, hc2, o2, t9']) | ((first | (with_reducible refine condS_split ?_ ?_)) <;> intro qb <;> (have qp := qb; try simp only [psq] at qp) <;> simp [-map_take, -map_drop, -map_tail, rgs, hc2, o2, t9', qb])
    have hsame : ∀ j, j < nx → h1 j = h j := fun j hj => by
      by_cases e7 : j = ia
      · rw [e7, d1]; exact A1.r1.symm
      · by_cases e8 : j = ib
        · rw [e8, d2]; exact A1.r2.symm
        · exact df j (by omega) e7 e8
    exact ⟨rfl, (fun e => by cases e), fun _ => hsame, fun j hj _ _ _ _ => hsame j hj⟩
theorem m_startB {A : Afs} {p ia ib ic : Nat} (hl : A.list.length ≤ 1048576) (hsl : A.slots.used.length = A.slots.ages.length)
    (hr : ∀ k : Nat, k < A.list.length → canDrop A.slots (gt A.list (k : Int)).han = true → 0 ≤ (gt A.list (k : Int)).han.age ∧ (gt A.list (k : Int)).han.age < 1000000) : AC ctx.P 21 [.ptr p 0]
    (fun h _ => h p = some (.obj (afsR ia ib ic A)) ∧ AfO h ia ib ic A)
    (StA p ia ib ic A) := by
  have hlim : A.list.length ≤ LIM := by simp only [LIM]; omega
  refine AC.o okC Try.func21 rfl fun h nx hfr hnx hpre => ?_
  obtain ⟨o1, A1⟩ := hpre
  have hp : p < nx := hnx p (by rw [o1]; simp)
  have i1 : ia < nx := hnx ia (by rw [A1.r1]; simp)
  have i2 : ib < nx := hnx ib (by rw [A1.r2]; simp)
  have i3 : ic < nx := hnx ic (by rw [A1.r3]; simp)
  have t9 := A1.r3
  have o0 := o1
  simp only [afsR] at o1
  have hp1 : (p = nx) = False := by simp only [eq_iff_iff, iff_false]; omega
  try simp [-map_take, -map_drop, -map_tail, rgs, o1, hp1]
  repeat' first | done | ((first | ((with_reducible show lenS _ _ _ _ _ _); refine lenS_slice rfl fun _ => ?_) | ((with_reducible show iaddrS _ _ _ _ _ _ _); refine iaddr_map rfl omA omA ?_)) <;> simp [-map_take, -map_drop, -map_tail, rgs, o1, hp1]) | ((first | (with_reducible refine guardS_split ?_ ?_) | (with_reducible refine condS_split ?_ ?_)) <;> intro qb <;> (have qp := qb; try simp only [psq] at qp) <;> simp [-map_take, -map_drop, -map_tail, rgs, o1, hp1, qb])
  refine go_upP (h0 := h) (nx0 := nx) [3, 4, 5, 11, 12, 13, 14, 15, 16, 17, 18, 19, 20, 21, 22, 23, 24] (A.list.length) (fun (i : Nat) a => [(11, .int .i64 i)]) (fun i (_ : Unit) h' n' => (∀ k : Nat, k < i → isGo A (gt A.list (k : Int)) = false) ∧ h' nx = some (.obj (afrC default)) ∧ nx < n') (()) (by simp) ?_ keepA (by omega) ?_
  · exact ⟨fun k hk => by omega, upd_same .., by omega⟩
  · intro i a tm h' n' hle hJ hE hn' next hnx
    try dsimp only at hJ
    have hK : KeepB nx h' h := KeepB.sub hE keepA (by omega)
    simp [-map_take, -map_drop, -map_tail]
    obtain ⟨hJ, z1, hn1⟩ := hJ
    have o2 := (hK p hp).trans o1
    have t9' := (hK ic i3).trans t9
    have k1 : ∀ k, (p = n' + k) = False := fun k => by simp only [eq_iff_iff, iff_false]; omega
    have k2 : ∀ k, (ic = n' + k) = False := fun k => by simp only [eq_iff_iff, iff_false]; omega
    have k3 : ∀ k, (nx = n' + k) = False := fun k => by simp only [eq_iff_iff, iff_false]; omega
    by_cases hlt : i < A.list.length
    · have hgx : (A.list.map afrC)[i]? = some (afrC (gt A.list (i : Int))) := by rw [List.getElem?_map, ← Int.toNat_natCast i, gt_some (by omega) (by omega)]; simp
      have hrem := m_removeA (p := p) (ia := ia) (ib := ib) (ic := ic) hlt hl hsl (hr i hlt)
      obtain ⟨x, hx⟩ : ∃ x, x = gt A.list (i : Int) := ⟨_, rfl⟩
      rw [← hx] at hgx hrem
      by_cases hq : x.queued = true
      · try simp [-map_take, -map_drop, -map_tail, rgs, o2, t9', hlt, hq, k1, k2, k3]
        repeat' first | done | ((first | ((with_reducible show lenS _ _ _ _ _ _); refine lenS_slice rfl fun _ => ?_) | ((with_reducible show iaddrS _ _ _ _ _ _ _); refine iaddr_map rfl omA omA ?_) | (((with_reducible show iaddrS _ _ _ _ (.ref _ _ _ _) _ _); refine iaddr_ref rfl (by omega) (by omega) ?_)) | (((with_reducible show loadE _ _ _ _ _ _ _ _); refine loadE_row hgx ?_))) <;> simp [-map_take, -map_drop, -map_tail, rgs, o2, t9', hlt, hq, k1, k2, k3]) | ((first | (with_reducible refine guardS_split ?_ ?_) | (with_reducible refine condS_split ?_ ?_)) <;> intro qb <;> (have qp := qb; try simp only [psq] at qp) <;> simp [-map_take, -map_drop, -map_tail, rgs, o2, t9', hlt, hq, k1, k2, k3, qb])
        have hkk : ∀ j, j < nx → upd (upd h' (n' + 4) (some (Ent.obj (afrC default)))) (n' + 4) (some (Ent.obj (afrC x))) j = h j := fun j hj => by rw [upd_ne _ _ _ _ (by omega), upd_ne _ _ _ _ (by omega)]; exact hK j hj
        refine call_ac hrem ⟨by dsimp only; rw [upd_ne _ _ _ _ (by omega), upd_ne _ _ _ _ (by omega), hK p hp]; exact o0, A1.keep (by dsimp only; rw [upd_ne _ _ _ _ (by omega), upd_ne _ _ _ _ (by omega), hK ia i1]) (by dsimp only; rw [upd_ne _ _ _ _ (by omega), upd_ne _ _ _ _ (by omega), hK ib i2]) (by dsimp only; rw [upd_ne _ _ _ _ (by omega), upd_ne _ _ _ _ (by omega), hK ic i3])⟩ ?_
        rintro r h2 n2 ⟨rfl, ht, hf, hfr2⟩ hle2 hfr3
        dsimp only at ht hf hfr2 hle2
        have x5 := hfr2 (n' + 4) (by omega) (by omega) (by omega) (by omega) (by omega)
        rw [upd_same] at x5
        have z2 := hfr2 nx (by omega) (by omega) (by omega) (by omega) (by omega)
        rw [upd_ne _ _ _ _ (by omega), upd_ne _ _ _ _ (by omega), z1] at z2
        by_cases hc : canDrop A.slots x.han = true
        · rw [hc] at ht ⊢
          have hgo : goAt A = some i := goAt_some hlt hJ (by simp [isGo, ← hx, hq, hc])
          try simp [-map_take, -map_drop, -map_tail, rgs, x5, z2, k3, afrC]
          repeat' first | done | ((first | ((with_reducible show lenS _ _ _ _ _ _); refine lenS_slice rfl fun _ => ?_) | ((with_reducible show iaddrS _ _ _ _ _ _ _); refine iaddr_map rfl omA omA ?_)) <;> simp [-map_take, -map_drop, -map_tail, rgs, x5, z2, k3, afrC]) | ((first | (with_reducible refine guardS_split ?_ ?_) | (with_reducible refine condS_split ?_ ?_)) <;> intro qb <;> (have qp := qb; try simp only [psq] at qp) <;> simp [-map_take, -map_drop, -map_tail, rgs, x5, z2, k3, afrC, qb])
          obtain ⟨id, i1', i2', o3, A3⟩ := ht rfl
          refine ⟨fun i' hi' => ?_, (fun hn => by rw [hgo] at hn; cases hn), fun j hj hjp ha hb hcc => ?_⟩
          · rw [hgo] at hi'
            cases hi'
            rw [← hx]
            exact ⟨rfl, id, by omega, by omega, by rw [upd_ne _ _ _ _ (by omega)]; exact o3, A3.keep (by rw [upd_ne _ _ _ _ (by omega)]) (by rw [upd_ne _ _ _ _ (by omega)]) (by rw [upd_ne _ _ _ _ (by omega)])⟩
          · rw [upd_ne _ _ _ _ (by omega), hfr2 j (by omega) hjp ha hb hcc, upd_ne _ _ _ _ (by omega), upd_ne _ _ _ _ (by omega)]
            exact hK j hj
        · have hc2 : canDrop A.slots x.han = false := by simpa using hc
          rw [hc2] at hf ⊢
          try simp [-map_take, -map_drop, -map_tail, rgs]
          repeat' first | done | ((first | ((with_reducible show lenS _ _ _ _ _ _); refine lenS_slice rfl fun _ => ?_) | ((with_reducible show iaddrS _ _ _ _ _ _ _); refine iaddr_map rfl omA omA ?_)) <;> simp [-map_take, -map_drop, -map_tail, rgs]) | ((first | (with_reducible refine guardS_split ?_ ?_) | (with_reducible refine condS_split ?_ ?_)) <;> intro qb <;> (have qp := qb; try simp only [psq] at qp) <;> simp [-map_take, -map_drop, -map_tail, rgs, qb])
          refine hnx.go () ?_ ?_ ?_ ?_ ?_ ?_
          · omega
          · simp [wrap_succ hlt hlim]
          · simp
          · intro j hj
            rw [hf rfl j (by omega), upd_ne _ _ _ _ (by omega), upd_ne _ _ _ _ (by omega)]
            exact hK j hj
          · first | omega | (simp; omega)
          try dsimp only
          refine ⟨fun k hk => ?_, z2, by omega⟩
          by_cases hk2 : k < i
          · exact hJ k hk2
          · obtain rfl : k = i := by omega
            simp [isGo, ← hx, hc2]
      · try simp [-map_take, -map_drop, -map_tail, rgs, o2, t9', hlt, hq, k1, k2, k3]
        repeat' first | done | ((first | ((with_reducible show lenS _ _ _ _ _ _); refine lenS_slice rfl fun _ => ?_) | ((with_reducible show iaddrS _ _ _ _ _ _ _); refine iaddr_map rfl omA omA ?_) | (((with_reducible show iaddrS _ _ _ _ (.ref _ _ _ _) _ _); refine iaddr_ref rfl (by omega) (by omega) ?_)) | (((with_reducible show loadE _ _ _ _ _ _ _ _); refine loadE_row hgx ?_))) <;> simp [-map_take, -map_drop, -map_tail, rgs, o2, t9', hlt, hq, k1, k2, k3]) | ((first | (with_reducible refine guardS_split ?_ ?_) | (with_reducible refine condS_split ?_ ?_)) <;> intro qb <;> (have qp := qb; try simp only [psq] at qp) <;> simp [-map_take, -map_drop, -map_tail, rgs, o2, t9', hlt, hq, k1, k2, k3, qb])
        refine hnx.go () ?_ ?_ ?_ ?_ ?_ ?_
        · omega
        · simp [wrap_succ hlt hlim]
        · simp
        · exact keepA
        · first | omega | (simp; omega)
        try dsimp only
        refine ⟨fun k hk => ?_, by simp [k3, z1], by omega⟩
        by_cases hk2 : k < i
        · exact hJ k hk2
        · obtain rfl : k = i := by omega
          simp [isGo, ← hx, hq]
    · have he : i = A.list.length := by omega
      try simp [-map_take, -map_drop, -map_tail, rgs, hlt, z1, k3]
      repeat' first | done | ((first | ((with_reducible show lenS _ _ _ _ _ _); refine lenS_slice rfl fun _ => ?_) | ((with_reducible show iaddrS _ _ _ _ _ _ _); refine iaddr_map rfl omA omA ?_)) <;> simp [-map_take, -map_drop, -map_tail, rgs, hlt, z1, k3]) | ((first | (with_reducible refine guardS_split ?_ ?_) | (with_reducible refine condS_split ?_ ?_)) <;> intro qb <;> (have qp := qb; try simp only [psq] at qp) <;> simp [-map_take, -map_drop, -map_tail, rgs, hlt, z1, k3, qb])
      subst he
      have hgo : goAt A = none := goAt_none hJ
      refine ⟨(fun i hi => by rw [hgo] at hi; cases hi), fun _ => ⟨rfl, ?_, A1.keep ?_ ?_ ?_⟩, fun j hj _ _ _ _ => ?_⟩
      · rw [upd_ne _ _ _ _ (by omega)]; exact hK p hp
      · rw [upd_ne _ _ _ _ (by omega)]; exact hK ia i1
      · rw [upd_ne _ _ _ _ (by omega)]; exact hK ib i2
      · rw [upd_ne _ _ _ _ (by omega)]; exact hK ic i3
      · rw [upd_ne _ _ _ _ (by omega)]; exact hK j hj
theorem f_Started {F : Nat → Bool} {A : Afs} (h1 : A.slots.ages.length ≤ 1048576) (h2 : A.slots.used.length ≤ 1048576) (h3 : A.list.length ≤ 1048576) : FC ctx.P 7 [.agg (afsV F A)]
    (.tup [.agg [.ref 0 1 0 (stA A).slots.ages.length, .ref 1 1 0 (stA A).slots.used.length, .ref 2 5 0 (stA A).list.length], .agg (afrC (stX A)), .bool (stB A)]) [.row 1 ((stA A).slots.ages.map iv), .row 1 ((stA A).slots.used.map bv), .row 5 ((stA A).list.map afrC)] := by
  refine FC.ofAC (.tup _ (by simp only [List.mem_cons, List.not_mem_nil, or_false]; rintro c (rfl | rfl | rfl); exact .agg _ (fun c hc => by (simp only [List.mem_cons, List.not_mem_nil, or_false] at hc); rcases hc with rfl | rfl | rfl <;> exact .ref _ _ _ _ (by simp)); exact .one _ (.fz _ (.agg _ (afrC_fz _))); exact .one _ (.fz _ (.bool _)))) (fun e he => by simp at he; rcases he with rfl | rfl | rfl <;> first | exact fz_mapR iv_fz _ | exact fz_mapR bv_fz _ | exact fz_mapR afrC_fz _) ?_
  by_cases hs : afsOk A = true
  · obtain ⟨a1, a2, a3⟩ := afs_facts hs
    refine AC.o okC Try.func7 rfl fun h nx hfr hnx hpre => ?_
    try simp [-map_take, -map_drop, -map_tail, rgs, hs, afsV]
    repeat' first | done | ((first | ((with_reducible show doCall _ _ _ 19 _ _); refine call_pc (c_AftersOk (x := A) (F := F)) ?_) | (with_reducible refine go_draw (i := 5) [(0, [], []), (1, [], []), (2, [], []), (3, [.tmp 6], []), (4, [], []), (5, [], [])] (by kernel_rfl) ?_)) <;> simp [-map_take, -map_drop, -map_tail, rgs, hs, afsV]) | ((first | (with_reducible refine condS_split ?_ ?_)) <;> intro qb <;> (have qp := qb; try simp only [psq] at qp) <;> simp [-map_take, -map_drop, -map_tail, rgs, hs, afsV, qb])
    refine call_fc (f_cloneAfters (F := F) (s := A) (by simp only [MLIM]; omega) (by simp only [MLIM]; omega) (by simp only [MLIM]; omega)) ?_
    try simp [-map_take, -map_drop, -map_tail, rgs, free_of hnx]
    repeat' first | done | ((first | (with_reducible refine go_draw (i := 5) [(0, [], []), (1, [], []), (2, [], []), (3, [.tmp 6], []), (4, [], []), (5, [], [])] (by kernel_rfl) ?_)) <;> simp [-map_take, -map_drop, -map_tail, rgs, free_of hnx]) | ((first | (with_reducible refine condS_split ?_ ?_)) <;> intro qb <;> (have qp := qb; try simp only [psq] at qp) <;> simp [-map_take, -map_drop, -map_tail, rgs, free_of hnx, qb])
    refine call_ac (m_startB (A := A) (p := nx + 9) (ia := nx + 11) (ib := nx + 12) (ic := nx + 13) (by omega) a1 a3) ⟨by simp [afsR], ⟨by omega, by simp, by simp, by simp⟩⟩ ?_
    rintro r h1 n1 ⟨q1, q2, q3⟩ hle1 hfr1
    dsimp only at q1 q2 q3 hle1
    have z1 := q3 (nx + 1) (by omega) (by omega) (by omega) (by omega) (by omega)
    have z2 := q3 (nx + 2) (by omega) (by omega) (by omega) (by omega) (by omega)
    simp at z1 z2
    have KK : ∀ j, j < nx → h1 j = h j := fun j hj => by
      rw [q3 j (by omega) (by omega) (by omega) (by omega) (by omega)]
      repeat rw [upd_ne _ _ _ _ (by omega)]
    have k9 : ∀ k, (nx + 1 = n1 + k) = False := fun k => by simp only [eq_iff_iff, iff_false]; omega
    have k8 : ∀ k, (nx + 2 = n1 + k) = False := fun k => by simp only [eq_iff_iff, iff_false]; omega
    have k7 : ∀ k, (nx + 9 = n1 + k) = False := fun k => by simp only [eq_iff_iff, iff_false]; omega
    cases hg : goAt A with
    | some i =>
      obtain ⟨rfl, id, j1, j2, o2, A2⟩ := q1 i hg
      have e1 : stA A = goA A i := by simp [stA, hs, hg]
      have e2 : stX A = gt A.list (i : Int) := by simp [stX, hs, hg]
      have e3 : stB A = true := by simp [stB, hs, hg]
      rw [e1, e2, e3]
      simp only [afsR] at o2
      try simp [-map_take, -map_drop, -map_tail, rgs, o2, z1, z2, afrC, k7, k8, k9]
      repeat' first | done | ((first | (with_reducible refine go_draw (i := 5) [(0, [], []), (1, [], []), (2, [], []), (3, [.tmp 6], []), (4, [], []), (5, [], [])] (by kernel_rfl) ?_)) <;> simp [-map_take, -map_drop, -map_tail, rgs, o2, z1, z2, afrC, k7, k8, k9]) | ((first | (with_reducible refine condS_split ?_ ?_)) <;> intro qb <;> (have qp := qb; try simp only [psq] at qp) <;> simp [-map_take, -map_drop, -map_tail, rgs, o2, z1, z2, afrC, k7, k8, k9, qb])
      refine .done (finF3 (i := nx + 11) (j := nx + 12) (l := id) (fun j hj => ?_) (by omega) (by omega) (by omega) (by omega) (by omega) (by omega) ?_ ?_ ?_ (by simp))
      · repeat rw [upd_ne _ _ _ _ (by omega)]
        exact KK j hj
      · repeat rw [upd_ne _ _ _ _ (by omega)]
        exact A2.r1
      · repeat rw [upd_ne _ _ _ _ (by omega)]
        exact A2.r2
      · repeat rw [upd_ne _ _ _ _ (by omega)]
        exact A2.r3
    | none =>
      obtain ⟨rfl, o2, A2⟩ := q2 hg
      have e1 : stA A = A := by simp [stA, hs, hg]
      have e2 : stX A = default := by simp [stX, hs, hg]
      have e3 : stB A = false := by simp [stB, hs, hg]
      rw [e1, e2, e3]
      simp at o2
      try simp [-map_take, -map_drop, -map_tail, rgs, o2, z1, z2, afrC, k7, k8, k9]
      repeat' first | done | ((first | (with_reducible refine go_draw (i := 5) [(0, [], []), (1, [], []), (2, [], []), (3, [.tmp 6], []), (4, [], []), (5, [], [])] (by kernel_rfl) ?_)) <;> simp [-map_take, -map_drop, -map_tail, rgs, o2, z1, z2, afrC, k7, k8, k9]) | ((first | (with_reducible refine condS_split ?_ ?_)) <;> intro qb <;> (have qp := qb; try simp only [psq] at qp) <;> simp [-map_take, -map_drop, -map_tail, rgs, o2, z1, z2, afrC, k7, k8, k9, qb])
      refine .done (finF3 (i := nx + 11) (j := nx + 12) (l := nx + 13) (fun j hj => ?_) (by omega) (by omega) (by omega) (by omega) (by omega) (by omega) ?_ ?_ ?_ (by simp))
      · repeat rw [upd_ne _ _ _ _ (by omega)]
        exact KK j hj
      · repeat rw [upd_ne _ _ _ _ (by omega)]
        exact A2.r1
      · repeat rw [upd_ne _ _ _ _ (by omega)]
        exact A2.r2
      · repeat rw [upd_ne _ _ _ _ (by omega)]
        exact A2.r3
  · have e1 : stA A = default := by simp [stA, hs]
    have e2 : stX A = default := by simp [stX, hs]
    have e3 : stB A = false := by simp [stB, hs]
    rw [e1, e2, e3]
    refine AC.o okC Try.func7 rfl fun h nx hfr hnx hpre => ?_
    try simp [-map_take, -map_drop, -map_tail, rgs, hs, afsV]
    repeat' first | done | ((first | ((with_reducible show doCall _ _ _ 19 _ _); refine call_pc (c_AftersOk (x := A) (F := F)) ?_) | (with_reducible refine go_draw (i := 5) [(0, [], []), (1, [], []), (2, [], []), (3, [.tmp 6], []), (4, [], []), (5, [], [])] (by kernel_rfl) ?_)) <;> simp [-map_take, -map_drop, -map_tail, rgs, hs, afsV]) | ((first | (with_reducible refine condS_split ?_ ?_)) <;> intro qb <;> (have qp := qb; try simp only [psq] at qp) <;> simp [-map_take, -map_drop, -map_tail, rgs, hs, afsV, qb])
    refine .nil (i := 0) (sz := 1) rfl (by decide) ?_
    simp only [List.set_cons_succ, List.set_cons_zero, Nat.add_assoc, Nat.reduceAdd]
    refine .nil (i := 1) (sz := 1) rfl (by decide) ?_
    simp only [List.set_cons_succ, List.set_cons_zero, Nat.add_assoc, Nat.reduceAdd]
    refine .nil (i := 2) (sz := 5) rfl (by decide) ?_
    simp only [List.set_cons_succ, List.set_cons_zero, Nat.add_assoc, Nat.reduceAdd]
    refine .done (finF3 (i := nx + 12) (j := nx + 13) (l := nx + 14) (fun j hj => ?_) (by omega) (by omega) (by omega) (by omega) (by omega) (by omega) (by simp [show (default : Afs).slots.ages = [] from rfl]) (by simp [show (default : Afs).slots.used = [] from rfl]) (by simp [show (default : Afs).list = [] from rfl]) (by simp [show (default : Afs).slots.ages = [] from rfl, show (default : Afs).slots.used = [] from rfl, show (default : Afs).list = [] from rfl]; rfl))
    repeat rw [upd_ne _ _ _ _ (by omega)]
end Go.AE.Try
end

section
/- The law of functions that are started: what the program and the reference make of them is the same, in memory of its own. -/
set_option maxRecDepth 8000
set_option maxHeartbeats 4000000
namespace Go.AE.Try
open Go.Proofs
open List (map_take map_drop map_tail)
theorem s_Started2 {F : Nat → Bool} {A : Afs} : PC ctx.P 5 [.agg (afsV F A)] (.tup [.agg (afsV (fun _ => true) (stA A)), .agg (afrC (stX A)), .bool (stB A)]) := by
  by_cases hs : afsOk A = true
  · have h := s_Started (F := F) hs
    have e1 : stA A = (match goAt A with | some i => goA A i | none => A) := by unfold stA; rw [if_pos hs]; cases goAt A <;> rfl
    have e2 : stX A = (match goAt A with | some i => gt A.list (i : Int) | none => default) := by unfold stX; rw [if_pos hs]; cases goAt A <;> rfl
    have e3 : stB A = (goAt A).isSome := by simp [stB, hs]
    rw [e1, e2, e3]; exact h
  · have e1 : stA A = default := by simp [stA, hs]
    have e2 : stX A = default := by simp [stX, hs]
    have e3 : stB A = false := by simp [stB, hs]
    rw [e1, e2, e3]
    refine PC.nv (r := .tup [.agg [.nil, .nil, .nil], .agg [.int .i64 0, .int .i64 0, .int .i64 0, .int .i64 0, .bool false], .bool false]) ?_ (.tups (.cons (.aggs (.cons (.nil _ _) (.cons (.nil _ _) (.cons (.nil _ _) .nil)))) (.cons (.same _) (.cons (.same _) .nil))))
    refine PC.o okC Try.func5 rfl (.tup _ (by simp only [List.mem_cons, List.not_mem_nil, or_false]; rintro c (rfl | rfl | rfl); exact .agg _ (fun c hc => by (simp at hc); subst hc; exact .nil); exact .agg _ (afrC_fz default); exact .bool _)) fun h nx hnx => ?_
    try simp [-map_take, -map_drop, -map_tail, rgs, hs, afsV]
    repeat' first | done | ((first | ((with_reducible show lenS _ _ _ _ _ _); refine lenS_slice rfl fun _ => ?_) | ((with_reducible show iaddrS _ _ _ _ _ _ _); refine iaddr_map rfl omA omA ?_) | ((with_reducible show doCall _ _ _ 14 _ _); refine call_pc (s_AftersOk (x := A) (F := F)) ?_) | (with_reducible refine go_draw (i := 7) [(0, [], []), (1, [], []), (3, [], []), (4, [], []), (5, [], []), (6, [], []), (7, [], []), (2, [.tmp 37, .tmp 40], []), (8, [.tmp 37, .tmp 40], []), (9, [], []), (10, [], [])] (by kernel_rfl) ?_)) <;> simp [-map_take, -map_drop, -map_tail, rgs, hs, afsV]) | ((first | (with_reducible refine guardS_split ?_ ?_) | (with_reducible refine condS_split ?_ ?_)) <;> intro qb <;> (have qp := qb; try simp only [psq] at qp) <;> simp [-map_take, -map_drop, -map_tail, rgs, hs, afsV, qb])
theorem law_Started {A : Afs} : PC ctx.P 3 [.agg (afsV (fun _ => true) A)] (.bool true) := by
  by_cases hs : afssz A ≤ 1048576
  · have e : szR (afssz A) 1048576 = 1048576 - afssz A := by rcases szR_or (afssz A) 1048576 with q | q <;> omega
    have hs2 := stA_sz hs
    have hs3 := hs
    have hs4 := hs2
    simp only [afssz, sltsz] at hs3 hs4
    have hcS := s_Started2 (F := fun _ => true) (A := A)
    have hcB : ∀ F : Nat → Bool, FC ctx.P 7 [.agg (afsV F A)] (.tup [.agg [.ref 0 1 0 (stA A).slots.ages.length, .ref 1 1 0 (stA A).slots.used.length, .ref 2 5 0 (stA A).list.length], .agg (afrC (stX A)), .bool (stB A)]) [.row 1 ((stA A).slots.ages.map iv), .row 1 ((stA A).slots.used.map bv), .row 5 ((stA A).list.map afrC)] := fun F => f_Started (by omega) (by omega) (by omega)
    generalize stA A = W at *
    generalize stX A = x at *
    generalize stB A = b at *
    have hto := f_toAfters (F := fun _ => true) (s := A) (by simp only [MLIM]; omega) (by simp only [MLIM]; omega) (by simp only [MLIM]; omega)
    refine PC.o okC Try.func3 rfl (.bool _) fun h nx hnx => ?_
    try simp [-map_take, -map_drop, -map_tail, rgs, e, afsV, free_of hnx]
    repeat' first | done | ((first | ((with_reducible show doCall _ _ _ 4 _ _); refine call_pc (c_szAfters (s := A) (F := fun _ => true) (by omega) (by omega)) ?_) | (with_reducible refine go_draw (i := 10) [(0, [], []), (1, [], []), (2, [.tmp 7], []), (3, [], []), (4, [], [])] (by kernel_rfl) ?_)) <;> simp [-map_take, -map_drop, -map_tail, rgs, e, afsV, free_of hnx]) | ((first | (with_reducible refine guardS_split ?_ ?_) | (with_reducible refine condS_split ?_ ?_)) <;> intro qb <;> (have qp := qb; try simp only [psq] at qp) <;> simp [-map_take, -map_drop, -map_tail, rgs, e, afsV, free_of hnx, qb])
    all_goals first | omega | skip
    refine call_pc (c_toAfters (s := A) (F := fun _ => true) hs) ?_
    try simp [-map_take, -map_drop, -map_tail, rgs, afsV, afrC, free_of hnx]
    repeat' first | done | ((first | (refine call_pc (hcS) ?_) | (with_reducible refine go_draw (i := 10) [(0, [], []), (1, [], []), (2, [.tmp 7], []), (3, [], []), (4, [], [])] (by kernel_rfl) ?_)) <;> simp [-map_take, -map_drop, -map_tail, rgs, afsV, afrC, free_of hnx]) | ((first | (with_reducible refine guardS_split ?_ ?_) | (with_reducible refine condS_split ?_ ?_)) <;> intro qb <;> (have qp := qb; try simp only [psq] at qp) <;> simp [-map_take, -map_drop, -map_tail, rgs, afsV, afrC, free_of hnx, qb])
    refine call_fc hto ?_
    try simp [-map_take, -map_drop, -map_tail, rgs, afsV, afrC, free_of hnx]
    repeat' first | done | ((first | (with_reducible refine go_draw (i := 10) [(0, [], []), (1, [], []), (2, [.tmp 7], []), (3, [], []), (4, [], [])] (by kernel_rfl) ?_)) <;> simp [-map_take, -map_drop, -map_tail, rgs, afsV, afrC, free_of hnx]) | ((first | (with_reducible refine guardS_split ?_ ?_) | (with_reducible refine condS_split ?_ ?_)) <;> intro qb <;> (have qp := qb; try simp only [psq] at qp) <;> simp [-map_take, -map_drop, -map_tail, rgs, afsV, afrC, free_of hnx, qb])
    refine call_fcB (hcB FF) (fun f => by simpa [afrC] using afs_rescl (f 0) (f 1) (f 2) _ _ _ x b) (afs_entcl W) (.cons (.agg1 (.cons (.ref0 (by simp) (by simp) (by simp)) (.cons (.ref0 (by simp) (by simp) (by simp)) (.cons (.ref0 (by simp) (by simp) (by simp)) .nil)))) .nil) ?_
    try simp [-map_take, -map_drop, -map_tail, rgs, afsV, afrC, free_of hnx]
    repeat' first | done | ((first | (with_reducible refine go_draw (i := 10) [(0, [], []), (1, [], []), (2, [.tmp 7], []), (3, [], []), (4, [], [])] (by kernel_rfl) ?_)) <;> simp [-map_take, -map_drop, -map_tail, rgs, afsV, afrC, free_of hnx]) | ((first | (with_reducible refine guardS_split ?_ ?_) | (with_reducible refine condS_split ?_ ?_)) <;> intro qb <;> (have qp := qb; try simp only [psq] at qp) <;> simp [-map_take, -map_drop, -map_tail, rgs, afsV, afrC, free_of hnx, qb])
    refine call_pcB (c_eqAfters (x := W) (y := W) (F1 := FF) (F2 := fun _ => true)) (.bool _) ?hb1 ?_
    case hb1 => exact .cons (.agg1 (.cons (.ref0 (by simp) (by simp) (by simp)) (.cons (.ref0 (by simp) (by simp) (by simp)) (.cons (.ref0 (by simp) (by simp) (by simp)) .nil)))) (.cons (.same _) .nil)
    try simp [-map_take, -map_drop, -map_tail, rgs, afsV, afrC, free_of hnx]
    repeat' first | done | ((first | ((with_reducible show doCall _ _ _ 9 _ _); refine call_pc (c_eqAfter (x := x) (y := x)) ?_) | (with_reducible refine go_draw (i := 10) [(0, [], []), (1, [], []), (2, [.tmp 7], []), (3, [], []), (4, [], [])] (by kernel_rfl) ?_)) <;> simp [-map_take, -map_drop, -map_tail, rgs, afsV, afrC, free_of hnx]) | ((first | (with_reducible refine guardS_split ?_ ?_) | (with_reducible refine condS_split ?_ ?_)) <;> intro qb <;> (have qp := qb; try simp only [psq] at qp) <;> simp [-map_take, -map_drop, -map_tail, rgs, afsV, afrC, free_of hnx, qb])
    refine call_pc (c_toAfters (s := A) (F := fun _ => true) hs) ?_
    try simp [-map_take, -map_drop, -map_tail, rgs, afsV, afrC, free_of hnx]
    repeat' first | done | ((first | (with_reducible refine go_draw (i := 10) [(0, [], []), (1, [], []), (2, [.tmp 7], []), (3, [], []), (4, [], [])] (by kernel_rfl) ?_)) <;> simp [-map_take, -map_drop, -map_tail, rgs, afsV, afrC, free_of hnx]) | ((first | (with_reducible refine guardS_split ?_ ?_) | (with_reducible refine condS_split ?_ ?_)) <;> intro qb <;> (have qp := qb; try simp only [psq] at qp) <;> simp [-map_take, -map_drop, -map_tail, rgs, afsV, afrC, free_of hnx, qb])
    refine call_pcB (c_eqAfters (x := A) (y := A) (F1 := FF) (F2 := fun _ => true)) (.bool _) ?hb2 ?_
    case hb2 => exact .cons (.agg1 (.cons (.ref0 (by simp) (by simp) (by simp)) (.cons (.ref0 (by simp) (by simp) (by simp)) (.cons (.ref0 (by simp) (by simp) (by simp)) .nil)))) (.cons (.same _) .nil)
    try simp [-map_take, -map_drop, -map_tail, rgs, afsV, afrC, free_of hnx]
    repeat' first | done | ((first | (with_reducible refine go_draw (i := 10) [(0, [], []), (1, [], []), (2, [.tmp 7], []), (3, [], []), (4, [], [])] (by kernel_rfl) ?_)) <;> simp [-map_take, -map_drop, -map_tail, rgs, afsV, afrC, free_of hnx]) | ((first | (with_reducible refine guardS_split ?_ ?_) | (with_reducible refine condS_split ?_ ?_)) <;> intro qb <;> (have qp := qb; try simp only [psq] at qp) <;> simp [-map_take, -map_drop, -map_tail, rgs, afsV, afrC, free_of hnx, qb])
    refine call_ac (m_markAfters (ia := nx + 25) (ib := nx + 26) (ic := nx + 27) (ages := A.slots.ages) (used := A.slots.used) (lst := A.list) (k := 1) (by omega) (by omega) (by omega) (by simp only [LIM]; omega) (by simp only [LIM]; omega) (by simp only [LIM]; omega) (by omega) (by omega)) ⟨by simp, by simp, by simp⟩ ?_
    rintro r H4 n4 ⟨hr4, -, -, -, f4⟩ hle4 hfr4
    obtain ⟨kk, hkk⟩ : ∃ kk : Int, kk = 1 + (A.slots.ages.length : Int) + (A.slots.used.length : Int) + (5 : Nat) * (A.list.length : Int) := ⟨_, rfl⟩
    rw [← hkk] at hr4
    subst hr4
    dsimp only at f4 hle4
    have g0 := f4 nx (by omega) (by omega) (by omega) (by omega)
    have g1 := f4 (nx + 39) (by omega) (by omega) (by omega) (by omega)
    have g2 := f4 (nx + 40) (by omega) (by omega) (by omega) (by omega)
    have g3 := f4 (nx + 41) (by omega) (by omega) (by omega) (by omega)
    have g4 := f4 (nx + 34) (by omega) (by omega) (by omega) (by omega)
    have g5 := f4 (nx + 35) (by omega) (by omega) (by omega) (by omega)
    have g6 := f4 (nx + 16) (by omega) (by omega) (by omega) (by omega)
    have g7 := f4 (nx + 17) (by omega) (by omega) (by omega) (by omega)
    have K4 : ∀ j, j < nx → H4 j = h j := fun j hj => by
      rw [f4 j (by omega) (by omega) (by omega) (by omega)]
      simp [show ∀ k, (j = nx + k) = False from fun k => by simp only [eq_iff_iff, iff_false]; omega, show (j = nx) = False by simp only [eq_iff_iff, iff_false]; omega]
    simp at g0 g1 g2 g3 g4 g5 g6 g7
    clear f4
    have z4 : (kk < 0) = False := by simp only [eq_iff_iff, iff_false]; omega
    try simp [-map_take, -map_drop, -map_tail, rgs, z4, g4, g6, afsV, afrC]
    repeat' first | done | ((first | (with_reducible refine go_draw (i := 10) [(0, [], []), (1, [], []), (2, [.tmp 7], []), (3, [], []), (4, [], [])] (by kernel_rfl) ?_)) <;> simp [-map_take, -map_drop, -map_tail, rgs, z4, g4, g6, afsV, afrC]) | ((first | (with_reducible refine guardS_split ?_ ?_) | (with_reducible refine condS_split ?_ ?_)) <;> intro qb <;> (have qp := qb; try simp only [psq] at qp) <;> simp [-map_take, -map_drop, -map_tail, rgs, z4, g4, g6, afsV, afrC, qb])
    refine call_pcB (c_eqAfters (x := W) (y := W) (F1 := FF) (F2 := fun _ => true)) (.bool _) ?hb3 ?_
    case hb3 => exact .cons (.agg1 (.cons (.ref0 (by simpa using g1) (by simp) (by simp)) (.cons (.ref0 (by simpa using g2) (by simp) (by simp)) (.cons (.ref0 (by simpa using g3) (by simp) (by simp)) .nil)))) (.cons (.same _) .nil)
    try simp [-map_take, -map_drop, -map_tail, rgs, z4, g4, g5, g6, g7, afsV, afrC]
    repeat' first | done | ((first | ((with_reducible show doCall _ _ _ 9 _ _); refine call_pc (c_eqAfter (x := x) (y := x)) ?_) | (with_reducible refine go_draw (i := 10) [(0, [], []), (1, [], []), (2, [.tmp 7], []), (3, [], []), (4, [], [])] (by kernel_rfl) ?_)) <;> simp [-map_take, -map_drop, -map_tail, rgs, z4, g4, g5, g6, g7, afsV, afrC]) | ((first | (with_reducible refine guardS_split ?_ ?_) | (with_reducible refine condS_split ?_ ?_)) <;> intro qb <;> (have qp := qb; try simp only [psq] at qp) <;> simp [-map_take, -map_drop, -map_tail, rgs, z4, g4, g5, g6, g7, afsV, afrC, qb])
    refine call_ac (m_markAfters (ia := nx + 39) (ib := nx + 40) (ic := nx + 41) (ages := W.slots.ages) (used := W.slots.used) (lst := W.list) (k := 1) (by omega) (by omega) (by omega) (by simp only [LIM]; omega) (by simp only [LIM]; omega) (by simp only [LIM]; omega) (by omega) (by omega)) ⟨by simpa using g1, by simpa using g2, by simpa using g3⟩ ?_
    rintro r H5 n5 ⟨hr5, w1, w2, w3, f5⟩ hle5 hfr5
    obtain ⟨kw, hkw⟩ : ∃ kw : Int, kw = 1 + (W.slots.ages.length : Int) + (W.slots.used.length : Int) + (5 : Nat) * (W.list.length : Int) := ⟨_, rfl⟩
    rw [← hkw] at hr5
    subst hr5
    dsimp only at w1 w2 w3 f5 hle5
    have l0 := (f5 nx (by omega) (by omega) (by omega) (by omega)).trans g0
    have l4 := (f5 (nx + 34) (by omega) (by omega) (by omega) (by omega)).trans g4
    have l6 := (f5 (nx + 16) (by omega) (by omega) (by omega) (by omega)).trans g6
    have l7 := (f5 (nx + 17) (by omega) (by omega) (by omega) (by omega)).trans g7
    have K5 : ∀ j, j < nx → H5 j = h j := fun j hj => (f5 j (by omega) (by omega) (by omega) (by omega)).trans (K4 j hj)
    clear f5 g0 g1 g2 g3 g4 g5 g6 g7 K4
    have z5 : (kw < 0) = False := by simp only [eq_iff_iff, iff_false]; omega
    have hheld := h_heldAfters (F := FF) (n1 := W.slots.ages.length) (n2 := W.slots.used.length) (n3 := W.list.length) (k := 1) (by omega) (by omega) (by omega) (by omega) (by omega)
    rw [← hkw] at hheld
    try simp [-map_take, -map_drop, -map_tail, rgs, l4]
    repeat' first | done | ((first | (with_reducible refine go_draw (i := 10) [(0, [], []), (1, [], []), (2, [.tmp 7], []), (3, [], []), (4, [], [])] (by kernel_rfl) ?_)) <;> simp [-map_take, -map_drop, -map_tail, rgs, l4]) | ((first | (with_reducible refine guardS_split ?_ ?_) | (with_reducible refine condS_split ?_ ?_)) <;> intro qb <;> (have qp := qb; try simp only [psq] at qp) <;> simp [-map_take, -map_drop, -map_tail, rgs, l4, qb])
    refine call_pcB hheld (.int _ _) ?hb4 ?_
    case hb4 => exact .cons (.agg1 (.cons (.ref0 (by simpa using w1) (by simp) (by simp)) (.cons (.ref0 (by simpa using w2) (by simp) (by simp)) (.cons (.ref0 (by simpa using w3) (by simp) (by simp)) .nil)))) (.cons (.same _) .nil)
    try simp [-map_take, -map_drop, -map_tail, rgs, z5, l0, l4, l6, l7, afsV, afrC]
    repeat' first | done | ((first | (with_reducible refine go_draw (i := 10) [(0, [], []), (1, [], []), (2, [.tmp 7], []), (3, [], []), (4, [], [])] (by kernel_rfl) ?_)) <;> simp [-map_take, -map_drop, -map_tail, rgs, z5, l0, l4, l6, l7, afsV, afrC]) | ((first | (with_reducible refine guardS_split ?_ ?_) | (with_reducible refine condS_split ?_ ?_)) <;> intro qb <;> (have qp := qb; try simp only [psq] at qp) <;> simp [-map_take, -map_drop, -map_tail, rgs, z5, l0, l4, l6, l7, afsV, afrC, qb])
    refine call_pc (c_toAfters (s := A) (F := fun _ => true) hs) ?_
    try simp [-map_take, -map_drop, -map_tail, rgs, afsV, afrC]
    repeat' first | done | ((first | (with_reducible refine go_draw (i := 10) [(0, [], []), (1, [], []), (2, [.tmp 7], []), (3, [], []), (4, [], [])] (by kernel_rfl) ?_)) <;> simp [-map_take, -map_drop, -map_tail, rgs, afsV, afrC]) | ((first | (with_reducible refine guardS_split ?_ ?_) | (with_reducible refine condS_split ?_ ?_)) <;> intro qb <;> (have qp := qb; try simp only [psq] at qp) <;> simp [-map_take, -map_drop, -map_tail, rgs, afsV, afrC, qb])
    refine call_fc (hcB (fun _ => true)) ?_
    have j0 : ∀ k, (nx = n5 + k) = False := fun k => by simp only [eq_iff_iff, iff_false]; omega
    have j1 : ∀ m k, m < 45 → (nx + m = n5 + k) = False := fun m k hm => by simp only [eq_iff_iff, iff_false]; omega
    have j2 : (nx = n5) = False := by simp only [eq_iff_iff, iff_false]; omega
    have j3 : ∀ m, m < 45 → (nx + m = n5) = False := fun m hm => by simp only [eq_iff_iff, iff_false]; omega
    have ja := j3 10 (by omega)
    have jb := j3 11 (by omega)
    have jc := j3 12 (by omega)
    have jd := j3 16 (by omega)
    have je := j3 17 (by omega)
    have j16 := fun k => j1 16 k (by omega)
    have j17 := fun k => j1 17 k (by omega)
    have j34 := fun k => j1 34 k (by omega)
    have j39 := fun k => j1 39 k (by omega)
    have j40 := fun k => j1 40 k (by omega)
    have j41 := fun k => j1 41 k (by omega)
    try simp [-map_take, -map_drop, -map_tail, rgs, z5, l0, l4, l6, l7, j0, j2, ja, jb, jc, jd, je, j16, j17, j34, afsV, afrC, hfr5.at]
    repeat' first | done | ((first | (with_reducible refine go_draw (i := 10) [(0, [], []), (1, [], []), (2, [.tmp 7], []), (3, [], []), (4, [], [])] (by kernel_rfl) ?_)) <;> simp [-map_take, -map_drop, -map_tail, rgs, z5, l0, l4, l6, l7, j0, j2, ja, jb, jc, jd, je, j16, j17, j34, afsV, afrC, hfr5.at]) | ((first | (with_reducible refine guardS_split ?_ ?_) | (with_reducible refine condS_split ?_ ?_)) <;> intro qb <;> (have qp := qb; try simp only [psq] at qp) <;> simp [-map_take, -map_drop, -map_tail, rgs, z5, l0, l4, l6, l7, j0, j2, ja, jb, jc, jd, je, j16, j17, j34, afsV, afrC, hfr5.at, qb])
    refine call_pcB (c_eqAfters (x := W) (y := W) (F1 := FF) (F2 := fun _ => true)) (.bool _) ?hb5 ?_
    case hb5 => exact .cons (.agg1 (.cons (.ref0 (by simp) (by simp) (by simp)) (.cons (.ref0 (by simp) (by simp) (by simp)) (.cons (.ref0 (by simp) (by simp) (by simp)) .nil)))) (.cons (.same _) .nil)
    try simp [-map_take, -map_drop, -map_tail, rgs, z5, l0, l4, l6, l7, j0, j2, ja, jb, jc, jd, je, j16, j17, j34, afsV, afrC, hfr5.at]
    repeat' first | done | ((first | ((with_reducible show doCall _ _ _ 9 _ _); refine call_pc (c_eqAfter (x := x) (y := x)) ?_) | (with_reducible refine go_draw (i := 10) [(0, [], []), (1, [], []), (2, [.tmp 7], []), (3, [], []), (4, [], [])] (by kernel_rfl) ?_)) <;> simp [-map_take, -map_drop, -map_tail, rgs, z5, l0, l4, l6, l7, j0, j2, ja, jb, jc, jd, je, j16, j17, j34, afsV, afrC, hfr5.at]) | ((first | (with_reducible refine guardS_split ?_ ?_) | (with_reducible refine condS_split ?_ ?_)) <;> intro qb <;> (have qp := qb; try simp only [psq] at qp) <;> simp [-map_take, -map_drop, -map_tail, rgs, z5, l0, l4, l6, l7, j0, j2, ja, jb, jc, jd, je, j16, j17, j34, afsV, afrC, hfr5.at, qb])
    refine call_pcB hheld (.int _ _) ?hb6 ?_
    case hb6 => exact .cons (.agg1 (.cons (.ref0 (by simpa [j39] using w1) (by simp) (by simp)) (.cons (.ref0 (by simpa [j40] using w2) (by simp) (by simp)) (.cons (.ref0 (by simpa [j41] using w3) (by simp) (by simp)) .nil)))) (.cons (.same _) .nil)
    try simp [-map_take, -map_drop, -map_tail, rgs, z5]
    repeat' first | done | ((first | (with_reducible refine go_draw (i := 10) [(0, [], []), (1, [], []), (2, [.tmp 7], []), (3, [], []), (4, [], [])] (by kernel_rfl) ?_)) <;> simp [-map_take, -map_drop, -map_tail, rgs, z5]) | ((first | (with_reducible refine guardS_split ?_ ?_) | (with_reducible refine condS_split ?_ ?_)) <;> intro qb <;> (have qp := qb; try simp only [psq] at qp) <;> simp [-map_take, -map_drop, -map_tail, rgs, z5, qb])
    intro j hj
    repeat rw [upd_ne _ _ _ _ (by omega)]
    exact K5 j hj
  · have e : szR (afssz A) 1048576 = -1 := by rcases szR_or (afssz A) 1048576 with q | q <;> omega
    refine PC.o okC Try.func3 rfl (.bool _) fun h nx hnx => ?_
    try simp [-map_take, -map_drop, -map_tail, rgs, e, afsV]
    repeat' first | done | ((first | ((with_reducible show doCall _ _ _ 4 _ _); refine call_pc (c_szAfters (s := A) (F := fun _ => true) (by omega) (by omega)) ?_) | (with_reducible refine go_draw (i := 10) [(0, [], []), (1, [], []), (2, [.tmp 7], []), (3, [], []), (4, [], [])] (by kernel_rfl) ?_)) <;> simp [-map_take, -map_drop, -map_tail, rgs, e, afsV]) | ((first | (with_reducible refine guardS_split ?_ ?_) | (with_reducible refine condS_split ?_ ?_)) <;> intro qb <;> (have qp := qb; try simp only [psq] at qp) <;> simp [-map_take, -map_drop, -map_tail, rgs, e, afsV, qb])
end Go.AE.Try
end
