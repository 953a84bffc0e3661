/- Contracts of the seat's functions: what each answers, for all arguments. -/
import Derived.Test.YtfffnioddgeohaaA4
import Derived.Test.YtfffnioddgeohaaA2
import Derived.Test.YtfffnioddgeohaaA1
import Derived.Test.YtfffnioddgeohaaProg
import Derived.KernelRfl
import Derived.Test.YtfffnioddgeohaaA3
set_option linter.unusedVariables false
set_option linter.unusedSimpArgs false
set_option linter.deprecated false
section
/- The seat's types, for the abstract machine. -/
namespace Go.AE.Try
open Go.Proofs
def tyL : List (TypeId × TyD) := [
  (1, { size := 1, bytes := 8, agg := false, zero := [.dead] }),
  (2, { size := 1, bytes := 8, agg := false, zero := [.int .i64 0], ik := some .i64 }),
  (3, { size := 1, bytes := 8, agg := false, zero := [.int .i64 0], ik := some .i64 }),
  (4, { size := 1, bytes := 1, agg := false, zero := [.bool false] }),
  (5, { size := 1, bytes := 1, agg := false, zero := [.int .u8 0], ik := some .u8 }),
  (7, { size := 4, bytes := 24, agg := true, zero := [.int .i64 0, .int .i64 0, .bool false, .int .u8 0], fields := [(0, 1, 2), (1, 1, 3), (2, 1, 4), (3, 1, 6)] }),
  (9, { size := 1, bytes := 16, agg := false, zero := [.str ⟨#[]⟩], isStr := true }),
  (12, { size := 1, bytes := 8, agg := false, zero := [.int .u64 0], ik := some .u64 }),
  (13, { size := 2, bytes := 24, agg := true, zero := [.str ⟨#[]⟩, .int .u64 0], fields := [(0, 1, 9), (1, 1, 12)] }),
  (15, { size := 1, bytes := 8, agg := false, zero := [.dead] }),
  (16, { size := 1, bytes := 8, agg := false, zero := [.dead] }),
  (17, { size := 1, bytes := 8, agg := false, zero := [.dead] }),
  (18, { size := 1, bytes := 8, agg := true, zero := [.dead], fields := [(0, 1, 17)] }),
  (21, { size := 1, bytes := 4, agg := false, zero := [.int .i32 0], ik := some .i32 }),
  (22, { size := 1, bytes := 24, agg := false, zero := [.nil], elem := some 5 }),
  (23, { size := 1, bytes := 8, agg := false, zero := [.dead] }),
  (24, { size := 1, bytes := 8, agg := false, zero := [.dead] }),
  (25, { size := 1, bytes := 8, agg := false, zero := [.dead] }),
  (26, { size := 1, bytes := 8, agg := false, zero := [.int .u64 0], ik := some .u64 }),
  (27, { size := 1, bytes := 8, agg := false, zero := [.dead] }),
  (28, { size := 1, bytes := 24, agg := false, zero := [.nil], elem := some 2 }),
  (29, { size := 1, bytes := 24, agg := false, zero := [.nil], elem := some 4 }),
  (30, { size := 2, bytes := 48, agg := true, zero := [.nil, .nil], fields := [(0, 1, 28), (1, 1, 29)] }),
  (31, { size := 2, bytes := 48, agg := true, zero := [.nil, .nil], fields := [(0, 1, 28), (1, 1, 29)] }),
  (32, { size := 1, bytes := 24, agg := false, zero := [.nil], elem := some 42 }),
  (33, { size := 3, bytes := 72, agg := true, zero := [.nil, .nil, .nil], fields := [(0, 2, 31), (2, 1, 32)] }),
  (34, { size := 3, bytes := 72, agg := true, zero := [.nil, .nil, .nil], fields := [(0, 2, 31), (2, 1, 32)] }),
  (36, { size := 1, bytes := 8, agg := false, zero := [.dead] }),
  (37, { size := 1, bytes := 24, agg := false, zero := [.nil], elem := some 40 }),
  (38, { size := 1, bytes := 8, agg := false, zero := [.dead] }),
  (39, { size := 2, bytes := 16, agg := true, zero := [.int .i64 0, .int .i64 0], fields := [(0, 1, 2), (1, 1, 2)] }),
  (40, { size := 2, bytes := 16, agg := true, zero := [.int .i64 0, .int .i64 0], fields := [(0, 1, 2), (1, 1, 2)] }),
  (41, { size := 5, bytes := 40, agg := true, zero := [.int .i64 0, .int .i64 0, .int .i64 0, .int .i64 0, .bool false], fields := [(0, 2, 40), (2, 1, 2), (3, 1, 2), (4, 1, 4)] }),
  (42, { size := 5, bytes := 40, agg := true, zero := [.int .i64 0, .int .i64 0, .int .i64 0, .int .i64 0, .bool false], fields := [(0, 2, 40), (2, 1, 2), (3, 1, 2), (4, 1, 4)] }),
  (44, { size := 1, bytes := 8, agg := false, zero := [.dead] }),
  (45, { size := 1, bytes := 8, agg := false, zero := [.dead] }),
  (47, { size := 1, bytes := 8, agg := false, zero := [.dead] }),
  (48, { size := 1, bytes := 8, agg := false, zero := [.dead] }),
  (49, { size := 1, bytes := 8, agg := false, zero := [.dead] }),
  (50, { size := 3, bytes := 40, agg := true, zero := [.nil, .int .i64 0, .int .u64 0], fields := [(0, 1, 22), (1, 1, 3), (2, 1, 26)] }),
  (51, { size := 3, bytes := 40, agg := true, zero := [.nil, .int .i64 0, .int .u64 0], fields := [(0, 1, 22), (1, 1, 3), (2, 1, 26)] }),
  (52, { size := 1, bytes := 8, agg := false, zero := [.int .u64 0], ik := some .u64 }),
  (54, { size := 1, bytes := 8, agg := false, zero := [.dead] }),
  (55, { size := 1, bytes := 8, agg := false, zero := [.dead] }),
  (56, { size := 1, bytes := 8, agg := false, zero := [.dead] }),
  (58, { size := 1, bytes := 8, agg := false, zero := [.dead] }),
  (59, { size := 1, bytes := 8, agg := false, zero := [.dead] }),
  (61, { size := 1, bytes := 8, agg := false, zero := [.dead] }),
  (62, { size := 1, bytes := 8, agg := false, zero := [.dead] }),
  (63, { size := 1, bytes := 8, agg := false, zero := [.dead] }),
  (64, { size := 1, bytes := 8, agg := false, zero := [.dead] }),
  (65, { size := 1, bytes := 8, agg := false, zero := [.dead] }),
  (66, { size := 1, bytes := 8, agg := false, zero := [.dead] }),
  (67, { size := 1, bytes := 8, agg := false, zero := [.dead] }),
  (68, { size := 1, bytes := 8, agg := false, zero := [.dead] }),
  (69, { size := 1, bytes := 8, agg := false, zero := [.dead] }),
  (70, { size := 1, bytes := 8, agg := false, zero := [.dead] }),
  (71, { size := 1, bytes := 8, agg := false, zero := [.dead] }),
  (72, { size := 1, bytes := 8, agg := false, zero := [.dead] }),
  (73, { size := 1, bytes := 8, agg := false, zero := [.dead] }),
  (74, { size := 1, bytes := 8, agg := false, zero := [.dead] }),
  (75, { size := 1, bytes := 8, agg := false, zero := [.dead] }),
  (76, { size := 1, bytes := 8, agg := false, zero := [.dead] }),
  (77, { size := 1, bytes := 8, agg := false, zero := [.dead] }),
  (78, { size := 1, bytes := 8, agg := false, zero := [.dead] }),
  (79, { size := 1, bytes := 8, agg := false, zero := [.dead] }),
  (80, { size := 1, bytes := 8, agg := false, zero := [.dead] }),
  (81, { size := 1, bytes := 8, agg := false, zero := [.dead] }),
  (82, { size := 1, bytes := 8, agg := false, zero := [.dead] }),
  (83, { size := 1, bytes := 8, agg := false, zero := [.dead] }),
  (84, { size := 4, bytes := 40, agg := true, zero := [.dead, .dead, .dead, .str ⟨#[]⟩], fields := [(0, 1, 17), (1, 1, 17), (2, 1, 17), (3, 1, 9)] }),
  (87, { size := 0, bytes := 0, agg := true, zero := [], fields := [(0, 0, 86)] }),
  (89, { size := 1, bytes := 8, agg := false, zero := [.dead] }),
  (90, { size := 1, bytes := 4, agg := false, zero := [.int .u32 0], ik := some .u32 }),
  (93, { size := 1, bytes := 8, agg := false, zero := [.dead] }),
  (94, { size := 1, bytes := 8, agg := false, zero := [.dead] }),
  (97, { size := 11, bytes := 48, agg := true, zero := [.int .u64 0, .int .u64 0, .int .u32 0, .int .u8 0, .int .u8 0, .int .u8 0, .int .u8 0, .dead, .dead, .int .i32 0, .int .i32 0], fields := [(0, 1, 12), (1, 1, 12), (2, 1, 90), (3, 1, 91), (4, 1, 5), (5, 1, 5), (6, 1, 92), (7, 1, 93), (8, 1, 94), (9, 1, 95), (10, 1, 96)] }),
  (99, { size := 1, bytes := 8, agg := false, zero := [.dead] })]
def tyT (t : TypeId) : Option TyD := (tyL.find? fun p => p.1 == t).map (·.2)
def lvs : TypeId → Option (List Lf)
  | 40 => some [.i .i64, .i .i64]
  | _ => none
def eqL (ls : Option (List Lf)) (xs ys : List AV) : Option Bool := match ls with | some ls => if xs.map lfOf = ls.map some ∧ ys.map lfOf = ls.map some then some (cellsEq xs ys) else none | none => none
def eqT : TypeId → AV → AV → Option Bool
  | 4, .bool a, .bool b => some (a == b)
  | t, .agg xs, .agg ys => eqL (lvs t) xs ys
  | _, _, _ => none
noncomputable def ctx0 : Ctx := { P := Go.Proofs.Try.prog, ty := tyT, eqA := fun _ _ _ => none }
noncomputable def ctx : Ctx := { P := Go.Proofs.Try.prog, ty := tyT, eqA := eqT }
theorem tys : ∀ t d, tyT t = some d → tyOk Go.Proofs.Try.prog t d = true := by
  have hall : (tyL.all fun p => tyOk Go.Proofs.Try.prog p.1 p.2) = true := by kernel_rfl
  intro t d h
  unfold tyT at h
  rw [Option.map_eq_some_iff] at h
  obtain ⟨p, h1, rfl⟩ := h
  have h2 := List.find?_some h1
  simp only [beq_iff_eq] at h2
  subst h2
  exact List.all_eq_true.1 hall p (List.mem_of_find?_eq_some h1)
theorem ok0 : ctx0.Ok where
  mix := by kernel_rfl
  tys := tys
  eqs := by intro t x y b h; cases h
@[simp] theorem ty1 : ctx.ty 1 = some { size := 1, bytes := 8, agg := false, zero := [.dead] } := by kernel_rfl
@[simp] theorem ty2 : ctx.ty 2 = some { size := 1, bytes := 8, agg := false, zero := [.int .i64 0], ik := some .i64 } := by kernel_rfl
@[simp] theorem ty3 : ctx.ty 3 = some { size := 1, bytes := 8, agg := false, zero := [.int .i64 0], ik := some .i64 } := by kernel_rfl
@[simp] theorem ty4 : ctx.ty 4 = some { size := 1, bytes := 1, agg := false, zero := [.bool false] } := by kernel_rfl
@[simp] theorem ty5 : ctx.ty 5 = some { size := 1, bytes := 1, agg := false, zero := [.int .u8 0], ik := some .u8 } := by kernel_rfl
@[simp] theorem ty7 : ctx.ty 7 = some { size := 4, bytes := 24, agg := true, zero := [.int .i64 0, .int .i64 0, .bool false, .int .u8 0], fields := [(0, 1, 2), (1, 1, 3), (2, 1, 4), (3, 1, 6)] } := by kernel_rfl
@[simp] theorem ty9 : ctx.ty 9 = some { size := 1, bytes := 16, agg := false, zero := [.str ⟨#[]⟩], isStr := true } := by kernel_rfl
@[simp] theorem ty12 : ctx.ty 12 = some { size := 1, bytes := 8, agg := false, zero := [.int .u64 0], ik := some .u64 } := by kernel_rfl
@[simp] theorem ty13 : ctx.ty 13 = some { size := 2, bytes := 24, agg := true, zero := [.str ⟨#[]⟩, .int .u64 0], fields := [(0, 1, 9), (1, 1, 12)] } := by kernel_rfl
@[simp] theorem ty15 : ctx.ty 15 = some { size := 1, bytes := 8, agg := false, zero := [.dead] } := by kernel_rfl
@[simp] theorem ty16 : ctx.ty 16 = some { size := 1, bytes := 8, agg := false, zero := [.dead] } := by kernel_rfl
@[simp] theorem ty17 : ctx.ty 17 = some { size := 1, bytes := 8, agg := false, zero := [.dead] } := by kernel_rfl
@[simp] theorem ty18 : ctx.ty 18 = some { size := 1, bytes := 8, agg := true, zero := [.dead], fields := [(0, 1, 17)] } := by kernel_rfl
@[simp] theorem ty21 : ctx.ty 21 = some { size := 1, bytes := 4, agg := false, zero := [.int .i32 0], ik := some .i32 } := by kernel_rfl
@[simp] theorem ty22 : ctx.ty 22 = some { size := 1, bytes := 24, agg := false, zero := [.nil], elem := some 5 } := by kernel_rfl
@[simp] theorem ty23 : ctx.ty 23 = some { size := 1, bytes := 8, agg := false, zero := [.dead] } := by kernel_rfl
@[simp] theorem ty24 : ctx.ty 24 = some { size := 1, bytes := 8, agg := false, zero := [.dead] } := by kernel_rfl
@[simp] theorem ty25 : ctx.ty 25 = some { size := 1, bytes := 8, agg := false, zero := [.dead] } := by kernel_rfl
@[simp] theorem ty26 : ctx.ty 26 = some { size := 1, bytes := 8, agg := false, zero := [.int .u64 0], ik := some .u64 } := by kernel_rfl
@[simp] theorem ty27 : ctx.ty 27 = some { size := 1, bytes := 8, agg := false, zero := [.dead] } := by kernel_rfl
@[simp] theorem ty28 : ctx.ty 28 = some { size := 1, bytes := 24, agg := false, zero := [.nil], elem := some 2 } := by kernel_rfl
@[simp] theorem ty29 : ctx.ty 29 = some { size := 1, bytes := 24, agg := false, zero := [.nil], elem := some 4 } := by kernel_rfl
@[simp] theorem ty30 : ctx.ty 30 = some { size := 2, bytes := 48, agg := true, zero := [.nil, .nil], fields := [(0, 1, 28), (1, 1, 29)] } := by kernel_rfl
@[simp] theorem ty31 : ctx.ty 31 = some { size := 2, bytes := 48, agg := true, zero := [.nil, .nil], fields := [(0, 1, 28), (1, 1, 29)] } := by kernel_rfl
@[simp] theorem ty32 : ctx.ty 32 = some { size := 1, bytes := 24, agg := false, zero := [.nil], elem := some 42 } := by kernel_rfl
@[simp] theorem ty33 : ctx.ty 33 = some { size := 3, bytes := 72, agg := true, zero := [.nil, .nil, .nil], fields := [(0, 2, 31), (2, 1, 32)] } := by kernel_rfl
@[simp] theorem ty34 : ctx.ty 34 = some { size := 3, bytes := 72, agg := true, zero := [.nil, .nil, .nil], fields := [(0, 2, 31), (2, 1, 32)] } := by kernel_rfl
@[simp] theorem ty36 : ctx.ty 36 = some { size := 1, bytes := 8, agg := false, zero := [.dead] } := by kernel_rfl
@[simp] theorem ty37 : ctx.ty 37 = some { size := 1, bytes := 24, agg := false, zero := [.nil], elem := some 40 } := by kernel_rfl
@[simp] theorem ty38 : ctx.ty 38 = some { size := 1, bytes := 8, agg := false, zero := [.dead] } := by kernel_rfl
@[simp] theorem ty39 : ctx.ty 39 = some { size := 2, bytes := 16, agg := true, zero := [.int .i64 0, .int .i64 0], fields := [(0, 1, 2), (1, 1, 2)] } := by kernel_rfl
@[simp] theorem ty40 : ctx.ty 40 = some { size := 2, bytes := 16, agg := true, zero := [.int .i64 0, .int .i64 0], fields := [(0, 1, 2), (1, 1, 2)] } := by kernel_rfl
@[simp] theorem ty41 : ctx.ty 41 = some { size := 5, bytes := 40, agg := true, zero := [.int .i64 0, .int .i64 0, .int .i64 0, .int .i64 0, .bool false], fields := [(0, 2, 40), (2, 1, 2), (3, 1, 2), (4, 1, 4)] } := by kernel_rfl
@[simp] theorem ty42 : ctx.ty 42 = some { size := 5, bytes := 40, agg := true, zero := [.int .i64 0, .int .i64 0, .int .i64 0, .int .i64 0, .bool false], fields := [(0, 2, 40), (2, 1, 2), (3, 1, 2), (4, 1, 4)] } := by kernel_rfl
@[simp] theorem ty44 : ctx.ty 44 = some { size := 1, bytes := 8, agg := false, zero := [.dead] } := by kernel_rfl
@[simp] theorem ty45 : ctx.ty 45 = some { size := 1, bytes := 8, agg := false, zero := [.dead] } := by kernel_rfl
@[simp] theorem ty47 : ctx.ty 47 = some { size := 1, bytes := 8, agg := false, zero := [.dead] } := by kernel_rfl
@[simp] theorem ty48 : ctx.ty 48 = some { size := 1, bytes := 8, agg := false, zero := [.dead] } := by kernel_rfl
@[simp] theorem ty49 : ctx.ty 49 = some { size := 1, bytes := 8, agg := false, zero := [.dead] } := by kernel_rfl
@[simp] theorem ty50 : ctx.ty 50 = some { size := 3, bytes := 40, agg := true, zero := [.nil, .int .i64 0, .int .u64 0], fields := [(0, 1, 22), (1, 1, 3), (2, 1, 26)] } := by kernel_rfl
@[simp] theorem ty51 : ctx.ty 51 = some { size := 3, bytes := 40, agg := true, zero := [.nil, .int .i64 0, .int .u64 0], fields := [(0, 1, 22), (1, 1, 3), (2, 1, 26)] } := by kernel_rfl
@[simp] theorem ty52 : ctx.ty 52 = some { size := 1, bytes := 8, agg := false, zero := [.int .u64 0], ik := some .u64 } := by kernel_rfl
@[simp] theorem ty54 : ctx.ty 54 = some { size := 1, bytes := 8, agg := false, zero := [.dead] } := by kernel_rfl
@[simp] theorem ty55 : ctx.ty 55 = some { size := 1, bytes := 8, agg := false, zero := [.dead] } := by kernel_rfl
@[simp] theorem ty56 : ctx.ty 56 = some { size := 1, bytes := 8, agg := false, zero := [.dead] } := by kernel_rfl
@[simp] theorem ty58 : ctx.ty 58 = some { size := 1, bytes := 8, agg := false, zero := [.dead] } := by kernel_rfl
@[simp] theorem ty59 : ctx.ty 59 = some { size := 1, bytes := 8, agg := false, zero := [.dead] } := by kernel_rfl
@[simp] theorem ty61 : ctx.ty 61 = some { size := 1, bytes := 8, agg := false, zero := [.dead] } := by kernel_rfl
@[simp] theorem ty62 : ctx.ty 62 = some { size := 1, bytes := 8, agg := false, zero := [.dead] } := by kernel_rfl
@[simp] theorem ty63 : ctx.ty 63 = some { size := 1, bytes := 8, agg := false, zero := [.dead] } := by kernel_rfl
@[simp] theorem ty64 : ctx.ty 64 = some { size := 1, bytes := 8, agg := false, zero := [.dead] } := by kernel_rfl
@[simp] theorem ty65 : ctx.ty 65 = some { size := 1, bytes := 8, agg := false, zero := [.dead] } := by kernel_rfl
@[simp] theorem ty66 : ctx.ty 66 = some { size := 1, bytes := 8, agg := false, zero := [.dead] } := by kernel_rfl
@[simp] theorem ty67 : ctx.ty 67 = some { size := 1, bytes := 8, agg := false, zero := [.dead] } := by kernel_rfl
@[simp] theorem ty68 : ctx.ty 68 = some { size := 1, bytes := 8, agg := false, zero := [.dead] } := by kernel_rfl
@[simp] theorem ty69 : ctx.ty 69 = some { size := 1, bytes := 8, agg := false, zero := [.dead] } := by kernel_rfl
@[simp] theorem ty70 : ctx.ty 70 = some { size := 1, bytes := 8, agg := false, zero := [.dead] } := by kernel_rfl
@[simp] theorem ty71 : ctx.ty 71 = some { size := 1, bytes := 8, agg := false, zero := [.dead] } := by kernel_rfl
@[simp] theorem ty72 : ctx.ty 72 = some { size := 1, bytes := 8, agg := false, zero := [.dead] } := by kernel_rfl
@[simp] theorem ty73 : ctx.ty 73 = some { size := 1, bytes := 8, agg := false, zero := [.dead] } := by kernel_rfl
@[simp] theorem ty74 : ctx.ty 74 = some { size := 1, bytes := 8, agg := false, zero := [.dead] } := by kernel_rfl
@[simp] theorem ty75 : ctx.ty 75 = some { size := 1, bytes := 8, agg := false, zero := [.dead] } := by kernel_rfl
@[simp] theorem ty76 : ctx.ty 76 = some { size := 1, bytes := 8, agg := false, zero := [.dead] } := by kernel_rfl
@[simp] theorem ty77 : ctx.ty 77 = some { size := 1, bytes := 8, agg := false, zero := [.dead] } := by kernel_rfl
@[simp] theorem ty78 : ctx.ty 78 = some { size := 1, bytes := 8, agg := false, zero := [.dead] } := by kernel_rfl
@[simp] theorem ty79 : ctx.ty 79 = some { size := 1, bytes := 8, agg := false, zero := [.dead] } := by kernel_rfl
@[simp] theorem ty80 : ctx.ty 80 = some { size := 1, bytes := 8, agg := false, zero := [.dead] } := by kernel_rfl
@[simp] theorem ty81 : ctx.ty 81 = some { size := 1, bytes := 8, agg := false, zero := [.dead] } := by kernel_rfl
@[simp] theorem ty82 : ctx.ty 82 = some { size := 1, bytes := 8, agg := false, zero := [.dead] } := by kernel_rfl
@[simp] theorem ty83 : ctx.ty 83 = some { size := 1, bytes := 8, agg := false, zero := [.dead] } := by kernel_rfl
@[simp] theorem ty84 : ctx.ty 84 = some { size := 4, bytes := 40, agg := true, zero := [.dead, .dead, .dead, .str ⟨#[]⟩], fields := [(0, 1, 17), (1, 1, 17), (2, 1, 17), (3, 1, 9)] } := by kernel_rfl
@[simp] theorem ty87 : ctx.ty 87 = some { size := 0, bytes := 0, agg := true, zero := [], fields := [(0, 0, 86)] } := by kernel_rfl
@[simp] theorem ty89 : ctx.ty 89 = some { size := 1, bytes := 8, agg := false, zero := [.dead] } := by kernel_rfl
@[simp] theorem ty90 : ctx.ty 90 = some { size := 1, bytes := 4, agg := false, zero := [.int .u32 0], ik := some .u32 } := by kernel_rfl
@[simp] theorem ty93 : ctx.ty 93 = some { size := 1, bytes := 8, agg := false, zero := [.dead] } := by kernel_rfl
@[simp] theorem ty94 : ctx.ty 94 = some { size := 1, bytes := 8, agg := false, zero := [.dead] } := by kernel_rfl
@[simp] theorem ty97 : ctx.ty 97 = some { size := 11, bytes := 48, agg := true, zero := [.int .u64 0, .int .u64 0, .int .u32 0, .int .u8 0, .int .u8 0, .int .u8 0, .int .u8 0, .dead, .dead, .int .i32 0, .int .i32 0], fields := [(0, 1, 12), (1, 1, 12), (2, 1, 90), (3, 1, 91), (4, 1, 5), (5, 1, 5), (6, 1, 92), (7, 1, 93), (8, 1, 94), (9, 1, 95), (10, 1, 96)] } := by kernel_rfl
@[simp] theorem ty99 : ctx.ty 99 = some { size := 1, bytes := 8, agg := false, zero := [.dead] } := by kernel_rfl
@[simp] theorem el22 : elemOf ctx 22 = some { size := 1, bytes := 1, agg := false, zero := [.int .u8 0], ik := some .u8 } := by kernel_rfl
@[simp] theorem el28 : elemOf ctx 28 = some { size := 1, bytes := 8, agg := false, zero := [.int .i64 0], ik := some .i64 } := by kernel_rfl
@[simp] theorem el29 : elemOf ctx 29 = some { size := 1, bytes := 1, agg := false, zero := [.bool false] } := by kernel_rfl
@[simp] theorem el32 : elemOf ctx 32 = some { size := 5, bytes := 40, agg := true, zero := [.int .i64 0, .int .i64 0, .int .i64 0, .int .i64 0, .bool false], fields := [(0, 2, 40), (2, 1, 2), (3, 1, 2), (4, 1, 4)] } := by kernel_rfl
@[simp] theorem el37 : elemOf ctx 37 = some { size := 2, bytes := 16, agg := true, zero := [.int .i64 0, .int .i64 0], fields := [(0, 1, 2), (1, 1, 2)] } := by kernel_rfl
@[simp] theorem eq4 (a b) : ctx.eqA 4 (.bool a) (.bool b) = some (a == b) := rfl
@[simp] theorem eq40 (xs ys) : ctx.eqA 40 (.agg xs) (.agg ys) = eqL (some [.i .i64, .i .i64]) xs ys := rfl
@[simp] theorem eqL_some (ls xs ys) : eqL (some ls) xs ys = if xs.map lfOf = ls.map some ∧ ys.map lfOf = ls.map some then some (cellsEq xs ys) else none := rfl
theorem okC : ctx.Ok where
  mix := by kernel_rfl
  tys := tys
  eqs := by
    intro t x y b h
    change eqT t x y = some b at h
    unfold eqT at h
    split at h
    · cases h; exact eq_bool (by kernel_rfl)
    · rename_i xs ys _
      unfold lvs at h
      split at h
      · rw [eqL_some] at h
        split at h
        · rename_i hk
          cases h; exact eq_struct ok0 (by kernel_rfl) (by kernel_rfl) (by kernel_rfl) hk.1 hk.2
        · cases h
      · cases h
    · cases h
end Go.AE.Try
end

section
/- Contracts of the smallest functions. -/
set_option maxRecDepth 8000
set_option maxHeartbeats 2000000
namespace Go.AE.Try
open Go.Proofs
open List (map_take map_drop map_tail)

theorem wrap_pred {n : Nat} (h : n ≤ LIM) : IntKind.i64.wrap ((n : Int) - 1) = (n : Int) - 1 := by
  simp only [LIM] at h
  rw [i64_ok (by omega)]
theorem wrap_succ {i n : Nat} (h : i < n) (hn : n ≤ LIM) : IntKind.i64.wrap ((i : Int) + 1) = ((i + 1 : Nat) : Int) := by
  simp only [LIM] at hn
  rw [i64_ok (by omega)]; omega
theorem c_within {x lo hi : Int} : PC ctx.P 26 [.int .i64 x, .int .i64 lo, .int .i64 hi] (.bool (inR x lo hi)) := by
  refine PC.o okC Try.func26 rfl (.bool _) fun h nx hnx => ?_
  try simp [-map_take, -map_drop, -map_tail, rgs, inR]
  repeat' first | done | ((with_reducible refine guardS_split ?_ ?_) <;> intro qb <;> (have qp := qb; try simp only [psq] at qp) <;> simp [-map_take, -map_drop, -map_tail, rgs, inR, qb])
end Go.AE.Try
end

section
/- Contracts of the program's copies of rows as new rows. -/
set_option maxRecDepth 8000
set_option maxHeartbeats 2000000
namespace Go.AE.Try
open Go.Proofs






theorem f_cloneAfterS {p : Bool} {xs : List Afr} (hl : xs.length ≤ MLIM) : FC ctx.P 28 [.view p 5 (xs.map afrC)] (.ref 0 5 0 (xs.map afrC).length) [.row 5 (xs.map afrC)] := by
  refine FC.o1 okC Try.func28 rfl (fz_mapR afrC_fz xs) fun h nx hnx => ?_
  simp
  refine nil_eq (rows := xs.map afrC) rfl rfl rfl (.inl ⟨_, _, rfl⟩) fun b hb => ?_
  simp [nextS]
  refine condS_split ?_ ?_ <;> intro hb2 <;> simp [resultsA, resA]
  · exact fin1_nil (by simp) (by simp; omega) (hb hb2)
  · refine app_end rfl rfl (by decide) (by decide) (by simp; rfl) (by simp; rfl) (by simp) (by simpa using hl) (by simp [afrC, hanC]) ?_
    simp [resultsA, resA]
    exact fin1_ref (by simp [Nat.add_assoc]) (by simp; omega) (by omega) (by simp) rfl (by simp)



theorem f_cloneInt64S {p : Bool} {xs : List Int} (hl : xs.length ≤ MLIM) : FC ctx.P 37 [.view p 1 (xs.map iv)] (.ref 0 1 0 (xs.map iv).length) [.row 1 (xs.map iv)] := by
  refine FC.o1 okC Try.func37 rfl (fz_mapR iv_fz xs) fun h nx hnx => ?_
  simp
  refine nil_eq (rows := xs.map iv) rfl rfl rfl (.inl ⟨_, _, rfl⟩) fun b hb => ?_
  simp [nextS]
  refine condS_split ?_ ?_ <;> intro hb2 <;> simp [resultsA, resA]
  · exact fin1_nil (by simp) (by simp; omega) (hb hb2)
  · refine app_end rfl rfl (by decide) (by decide) (by simp; rfl) (by simp; rfl) (by simp) (by simpa using hl) (by simp [iv, hanC]) ?_
    simp [resultsA, resA]
    exact fin1_ref (by simp [Nat.add_assoc]) (by simp; omega) (by omega) (by simp) rfl (by simp)

theorem f_cloneBoolS {p : Bool} {xs : List Bool} (hl : xs.length ≤ MLIM) : FC ctx.P 38 [.view p 1 (xs.map bv)] (.ref 0 1 0 (xs.map bv).length) [.row 1 (xs.map bv)] := by
  refine FC.o1 okC Try.func38 rfl (fz_mapR bv_fz xs) fun h nx hnx => ?_
  simp
  refine nil_eq (rows := xs.map bv) rfl rfl rfl (.inl ⟨_, _, rfl⟩) fun b hb => ?_
  simp [nextS]
  refine condS_split ?_ ?_ <;> intro hb2 <;> simp [resultsA, resA]
  · exact fin1_nil (by simp) (by simp; omega) (hb hb2)
  · refine app_end rfl rfl (by decide) (by decide) (by simp; rfl) (by simp; rfl) (by simp) (by simpa using hl) (by simp [bv, hanC]) ?_
    simp [resultsA, resA]
    exact fin1_ref (by simp [Nat.add_assoc]) (by simp; omega) (by omega) (by simp) rfl (by simp)

end Go.AE.Try
end

section
/- Contracts of the program's copies of a world's parts as new rows. -/
set_option maxRecDepth 8000
set_option maxHeartbeats 2000000
namespace Go.AE.Try
open Go.Proofs
open List (map_take map_drop map_tail)

theorem f_cloneSlots {F : Nat → Bool} {s : Slt} (h1 : s.ages.length ≤ MLIM) (h2 : s.used.length ≤ MLIM) : FC ctx.P 27 [.agg (sltV F s)] (.agg [.ref 0 1 0 s.ages.length, .ref 1 1 0 s.used.length]) [.row 1 (s.ages.map iv), .row 1 (s.used.map bv)] := by
  refine FC.o okC Try.func27 rfl ((.one _ (.agg _ fun c hc => by simp at hc; rcases hc with rfl | rfl <;> first | exact .ref _ _ _ _ (by simp) | exact .fz _ (.int _ _)))) ((fun e he => by simp at he; rcases he with rfl | rfl <;> first | exact fz_mapR iv_fz _ | exact fz_mapR bv_fz _ | exact fz_mapR twgC_fz _ | exact fz_mapR tmrC_fz _ | exact fz_mapR afrC_fz _)) fun h nx hnx => ?_
  try simp [-map_take, -map_drop, -map_tail, rgs, sltV]
  repeat' first | done | ((first | ((with_reducible show doCall _ _ _ 37 _ _); refine call_fc (f_cloneInt64S h1) ?_) | ((with_reducible show doCall _ _ _ 38 _ _); refine call_fc (f_cloneBoolS h2) ?_) | (with_reducible refine go_draw (i := 1) [(0, [], []), (1, [], []), (3, [], []), (4, [], []), (2, [.tmp 6], []), (5, [], []), (6, [], []), (7, [], [])] (by kernel_rfl) ?_)) <;> simp [-map_take, -map_drop, -map_tail, rgs, sltV]) | fail
  exact finF2 (i := nx + 10) (j := nx + 11) keepA (by omega) (by omega) (by omega) (by simp) (by simp) (by simp)



theorem f_cloneAfters {F : Nat → Bool} {s : Afs} (h1 : s.slots.ages.length ≤ MLIM) (h2 : s.slots.used.length ≤ MLIM) (h3 : s.list.length ≤ MLIM) : FC ctx.P 15 [.agg (afsV F s)] (.agg [.ref 0 1 0 s.slots.ages.length, .ref 1 1 0 s.slots.used.length, .ref 2 5 0 s.list.length]) [.row 1 (s.slots.ages.map iv), .row 1 (s.slots.used.map bv), .row 5 (s.list.map afrC)] := by
  refine FC.o okC Try.func15 rfl ((.one _ (.agg _ fun c hc => by simp at hc; rcases hc with rfl | rfl | rfl <;> first | exact .ref _ _ _ _ (by simp) | exact .fz _ (.int _ _)))) ((fun e he => by simp at he; rcases he with rfl | rfl | rfl <;> first | exact fz_mapR iv_fz _ | exact fz_mapR bv_fz _ | exact fz_mapR twgC_fz _ | exact fz_mapR tmrC_fz _ | exact fz_mapR afrC_fz _)) fun h nx hnx => ?_
  try simp [-map_take, -map_drop, -map_tail, rgs, afsV, sltV]
  repeat' first | done | ((first | ((with_reducible show doCall _ _ _ 27 _ _); refine call_fc (f_cloneSlots (s := s.slots) (F := F) h1 h2) ?_) | ((with_reducible show doCall _ _ _ 28 _ _); refine call_fc (f_cloneAfterS h3) ?_) | (with_reducible refine go_draw (i := 1) [(0, [], []), (1, [], []), (3, [], []), (4, [], []), (2, [.tmp 6], []), (5, [], []), (6, [], []), (7, [], [])] (by kernel_rfl) ?_)) <;> simp [-map_take, -map_drop, -map_tail, rgs, afsV, sltV]) | fail
  exact finF3 (i := nx + 10) (j := nx + 11) (l := nx + 12) keepA (by omega) (by omega) (by omega) (by omega) (by omega) (by omega) (by simp) (by simp) (by simp) (by simp)


end Go.AE.Try
end

section
/- Contracts of the program's copies of worlds as new rows. -/
set_option maxRecDepth 8000
set_option maxHeartbeats 4000000
namespace Go.AE.Try
open Go.Proofs
end Go.AE.Try
end

section
/- Contracts of what is generic. -/
set_option maxRecDepth 8000
set_option maxHeartbeats 2000000
namespace Go.AE.Try
open Go.Proofs
open List (map_take map_drop map_tail)


























theorem c_size_After {p : Bool} {xs : List Afr} : PC ctx.P 22 [.view p 5 (xs.map afrC)] (.int .i64 xs.length) := by
  refine PC.o okC Try.func22 rfl (.int _ _) fun h nx hnx => ?_
  try simp [-map_take, -map_drop, -map_tail, rgs]
  repeat' first | done | (((with_reducible show lenS _ _ _ _ _ _); refine lenS_slice rfl fun _ => ?_) <;> simp [-map_take, -map_drop, -map_tail, rgs]) | fail


theorem c_IndexFunc_After {p : Bool} {xs : List Afr} {q : Afr → Bool} {fv : AV} (hq : ∀ x ∈ xs, FV ctx.P fv [.agg (afrC x)] (.bool (q x))) :
    PC ctx.P 35 [.view p 5 (xs.map afrC), fv] (.int .i64 (idxI q xs 0)) := by
  refine PC.lim (n := xs.length) (x := .view p 5 (xs.map afrC)) (by simp) (.here (by simp)) ⟨_, Try.func35, by kernel_rfl, by kernel_rfl⟩ fun hlim => ?_
  refine PC.o okC Try.func35 rfl (.int _ _) fun h nx hnx => ?_
  try simp [-map_take, -map_drop, -map_tail, rgs]
  repeat' first | done | (((with_reducible show lenS _ _ _ _ _ _); refine lenS_slice rfl fun _ => ?_) <;> simp [-map_take, -map_drop, -map_tail, rgs]) | fail
  refine go_upP [4, 5, 8, 9, 10, 11, 12, 13, 14, 15, 16, 17, 18] (xs.length) (fun (i : Nat) a => [(8, .int .i64 i)]) (fun i_ a_ h_ _ => (fun i (_ : Unit) _ => idxI q (xs.drop i) i = idxI q xs 0) i_ a_ h_) (()) (by simp) ?_ keep_rfl (Nat.le_refl _) ?_
  · simp
  · intro i a tm h' n' hle hJ hE hn' next hnx
    try dsimp only at hJ
    have hK : KeepB nx h' h := KeepB.sub hE keepA (by omega)
    simp [-map_take, -map_drop, -map_tail]
    repeat' first | done | ((first | ((with_reducible show iaddrS _ _ _ _ _ _ _); refine iaddr_map rfl omA omA ?_) | (refine call_fv (hq _ (gt_mem (by omega) (by omega))) ?_)) <;> simp [-map_take, -map_drop, -map_tail, rgs, afrC]) | ((with_reducible refine condS_split ?_ ?_) <;> intro qb <;> (have qp := qb; try simp only [psq] at qp) <;> simp [-map_take, -map_drop, -map_tail, rgs, afrC, qb])
    all_goals
      first
      | (have hlt : i < xs.length := (by first | omega | (simp at *; omega))
         rw [drop_gt hlt] at hJ
         first
         | (refine hnx.go (()) ?_ ?_ ?_ ?_ ?_ ?_; omega; (simp [wrap_succ hlt hlim]); (simp); exact keepA; (first | omega | (simp; omega)); (try dsimp only); clear hnx; first | ((try simp only [List.drop_length, Int.toNat_natCast, idxI] at hJ ⊢); grind) | (simp_all [idxI]; done) | (simp_all; omega))
         | (refine ⟨?_, keepA⟩; clear hnx; first | ((try simp only [List.drop_length, Int.toNat_natCast, idxI] at hJ ⊢); grind) | (simp_all [idxI]; done) | (simp_all; omega)))
      | (obtain rfl : i = xs.length := (by first | omega | (simp at *; omega))
         refine ⟨?_, keepA⟩; clear hnx; first | ((try simp only [List.drop_length, Int.toNat_natCast, idxI] at hJ ⊢); grind) | (simp_all [idxI]; done) | (simp_all; omega))


















theorem c_size_int64 {p : Bool} {xs : List Int} : PC ctx.P 31 [.view p 1 (xs.map iv)] (.int .i64 xs.length) := by
  refine PC.o okC Try.func31 rfl (.int _ _) fun h nx hnx => ?_
  try simp [-map_take, -map_drop, -map_tail, rgs]
  repeat' first | done | (((with_reducible show lenS _ _ _ _ _ _); refine lenS_slice rfl fun _ => ?_) <;> simp [-map_take, -map_drop, -map_tail, rgs]) | fail

theorem c_isIn_int64 {p : Bool} {n : Int} {xs : List Int} : PC ctx.P 34 [.int .i64 n, .view p 1 (xs.map iv)] (.bool (isIn n xs)) := by
  refine PC.lim (n := xs.length) (x := .view p 1 (xs.map iv)) (by simp) (.here (by simp)) ⟨_, Try.func34, by kernel_rfl, by kernel_rfl⟩ fun hlim => ?_
  refine PC.o okC Try.func34 rfl (.bool _) fun h nx hnx => ?_
  try simp [-map_take, -map_drop, -map_tail, rgs, wrap_pred hlim, isIn]
  repeat' first | done | ((first | ((with_reducible show doCall _ _ _ 31 _ _); refine call_pc (c_size_int64) ?_) | ((with_reducible show doCall _ _ _ 26 _ _); refine call_pc (c_within) ?_)) <;> simp [-map_take, -map_drop, -map_tail, rgs, wrap_pred hlim, isIn]) | fail

theorem c_IndexFunc_int64 {p : Bool} {xs : List Int} {q : Int → Bool} {fv : AV} (hq : ∀ x ∈ xs, FV ctx.P fv [.int .i64 x] (.bool (q x))) :
    PC ctx.P 41 [.view p 1 (xs.map iv), fv] (.int .i64 (idxI q xs 0)) := by
  refine PC.lim (n := xs.length) (x := .view p 1 (xs.map iv)) (by simp) (.here (by simp)) ⟨_, Try.func41, by kernel_rfl, by kernel_rfl⟩ fun hlim => ?_
  refine PC.o okC Try.func41 rfl (.int _ _) fun h nx hnx => ?_
  try simp [-map_take, -map_drop, -map_tail, rgs]
  repeat' first | done | (((with_reducible show lenS _ _ _ _ _ _); refine lenS_slice rfl fun _ => ?_) <;> simp [-map_take, -map_drop, -map_tail, rgs]) | fail
  refine go_upP [4, 5, 8, 9, 10, 11, 12, 13, 14, 15, 16, 17, 18] (xs.length) (fun (i : Nat) a => [(8, .int .i64 i)]) (fun i_ a_ h_ _ => (fun i (_ : Unit) _ => idxI q (xs.drop i) i = idxI q xs 0) i_ a_ h_) (()) (by simp) ?_ keep_rfl (Nat.le_refl _) ?_
  · simp
  · intro i a tm h' n' hle hJ hE hn' next hnx
    try dsimp only at hJ
    have hK : KeepB nx h' h := KeepB.sub hE keepA (by omega)
    simp [-map_take, -map_drop, -map_tail]
    repeat' first | done | ((first | ((with_reducible show iaddrS _ _ _ _ _ _ _); refine iaddr_map rfl omA omA ?_) | (refine call_fv (hq _ (gt_mem (by omega) (by omega))) ?_)) <;> simp [-map_take, -map_drop, -map_tail, rgs, iv]) | ((with_reducible refine condS_split ?_ ?_) <;> intro qb <;> (have qp := qb; try simp only [psq] at qp) <;> simp [-map_take, -map_drop, -map_tail, rgs, iv, qb])
    all_goals
      first
      | (have hlt : i < xs.length := (by first | omega | (simp at *; omega))
         rw [drop_gt hlt] at hJ
         first
         | (refine hnx.go (()) ?_ ?_ ?_ ?_ ?_ ?_; omega; (simp [wrap_succ hlt hlim]); (simp); exact keepA; (first | omega | (simp; omega)); (try dsimp only); clear hnx; first | ((try simp only [List.drop_length, Int.toNat_natCast, idxI] at hJ ⊢); grind) | (simp_all [idxI]; done) | (simp_all; omega))
         | (refine ⟨?_, keepA⟩; clear hnx; first | ((try simp only [List.drop_length, Int.toNat_natCast, idxI] at hJ ⊢); grind) | (simp_all [idxI]; done) | (simp_all; omega)))
      | (obtain rfl : i = xs.length := (by first | omega | (simp at *; omega))
         refine ⟨?_, keepA⟩; clear hnx; first | ((try simp only [List.drop_length, Int.toNat_natCast, idxI] at hJ ⊢); grind) | (simp_all [idxI]; done) | (simp_all; omega))

theorem c_ContainsFunc_int64 {p : Bool} {xs : List Int} {q : Int → Bool} {fv : AV} (hq : ∀ x ∈ xs, FV ctx.P fv [.int .i64 x] (.bool (q x))) :
    PC ctx.P 32 [.view p 1 (xs.map iv), fv] (.bool (xs.any q)) := by
  refine PC.o okC Try.func32 rfl (.bool _) fun h nx hnx => ?_
  try simp [-map_take, -map_drop, -map_tail, rgs, idxI_any q xs 0 (Int.le_refl 0)]
  repeat' first | done | (((with_reducible show doCall _ _ _ 41 _ _); refine call_pc (c_IndexFunc_int64 hq) ?_) <;> simp [-map_take, -map_drop, -map_tail, rgs, idxI_any q xs 0 (Int.le_refl 0)]) | fail

















end Go.AE.Try
end

section
/- Contracts of the program's readers: slots, times, heaps, timers. -/
set_option maxRecDepth 8000
set_option maxHeartbeats 2000000
namespace Go.AE.Try
open Go.Proofs
open List (map_take map_drop map_tail)

theorem c_SlotsOk1 {x : Int} : PC ctx.P 33 [.int .i64 x] (.bool (!inR x 0 1000000)) := by
  refine PC.o okC Try.func33 rfl (.bool _) fun h nx hnx => ?_
  try simp [-map_take, -map_drop, -map_tail, rgs]
  repeat' first | done | (((with_reducible show doCall _ _ _ 26 _ _); refine call_pc (c_within) ?_) <;> simp [-map_take, -map_drop, -map_tail, rgs]) | fail
theorem c_SlotsOk {F : Nat → Bool} {s : Slt} : PC ctx.P 20 [.agg (sltV F s)] (.bool (sltOk s)) := by
  refine PC.o okC Try.func20 rfl (.bool _) fun h nx hnx => ?_
  try simp [-map_take, -map_drop, -map_tail, rgs, sltV, sltOk]
  repeat' first | done | ((first | ((with_reducible show lenS _ _ _ _ _ _); refine lenS_slice rfl fun _ => ?_) | ((with_reducible show doCall _ _ _ 31 _ _); refine call_pc (c_size_int64) ?_) | ((with_reducible show doCall _ _ _ 26 _ _); refine call_pc (c_within) ?_) | ((with_reducible show doCall _ _ _ 32 _ _); refine call_pc (c_ContainsFunc_int64 (q := fun a => !inR a 0 1000000) (fun x _ => c_SlotsOk1)) ?_)) <;> simp [-map_take, -map_drop, -map_tail, rgs, sltV, sltOk]) | ((with_reducible refine guardS_split ?_ ?_) <;> intro qb <;> (have qp := qb; try simp only [psq] at qp) <;> simp [-map_take, -map_drop, -map_tail, rgs, sltV, sltOk, qb])

theorem c_used {F : Nat → Bool} {s : Slt} : PC ctx.P 21 [.agg (sltV F s)] (.int .i64 (cntB id s.used)) := by
  refine PC.lim (n := s.used.length) (x := .agg (sltV F s)) (by simp) (.agg (x := .view (F 9) 1 (s.used.map bv)) (by simp [sltV]) (.here (by simp))) ⟨_, Try.func21, by kernel_rfl, by kernel_rfl⟩ fun hlim => ?_
  refine PC.o okC Try.func21 rfl (.int _ _) fun h nx hnx => ?_
  try simp [-map_take, -map_drop, -map_tail, rgs, sltV]
  repeat' first | done | ((first | ((with_reducible show lenS _ _ _ _ _ _); refine lenS_slice rfl fun _ => ?_) | ((with_reducible show iaddrS _ _ _ _ _ _ _); refine iaddr_map rfl omA omA ?_)) <;> simp [-map_take, -map_drop, -map_tail, rgs, sltV]) | ((with_reducible refine condS_split ?_ ?_) <;> intro qb <;> (have qp := qb; try simp only [psq] at qp) <;> simp [-map_take, -map_drop, -map_tail, rgs, sltV, qb])
  refine go_upP [3, 5, 9, 10, 11, 12, 13, 14, 15, 16] (s.used.length) (fun (i : Nat) a => [(9, .int .i64 i), (3, .int .i64 a)]) (fun i_ a_ h_ _ => (fun i (a : Int) _ => a + cntB id (s.used.drop i) = cntB id s.used ∧ 0 ≤ a ∧ a ≤ i) i_ a_ h_) (0) (by simp) ?_ keep_rfl (Nat.le_refl _) ?_
  · simp
  · intro i a tm h' n' hle hJ hE hn' next hnx
    try dsimp only at hJ
    have hK : KeepB nx h' h := KeepB.sub hE keepA (by omega)
    simp [-map_take, -map_drop, -map_tail]
    try simp [-map_take, -map_drop, -map_tail, rgs, bv]
    repeat' first | done | ((first | ((with_reducible show lenS _ _ _ _ _ _); refine lenS_slice rfl fun _ => ?_) | ((with_reducible show iaddrS _ _ _ _ _ _ _); refine iaddr_map rfl omA omA ?_)) <;> simp [-map_take, -map_drop, -map_tail, rgs, bv]) | ((with_reducible refine condS_split ?_ ?_) <;> intro qb <;> (have qp := qb; try simp only [psq] at qp) <;> simp [-map_take, -map_drop, -map_tail, rgs, bv, qb])
    · rw [drop_gt (by omega)] at hJ
      refine hnx.go (a + 1) (by omega) (by simp [wrap_succ (i := i) (n := s.used.length) (by omega) hlim, i64_ok (x := a + 1) (by simp only [LIM] at hlim; omega)]) (by simp) keepA (by first | omega | (simp; omega)) ?_
      try dsimp only
      simp [cntB, qb] at hJ ⊢
      omega
    · rw [drop_gt (by omega)] at hJ
      refine hnx.go (a) (by omega) (by simp [wrap_succ (i := i) (n := s.used.length) (by omega) hlim]) (by simp) keepA (by first | omega | (simp; omega)) ?_
      try dsimp only
      simp [cntB, qb] at hJ ⊢
      omega
    · refine ⟨?_, by simp [hK]⟩
      rw [List.drop_eq_nil_of_le (by omega)] at hJ
      simp [cntB] at hJ ⊢
      omega

theorem c_holds {F : Nat → Bool} {s : Slt} {x : Han} (hl : s.used.length = s.ages.length) : PC ctx.P 24 [.agg (sltV F s), .agg (hanC x)] (.bool (sltHolds s x)) := by
  refine PC.o okC Try.func24 rfl (.bool _) fun h nx hnx => ?_
  try simp [-map_take, -map_drop, -map_tail, rgs, sltV, hanC, iv, bv, sltHolds]
  repeat' first | done | ((first | ((with_reducible show iaddrS _ _ _ _ _ _ _); refine iaddr_map rfl omA omA ?_) | ((with_reducible show doCall _ _ _ 34 _ _); refine call_pc (c_isIn_int64) ?_) | (with_reducible refine go_draw (i := 1) [(0, [], []), (1, [], []), (2, [], []), (3, [], []), (4, [], []), (5, [], []), (6, [], []), (7, [], []), (8, [], []), (9, [], []), (10, [], []), (11, [], []), (12, [], []), (13, [], []), (14, [], []), (15, [], []), (16, [], []), (17, [], []), (18, [], []), (19, [], []), (20, [], []), (21, [], []), (22, [], []), (23, [], []), (24, [], [])] (by kernel_rfl) ?_)) <;> simp [-map_take, -map_drop, -map_tail, rgs, sltV, hanC, iv, bv, sltHolds]) | ((with_reducible refine guardD_split ?_ ?_) <;> intro qb <;> (have qp := qb; try simp only [psq] at qp) <;> simp [-map_take, -map_drop, -map_tail, rgs, sltV, hanC, iv, bv, sltHolds, qb])

end Go.AE.Try
end

section
/- Contracts of the program's readers: heaps, timers, trees. -/
set_option maxRecDepth 8000
set_option maxHeartbeats 2000000
namespace Go.AE.Try
open Go.Proofs

end Go.AE.Try
end

section
/- Contracts of the program's readers: tasks, groups, worlds. -/
set_option maxRecDepth 8000
set_option maxHeartbeats 2000000
namespace Go.AE.Try
open Go.Proofs
open List (map_take map_drop map_tail)

theorem c_isAfter {a b : Int} : PC ctx.P 23 [.int .i64 a, .int .i64 b] (.bool (isAfter a b)) := by
  refine PC.o okC Try.func23 rfl (.bool _) fun h nx hnx => ?_
  try simp [-map_take, -map_drop, -map_tail, rgs]
  repeat' first | done | (((with_reducible show doCall _ _ _ 26 _ _); refine call_pc (c_within) ?_) <;> simp [-map_take, -map_drop, -map_tail, rgs]) | ((with_reducible refine guardS_split ?_ ?_) <;> intro qb <;> (have qp := qb; try simp only [psq] at qp) <;> simp [-map_take, -map_drop, -map_tail, rgs, qb])
  all_goals (try clear hnx)
  all_goals first | (simp_all [isAfter]; done) | (simp_all [isAfter]; omega) | (rw [Bool.eq_iff_iff]; simp_all [isAfter]; done) | (rw [Bool.eq_iff_iff]; simp_all [isAfter]; omega) | omega | (simp only [isAfter]; grind) | grind
theorem c_afsAt1 {x : Afr} {h : Han} : PC ctx.P 36 [.agg (afrC x), .vptr (hanC h)] (.bool (x.han == h)) := by
  refine PC.o okC Try.func36 rfl (.bool _) fun h nx hnx => ?_
  try simp [-map_take, -map_drop, -map_tail, rgs, afrC, hanC, han_eq, lfOf, cellsEq, cellEq]
theorem c_afsAt {F : Nat → Bool} {a : Afs} {x : Han} : PC ctx.P 25 [.agg (afsV F a), .agg (hanC x)] (.int .i64 (afsAt a.list x)) := by
  refine PC.o okC Try.func25 rfl (.int _ _) fun h nx hnx => ?_
  try simp [-map_take, -map_drop, -map_tail, rgs, afsV, afsAt]
  repeat' first | done | (((with_reducible show doCall _ _ _ 35 _ _); refine call_pcB (c_IndexFunc_After (q := fun y => y.han == x) (fv := .fn 36 [.vptr (hanC x)]) (fun x _ => c_afsAt1)) (by (first | exact .bool _ | exact .int _ _ | exact .str _)) (by repeat' first | exact Bors.nil | refine Bors.cons ?_ ?_ | exact Bor.same _ | refine Bor.fn1 ?_ | refine Bor.bnd1 ?_ | refine Bor.agg1 ?_ | refine Bor.ptr0 (by (first | (simp; done) | (simp; rfl) | assumption | (simp [*]; done))) ?_ | refine Bor.ref0 (by (first | (simp; done) | (simp; rfl) | (simp [iv, bv]; done))) (by simp) (by simp)) ?_) <;> simp [-map_take, -map_drop, -map_tail, rgs, afsV, afsAt]) | fail
end Go.AE.Try
end

section
/- Contracts of the program's readers: timers, chains, events. -/
set_option maxRecDepth 8000
set_option maxHeartbeats 2000000
namespace Go.AE.Try
open Go.Proofs

end Go.AE.Try
end

section
/- Contracts of the program's readers: events, worlds. -/
set_option maxRecDepth 8000
set_option maxHeartbeats 2000000
namespace Go.AE.Try
open Go.Proofs
open List (map_take map_drop map_tail)

theorem c_AftersOk {F : Nat → Bool} {x : Afs} : PC ctx.P 13 [.agg (afsV F x)] (.bool (afsOk x)) := by
  refine PC.lim (n := x.list.length) (x := .agg (afsV F x)) (by simp) (.agg (x := .view (F 10) 5 (x.list.map afrC)) (by simp [afsV]) (.here (by simp))) ⟨_, Try.func13, by kernel_rfl, by kernel_rfl⟩ fun hlim => ?_
  by_cases hs : sltOk x.slots = true
  · have hl : x.slots.used.length = x.slots.ages.length := by simp [sltOk] at hs; omega
    refine PC.o okC Try.func13 rfl (.bool _) fun h nx hnx => ?_
    try simp [-map_take, -map_drop, -map_tail, rgs, afsV, hs]
    repeat' first | done | ((first | ((with_reducible show lenS _ _ _ _ _ _); refine lenS_slice rfl fun _ => ?_) | ((with_reducible show iaddrS _ _ _ _ _ _ _); refine iaddr_map rfl omA omA ?_) | ((with_reducible show doCall _ _ _ 20 _ _); refine call_pc (c_SlotsOk (s := x.slots) (F := F)) ?_) | ((with_reducible show doCall _ _ _ 22 _ _); refine call_pc (c_size_After) ?_) | ((with_reducible show doCall _ _ _ 21 _ _); refine call_pc (c_used (s := x.slots) (F := F)) ?_) | (with_reducible refine go_draw (i := 1) [(0, [], []), (1, [], []), (2, [], []), (3, [], []), (4, [], []), (5, [], []), (6, [], []), (8, [], []), (9, [], []), (7, [.tmp 13], []), (10, [], []), (11, [], []), (12, [], [])] (by kernel_rfl) ?_)) <;> simp [-map_take, -map_drop, -map_tail, rgs, afsV, hs]) | ((first | (with_reducible refine guardD_split ?_ ?_) | (with_reducible refine guardS_split ?_ ?_) | (with_reducible refine condS_split ?_ ?_)) <;> intro qb <;> (have qp := qb; try simp only [psq] at qp) <;> simp [-map_take, -map_drop, -map_tail, rgs, afsV, hs, qb])
    · simp only [afsOk]; grind
    · refine go_upP [2, 3, 4, 21, 22, 23, 24, 25, 26, 27, 28, 29, 30, 31, 32, 33, 34, 35, 36, 37, 38, 39, 40, 41, 42, 43, 44, 45, 46, 47, 48] (x.list.length) (fun (i : Nat) a => [(21, .int .i64 i)]) (fun i_ a_ h_ _ => (fun i (_ : Unit) _ => allI (fun i y => isAfter y.node y.fn && (sltHolds x.slots y.han && afsAt x.list y.han == i)) (x.list.drop i) i = allI (fun i y => isAfter y.node y.fn && (sltHolds x.slots y.han && afsAt x.list y.han == i)) x.list 0) i_ a_ h_) (()) (by simp) ?_ keep_rfl (Nat.le_refl _) ?_
      · simp
      · intro i a tm h' n' hle hJ hE hn' next hnx
        try dsimp only at hJ
        have hK : KeepB nx h' h := KeepB.sub hE keepA (by omega)
        simp [-map_take, -map_drop, -map_tail]
        have e1 : h' (nx) = some (.obj (afsV F x)) := by have := hE (nx) (by omega); simpa [afsV] using this
        have e1n : ∀ k, ((nx) = n' + k) = False := fun k => by simp only [eq_iff_iff, iff_false]; omega
        have e1m : ((nx) = n') = False := by simp only [eq_iff_iff, iff_false]; omega
        try simp [-map_take, -map_drop, -map_tail, rgs, afsV, afrC, e1, e1n, e1m]
        repeat' first | done | ((first | ((with_reducible show lenS _ _ _ _ _ _); refine lenS_slice rfl fun _ => ?_) | ((with_reducible show iaddrS _ _ _ _ _ _ _); refine iaddr_map rfl omA omA ?_) | ((with_reducible show doCall _ _ _ 23 _ _); refine call_pc (c_isAfter) ?_) | ((with_reducible show doCall _ _ _ 24 _ _); refine call_pc (c_holds (s := x.slots) (F := F) (x := (gt x.list (i : Int)).han) hl) ?_) | ((with_reducible show doCall _ _ _ 25 _ _); refine call_pc (c_afsAt (a := x) (F := F) (x := (gt x.list (i : Int)).han)) ?_) | (with_reducible refine go_draw (i := 1) [(0, [], []), (1, [], []), (2, [], []), (3, [], []), (4, [], []), (5, [], []), (6, [], []), (8, [], []), (9, [], []), (7, [.tmp 13], []), (10, [], []), (11, [], []), (12, [], [])] (by kernel_rfl) ?_)) <;> simp [-map_take, -map_drop, -map_tail, rgs, afsV, afrC, e1, e1n, e1m]) | ((first | (with_reducible refine guardD_split ?_ ?_) | (with_reducible refine guardS_split ?_ ?_) | (with_reducible refine condS_split ?_ ?_)) <;> intro qb <;> (have qp := qb; try simp only [psq] at qp) <;> simp [-map_take, -map_drop, -map_tail, rgs, afsV, afrC, e1, e1n, e1m, qb])
        all_goals
          first
          | (have hlt : i < x.list.length := (by first | omega | (simp at *; omega))
             rw [drop_gt hlt] at hJ
             first
             | (refine hnx.go (()) ?_ ?_ ?_ ?_ ?_ ?_; omega; (simp [wrap_succ hlt hlim]); (simp); exact keepA; (first | omega | (simp; omega)); (try dsimp only); clear hnx; first | ((try simp only [List.drop_length, Int.toNat_natCast, allI, afsOk] at hJ ⊢); grind) | (simp_all [allI, afsOk]; done) | (simp_all; omega))
             | (refine ⟨?_, keepA⟩; clear hnx; first | ((try simp only [List.drop_length, Int.toNat_natCast, allI, afsOk] at hJ ⊢); grind) | (simp_all [allI, afsOk]; done) | (simp_all; omega)))
          | (obtain rfl : i = x.list.length := (by first | omega | (simp at *; omega))
             refine ⟨?_, keepA⟩; clear hnx; first | ((try simp only [List.drop_length, Int.toNat_natCast, allI, afsOk] at hJ ⊢); grind) | (simp_all [allI, afsOk]; done) | (simp_all; omega))
  · refine PC.o okC Try.func13 rfl (.bool _) fun h nx hnx => ?_
    try simp [-map_take, -map_drop, -map_tail, rgs, afsV, hs]
    repeat' first | done | ((first | ((with_reducible show lenS _ _ _ _ _ _); refine lenS_slice rfl fun _ => ?_) | ((with_reducible show iaddrS _ _ _ _ _ _ _); refine iaddr_map rfl omA omA ?_) | ((with_reducible show doCall _ _ _ 20 _ _); refine call_pc (c_SlotsOk (s := x.slots) (F := F)) ?_) | (with_reducible refine go_draw (i := 1) [(0, [], []), (1, [], []), (2, [], []), (3, [], []), (4, [], []), (5, [], []), (6, [], []), (8, [], []), (9, [], []), (7, [.tmp 13], []), (10, [], []), (11, [], []), (12, [], [])] (by kernel_rfl) ?_)) <;> simp [-map_take, -map_drop, -map_tail, rgs, afsV, hs]) | ((first | (with_reducible refine guardD_split ?_ ?_) | (with_reducible refine guardS_split ?_ ?_) | (with_reducible refine condS_split ?_ ?_)) <;> intro qb <;> (have qp := qb; try simp only [psq] at qp) <;> simp [-map_take, -map_drop, -map_tail, rgs, afsV, hs, qb])
    all_goals (try clear hnx)
    all_goals first | (simp_all [afsOk]; done) | (simp_all [afsOk]; omega) | (rw [Bool.eq_iff_iff]; simp_all [afsOk]; done) | (rw [Bool.eq_iff_iff]; simp_all [afsOk]; omega) | omega | (simp only [afsOk]; grind) | grind
end Go.AE.Try
end

section
/- Contracts of the program's readers: worlds. -/
set_option maxRecDepth 8000
set_option maxHeartbeats 4000000
namespace Go.AE.Try
open Go.Proofs

end Go.AE.Try
end

section
/- Contracts of the program's requests: what is asked of a world, and what it makes of a copy. -/
set_option maxRecDepth 8000
set_option maxHeartbeats 4000000
namespace Go.AE.Try
open Go.Proofs
theorem wldV_len (F : Nat → Bool) (w : Wld) : (wldV F w).length = 17 := rfl
theorem wldV_take (F : Nat → Bool) (w : Wld) : (wldV F w).take 17 = wldV F w := rfl
end Go.AE.Try
end

section
/- Contracts of the program's changes of functions that are registered. -/
set_option maxRecDepth 8000
set_option maxHeartbeats 4000000
namespace Go.AE.Try
open Go.Proofs
open List (map_take map_drop map_tail)
theorem m_drop {ia ib : Nat} {s : Slt} {x : Han} (hab : ia ≠ ib) (hsl : s.used.length = s.ages.length) (hr : canDrop s x = true → 0 ≤ x.age ∧ x.age < 1000000) : AC ctx.P 39 [.agg [.ref ia 1 0 s.ages.length, .ref ib 1 0 s.used.length], .agg (hanC x)]
    (fun h _ => h ia = some (.row 1 (s.ages.map iv)) ∧ h ib = some (.row 1 (s.used.map bv)))
    (fun h nx r h' nx' => r = .bool (canDrop s x) ∧ h' ia = some (.row 1 ((dropIf s x).ages.map iv)) ∧ h' ib = some (.row 1 ((dropIf s x).used.map bv)) ∧ ∀ j, j < nx → j ≠ ia → j ≠ ib → h' j = h j) := by
  refine AC.o okC Try.func39 rfl fun h nx hfr hnx hpre => ?_
  obtain ⟨p1, p2⟩ := hpre
  have i1 : ia < nx := hnx ia (by rw [p1]; simp)
  have i2 : ib < nx := hnx ib (by rw [p2]; simp)
  have k1 : ∀ k, (ia = nx + k) = False := fun k => by simp only [eq_iff_iff, iff_false]; omega
  have k2 : ∀ k, (ib = nx + k) = False := fun k => by simp only [eq_iff_iff, iff_false]; omega
  have k3 : (ia = nx) = False := by simp only [eq_iff_iff, iff_false]; omega
  have k4 : (ib = nx) = False := by simp only [eq_iff_iff, iff_false]; omega
  have k5 : ∀ k, (nx + k = ia) = False := fun k => by simp only [eq_iff_iff, iff_false]; omega
  have k6 : ∀ k, (nx + k = ib) = False := fun k => by simp only [eq_iff_iff, iff_false]; omega
  have k7 : (nx = ia) = False := by simp only [eq_iff_iff, iff_false]; omega
  have k8 : (nx = ib) = False := by simp only [eq_iff_iff, iff_false]; omega
  try simp [-map_take, -map_drop, -map_tail, rgs, hanC]
  repeat' first | done | (((with_reducible show iaddrS _ _ _ _ _ _ _); refine iaddr_map rfl omA omA ?_) <;> simp [-map_take, -map_drop, -map_tail, rgs, hanC]) | ((first | (with_reducible refine guardS_split ?_ ?_) | (with_reducible refine condS_split ?_ ?_)) <;> intro qb <;> (have qp := qb; try simp only [psq] at qp) <;> simp [-map_take, -map_drop, -map_tail, rgs, hanC, qb])
  refine call_pcB (c_holds (F := FF) (s := s) (x := x) hsl) (.bool _) ?hb ?_
  case hb => exact .cons (.agg1 (.cons (.ref0 (by dsimp only; (repeat rw [upd_ne _ _ _ _ (by omega)]); exact p1) (by simp) (by simp)) (.cons (.ref0 (by dsimp only; (repeat rw [upd_ne _ _ _ _ (by omega)]); exact p2) (by simp) (by simp)) .nil))) (.cons (.same _) .nil)
  by_cases hh : sltHolds s x = true
  · by_cases ha : x.age = 1000000
    · have e1 : canDrop s x = false := by simp [canDrop, ha]
      have e2 : dropIf s x = s := by simp [dropIf, e1]
      try simp [-map_take, -map_drop, -map_tail, rgs, hanC, hh, ha, k1, k2, k3, k4, k5, k6, k7, k8]
      repeat' first | done | (((with_reducible show iaddrS _ _ _ _ _ _ _); refine iaddr_map rfl omA omA ?_) <;> simp [-map_take, -map_drop, -map_tail, rgs, hanC, hh, ha, k1, k2, k3, k4, k5, k6, k7, k8]) | ((first | (with_reducible refine guardS_split ?_ ?_) | (with_reducible refine condS_split ?_ ?_)) <;> intro qb <;> (have qp := qb; try simp only [psq] at qp) <;> simp [-map_take, -map_drop, -map_tail, rgs, hanC, hh, ha, k1, k2, k3, k4, k5, k6, k7, k8, qb])
      rw [e1, e2]
      exact ⟨rfl, p1, p2, fun j hj _ _ => by rw [if_neg (by omega), if_neg (by omega)]⟩
    · have e1 : canDrop s x = true := by simp [canDrop, hh, ha]
      obtain ⟨r1, r2⟩ := hr e1
      have hsl2 : 0 ≤ x.slot ∧ x.slot < s.ages.length := by
        simp only [sltHolds, Bool.and_eq_true, isIn, inR, decide_eq_true_eq] at hh; omega
      have ew : IntKind.i64.wrap (x.age + 1) = x.age + 1 := i64_ok (by omega)
      have ha2 : (x.age == 1000000) = false := by simpa using ha
      have n1 : x.slot.toNat < s.ages.length := by omega
      have e2 : dropIf s x = dropS s x := by simp [dropIf, e1]
      have hg : s.ages[x.slot.toNat]? = some x.age := by
        simp only [sltHolds, Bool.and_eq_true, beq_iff_eq] at hh
        rw [← hh.2.2, ← gt_some hsl2.1 hsl2.2]
      have hbi : ib ≠ ia := fun e => hab e.symm
      try simp [-map_take, -map_drop, -map_tail, rgs, iv, bv, hanC, hh, ha, ha2, p1, p2, ew, k1, k2, k3, k4, k5, k6, k7, k8, hab, hbi]
      repeat' first | done | ((first | ((with_reducible show iaddrS _ _ _ _ _ _ _); refine iaddr_map rfl omA omA ?_) | (((with_reducible show iaddrS _ _ _ _ (.ref _ _ _ _) _ _); refine iaddr_ref rfl (by omega) (by omega) ?_))) <;> simp [-map_take, -map_drop, -map_tail, rgs, iv, bv, hanC, hh, ha, ha2, p1, p2, ew, k1, k2, k3, k4, k5, k6, k7, k8, hab, hbi]) | ((first | (with_reducible refine guardS_split ?_ ?_) | (with_reducible refine condS_split ?_ ?_)) <;> intro qb <;> (have qp := qb; try simp only [psq] at qp) <;> simp [-map_take, -map_drop, -map_tail, rgs, iv, bv, hanC, hh, ha, ha2, p1, p2, ew, k1, k2, k3, k4, k5, k6, k7, k8, hab, hbi, qb])
      refine storeE_put (sz := 1) (xs := s.used.map bv) (cells := bv (gt s.used x.slot)) (by simp [k1, k2, k3, k4, k5, k6, k7, k8, hab, hbi, p2]) rfl rfl rfl (by rw [List.getElem?_map, gt_some hsl2.1 (by omega)]; rfl) rfl ?_
      try simp [-map_take, -map_drop, -map_tail, rgs, iv, bv, hanC, hh, ha, ha2, p1, p2, ew, k1, k2, k3, k4, k5, k6, k7, k8, hab, hbi]
      repeat' first | done | ((first | ((with_reducible show iaddrS _ _ _ _ _ _ _); refine iaddr_map rfl omA omA ?_) | (((with_reducible show iaddrS _ _ _ _ (.ref _ _ _ _) _ _); refine iaddr_ref rfl (by omega) (by omega) ?_)) | (((with_reducible show loadE _ _ _ _ _ _ _ _); refine loadE_row (cells := iv x.age) (by rw [List.getElem?_map, hg]; rfl) ?_))) <;> simp [-map_take, -map_drop, -map_tail, rgs, iv, bv, hanC, hh, ha, ha2, p1, p2, ew, k1, k2, k3, k4, k5, k6, k7, k8, hab, hbi]) | ((first | (with_reducible refine guardS_split ?_ ?_) | (with_reducible refine condS_split ?_ ?_)) <;> intro qb <;> (have qp := qb; try simp only [psq] at qp) <;> simp [-map_take, -map_drop, -map_tail, rgs, iv, bv, hanC, hh, ha, ha2, p1, p2, ew, k1, k2, k3, k4, k5, k6, k7, k8, hab, hbi, qb])
      refine storeE_put (sz := 1) (xs := s.ages.map iv) (cells := iv x.age) (by simp [k1, k2, k3, k4, k5, k6, k7, k8, hab, hbi, p1]) rfl rfl rfl (by rw [List.getElem?_map, hg]; rfl) rfl ?_
      try simp [-map_take, -map_drop, -map_tail, rgs, iv, bv, hanC, hh, ha, ha2, p1, p2, ew, k1, k2, k3, k4, k5, k6, k7, k8, hab, hbi]
      repeat' first | done | (((with_reducible show iaddrS _ _ _ _ _ _ _); refine iaddr_map rfl omA omA ?_) <;> simp [-map_take, -map_drop, -map_tail, rgs, iv, bv, hanC, hh, ha, ha2, p1, p2, ew, k1, k2, k3, k4, k5, k6, k7, k8, hab, hbi]) | ((first | (with_reducible refine guardS_split ?_ ?_) | (with_reducible refine condS_split ?_ ?_)) <;> intro qb <;> (have qp := qb; try simp only [psq] at qp) <;> simp [-map_take, -map_drop, -map_tail, rgs, iv, bv, hanC, hh, ha, ha2, p1, p2, ew, k1, k2, k3, k4, k5, k6, k7, k8, hab, hbi, qb])
      rw [e1, e2]
      refine ⟨rfl, ?_, ?_, fun j hj h1 h2 => ?_⟩
      · simp [dropS, iv, List.map_set]
      · simp [dropS, bv, List.map_set]
      · rw [if_neg h1, if_neg h2, if_neg (by omega), if_neg (by omega)]
  · have e1 : canDrop s x = false := by simp [canDrop, hh]
    have e2 : dropIf s x = s := by simp [dropIf, e1]
    try simp [-map_take, -map_drop, -map_tail, rgs, hanC, hh, k1, k2, k3, k4, k5, k6, k7, k8]
    repeat' first | done | (((with_reducible show iaddrS _ _ _ _ _ _ _); refine iaddr_map rfl omA omA ?_) <;> simp [-map_take, -map_drop, -map_tail, rgs, hanC, hh, k1, k2, k3, k4, k5, k6, k7, k8]) | ((first | (with_reducible refine guardS_split ?_ ?_) | (with_reducible refine condS_split ?_ ?_)) <;> intro qb <;> (have qp := qb; try simp only [psq] at qp) <;> simp [-map_take, -map_drop, -map_tail, rgs, hanC, hh, k1, k2, k3, k4, k5, k6, k7, k8, qb])
    rw [e1, e2]
    exact ⟨rfl, p1, p2, fun j hj _ _ => by rw [if_neg (by omega), if_neg (by omega)]⟩
theorem m_DeleteAfr {id i : Nat} {xs : List Afr} (hi : i < xs.length) (hl : xs.length ≤ 1048576) : AC ctx.P 40 [.ref id 5 0 xs.length, .int .i64 i, .int .i64 ((i : Int) + 1)]
    (fun h _ => h id = some (.row 5 (xs.map afrC)))
    (fun h nx r h' nx' => ∃ jd, r = .ref jd 5 0 (xs.eraseIdx i).length ∧ nx ≤ jd ∧ jd < nx' ∧ h' jd = some (.row 5 ((xs.eraseIdx i).map afrC)) ∧ ∀ j, j < nx → j ≠ id → h' j = h j) := by
  refine AC.o okC Try.func40 rfl fun h nx hfr hnx hpre => ?_
  have i1 : id < nx := hnx id (by rw [hpre]; simp)
  try simp [-map_take, -map_drop, -map_tail, rgs, hpre]
  repeat' first | done | ((first | ((with_reducible show lenS _ _ _ _ _ _); refine lenS_slice rfl fun _ => ?_) | ((with_reducible show sliceS _ _ _ _ _ _ _ _); refine slice_to rfl omA omA ?_) | ((with_reducible show sliceS _ _ _ _ _ _ _ _); refine slice_from rfl omA omA ?_) | ((with_reducible show sliceS _ _ _ _ _ _ _ _); refine slice_mid rfl omA omA omA ?_) | ((with_reducible show sliceI _ _ _ _ _ _ _ _ _ _ _); refine sliceI_to rfl omA omA ?_) | ((with_reducible show sliceI _ _ _ _ _ _ _ _ _ _ _); refine sliceI_from rfl omA omA ?_) | ((with_reducible show sliceI _ _ _ _ _ _ _ _ _ _ _); refine sliceI_mid rfl omA omA omA ?_) | ((with_reducible show appS _ _ _ _ _ _ _ _); refine app_end rfl rfl (by decide) (by decide) (by (first | (simp [-map_take, -map_drop, -map_tail, rgs, hpre]; done) | (simp [-map_take, -map_drop, -map_tail, rgs, hpre]; rfl))) (by (first | (simp [-map_take, -map_drop, -map_tail, rgs, hpre]; done) | (simp [-map_take, -map_drop, -map_tail, rgs, hpre]; rfl))) (by (first | (simp; done) | (simp; omega))) (by (first | (simp only [MLIM, LIM] at *; simp; omega) | (simp only [MLIM]; simp; omega))) (by simp [iv, bv]) ?_) | (with_reducible refine go_draw (i := 5) [(0, [], []), (1, [], []), (2, [], []), (3, [], []), (4, [], []), (5, [], []), (6, [], []), (7, [], [])] (by kernel_rfl) ?_)) <;> simp [-map_take, -map_drop, -map_tail, rgs, hpre]) | ((with_reducible refine condS_split ?_ ?_) <;> intro qb <;> (have qp := qb; try simp only [psq] at qp) <;> simp [-map_take, -map_drop, -map_tail, rgs, hpre, qb])
  refine run_slice3 ⟨_, xs.length, i, i + 1, _, (xs.length : Int), rfl, rfl, bounds_of (by simp [bndA]) (by simp [bndA]; omega) (by omega), rfl, by omega, by simp; omega, by simp, ?_⟩
  have hne : ((i : Int) == (i : Int) + 1) = false := by simp; omega
  try simp [-map_take, -map_drop, -map_tail, rgs, hpre, hne]
  repeat' first | done | ((first | ((with_reducible show lenS _ _ _ _ _ _); refine lenS_slice rfl fun _ => ?_) | ((with_reducible show sliceS _ _ _ _ _ _ _ _); refine slice_to rfl omA omA ?_) | ((with_reducible show sliceS _ _ _ _ _ _ _ _); refine slice_from rfl omA omA ?_) | ((with_reducible show sliceS _ _ _ _ _ _ _ _); refine slice_mid rfl omA omA omA ?_) | ((with_reducible show sliceI _ _ _ _ _ _ _ _ _ _ _); refine sliceI_to rfl omA omA ?_) | ((with_reducible show sliceI _ _ _ _ _ _ _ _ _ _ _); refine sliceI_from rfl omA omA ?_) | ((with_reducible show sliceI _ _ _ _ _ _ _ _ _ _ _); refine sliceI_mid rfl omA omA omA ?_) | ((with_reducible show appS _ _ _ _ _ _ _ _); refine app_end rfl rfl (by decide) (by decide) (by (first | (simp [-map_take, -map_drop, -map_tail, rgs, hpre, hne]; done) | (simp [-map_take, -map_drop, -map_tail, rgs, hpre, hne]; rfl))) (by (first | (simp [-map_take, -map_drop, -map_tail, rgs, hpre, hne]; done) | (simp [-map_take, -map_drop, -map_tail, rgs, hpre, hne]; rfl))) (by (first | (simp; done) | (simp; omega))) (by (first | (simp only [MLIM, LIM] at *; simp; omega) | (simp only [MLIM]; simp; omega))) (by simp [iv, bv]) ?_) | (with_reducible refine go_draw (i := 5) [(0, [], []), (1, [], []), (2, [], []), (3, [], []), (4, [], []), (5, [], []), (6, [], []), (7, [], [])] (by kernel_rfl) ?_)) <;> simp [-map_take, -map_drop, -map_tail, rgs, hpre, hne]) | ((with_reducible refine condS_split ?_ ?_) <;> intro qb <;> (have qp := qb; try simp only [psq] at qp) <;> simp [-map_take, -map_drop, -map_tail, rgs, hpre, hne, qb])
  refine sliceI_ref (l := 0) (h := i) rfl (by simp [bndA]) (by simp [bndA]) (by omega) (by omega) ?_
  try simp [-map_take, -map_drop, -map_tail, rgs, hpre]
  repeat' first | done | ((first | ((with_reducible show lenS _ _ _ _ _ _); refine lenS_slice rfl fun _ => ?_) | ((with_reducible show sliceS _ _ _ _ _ _ _ _); refine slice_to rfl omA omA ?_) | ((with_reducible show sliceS _ _ _ _ _ _ _ _); refine slice_from rfl omA omA ?_) | ((with_reducible show sliceS _ _ _ _ _ _ _ _); refine slice_mid rfl omA omA omA ?_) | ((with_reducible show sliceI _ _ _ _ _ _ _ _ _ _ _); refine sliceI_to rfl omA omA ?_) | ((with_reducible show sliceI _ _ _ _ _ _ _ _ _ _ _); refine sliceI_from rfl omA omA ?_) | ((with_reducible show sliceI _ _ _ _ _ _ _ _ _ _ _); refine sliceI_mid rfl omA omA omA ?_) | ((with_reducible show appS _ _ _ _ _ _ _ _); refine app_end rfl rfl (by decide) (by decide) (by (first | (simp [-map_take, -map_drop, -map_tail, rgs, hpre]; done) | (simp [-map_take, -map_drop, -map_tail, rgs, hpre]; rfl))) (by (first | (simp [-map_take, -map_drop, -map_tail, rgs, hpre]; done) | (simp [-map_take, -map_drop, -map_tail, rgs, hpre]; rfl))) (by (first | (simp; done) | (simp; omega))) (by (first | (simp only [MLIM, LIM] at *; simp; omega) | (simp only [MLIM]; simp; omega))) (by simp [iv, bv]) ?_) | (with_reducible refine go_draw (i := 5) [(0, [], []), (1, [], []), (2, [], []), (3, [], []), (4, [], []), (5, [], []), (6, [], []), (7, [], [])] (by kernel_rfl) ?_)) <;> simp [-map_take, -map_drop, -map_tail, rgs, hpre]) | ((with_reducible refine condS_split ?_ ?_) <;> intro qb <;> (have qp := qb; try simp only [psq] at qp) <;> simp [-map_take, -map_drop, -map_tail, rgs, hpre, qb])
  refine sliceI_ref (l := i + 1) (h := xs.length) rfl (by simp [bndA]; omega) (by simp [bndA]) (by omega) (by omega) ?_
  try simp [-map_take, -map_drop, -map_tail, rgs, hpre]
  repeat' first | done | ((first | ((with_reducible show lenS _ _ _ _ _ _); refine lenS_slice rfl fun _ => ?_) | ((with_reducible show sliceS _ _ _ _ _ _ _ _); refine slice_to rfl omA omA ?_) | ((with_reducible show sliceS _ _ _ _ _ _ _ _); refine slice_from rfl omA omA ?_) | ((with_reducible show sliceS _ _ _ _ _ _ _ _); refine slice_mid rfl omA omA omA ?_) | ((with_reducible show sliceI _ _ _ _ _ _ _ _ _ _ _); refine sliceI_to rfl omA omA ?_) | ((with_reducible show sliceI _ _ _ _ _ _ _ _ _ _ _); refine sliceI_from rfl omA omA ?_) | ((with_reducible show sliceI _ _ _ _ _ _ _ _ _ _ _); refine sliceI_mid rfl omA omA omA ?_) | ((with_reducible show appS _ _ _ _ _ _ _ _); refine app_end rfl rfl (by decide) (by decide) (by (first | (simp [-map_take, -map_drop, -map_tail, rgs, hpre]; done) | (simp [-map_take, -map_drop, -map_tail, rgs, hpre]; rfl))) (by (first | (simp [-map_take, -map_drop, -map_tail, rgs, hpre]; done) | (simp [-map_take, -map_drop, -map_tail, rgs, hpre]; rfl))) (by (first | (simp; done) | (simp; omega))) (by (first | (simp only [MLIM, LIM] at *; simp; omega) | (simp only [MLIM]; simp; omega))) (by simp [iv, bv]) ?_) | (with_reducible refine go_draw (i := 5) [(0, [], []), (1, [], []), (2, [], []), (3, [], []), (4, [], []), (5, [], []), (6, [], []), (7, [], [])] (by kernel_rfl) ?_)) <;> simp [-map_take, -map_drop, -map_tail, rgs, hpre]) | ((with_reducible refine condS_split ?_ ?_) <;> intro qb <;> (have qp := qb; try simp only [psq] at qp) <;> simp [-map_take, -map_drop, -map_tail, rgs, hpre, qb])
  refine app_mid (ws := xs.map afrC) (ys := (xs.map afrC).drop (i + 1)) rfl rfl (by decide) (by decide) ?r1 ?r2 ?r3 ?r4 ?r5 ?_
  case r1 => exact hpre
  case r2 =>
    simp [hpre, -map_drop]
    exact ⟨by omega, List.take_of_length_le (by simp)⟩
  case r3 => simp; omega
  case r4 => simp only [MLIM]; simp; omega
  case r5 =>
    simp only [List.all_eq_true]
    intro c hc x hx
    obtain ⟨y, _, rfl⟩ := List.mem_map.1 (List.mem_of_mem_drop hc)
    simp [afrC] at hx
    rcases hx with rfl | rfl | rfl | rfl | rfl <;> rfl
  try simp [-map_take, -map_drop, -map_tail, rgs, hpre]
  repeat' first | done | ((first | ((with_reducible show lenS _ _ _ _ _ _); refine lenS_slice rfl fun _ => ?_) | ((with_reducible show sliceS _ _ _ _ _ _ _ _); refine slice_to rfl omA omA ?_) | ((with_reducible show sliceS _ _ _ _ _ _ _ _); refine slice_from rfl omA omA ?_) | ((with_reducible show sliceS _ _ _ _ _ _ _ _); refine slice_mid rfl omA omA omA ?_) | ((with_reducible show sliceI _ _ _ _ _ _ _ _ _ _ _); refine sliceI_to rfl omA omA ?_) | ((with_reducible show sliceI _ _ _ _ _ _ _ _ _ _ _); refine sliceI_from rfl omA omA ?_) | ((with_reducible show sliceI _ _ _ _ _ _ _ _ _ _ _); refine sliceI_mid rfl omA omA omA ?_) | ((with_reducible show appS _ _ _ _ _ _ _ _); refine app_end rfl rfl (by decide) (by decide) (by (first | (simp [-map_take, -map_drop, -map_tail, rgs, hpre]; done) | (simp [-map_take, -map_drop, -map_tail, rgs, hpre]; rfl))) (by (first | (simp [-map_take, -map_drop, -map_tail, rgs, hpre]; done) | (simp [-map_take, -map_drop, -map_tail, rgs, hpre]; rfl))) (by (first | (simp; done) | (simp; omega))) (by (first | (simp only [MLIM, LIM] at *; simp; omega) | (simp only [MLIM]; simp; omega))) (by simp [iv, bv]) ?_) | (with_reducible refine go_draw (i := 5) [(0, [], []), (1, [], []), (2, [], []), (3, [], []), (4, [], []), (5, [], []), (6, [], []), (7, [], [])] (by kernel_rfl) ?_)) <;> simp [-map_take, -map_drop, -map_tail, rgs, hpre]) | ((with_reducible refine condS_split ?_ ?_) <;> intro qb <;> (have qp := qb; try simp only [psq] at qp) <;> simp [-map_take, -map_drop, -map_tail, rgs, hpre, qb])
  have hbd : bndA 0 (some (AV.int IntKind.i64 ((i : Int) + ((xs.length - (i + 1) : Nat) : Int)))) = some (xs.length - 1) := by
    simp only [bndA]; rw [if_pos (by omega)]; congr 1; omega
  have hrw : xs.length = (List.take i (List.map afrC xs) ++ (List.drop (i + 1) (List.map afrC xs) ++ List.drop (i + (xs.length - (i + 1))) (List.map afrC xs))).length := by simp; omega
  refine slice_far (l := xs.length - 1) (h := xs.length) rfl hbd (by simp [bndA]) (by omega) (upd_same ..) (by omega) ?_
  try simp [-map_take, -map_drop, -map_tail, rgs]
  repeat' first | done | ((first | ((with_reducible show lenS _ _ _ _ _ _); refine lenS_slice rfl fun _ => ?_) | ((with_reducible show sliceS _ _ _ _ _ _ _ _); refine slice_to rfl omA omA ?_) | ((with_reducible show sliceS _ _ _ _ _ _ _ _); refine slice_from rfl omA omA ?_) | ((with_reducible show sliceS _ _ _ _ _ _ _ _); refine slice_mid rfl omA omA omA ?_) | ((with_reducible show sliceI _ _ _ _ _ _ _ _ _ _ _); refine sliceI_to rfl omA omA ?_) | ((with_reducible show sliceI _ _ _ _ _ _ _ _ _ _ _); refine sliceI_from rfl omA omA ?_) | ((with_reducible show sliceI _ _ _ _ _ _ _ _ _ _ _); refine sliceI_mid rfl omA omA omA ?_) | ((with_reducible show appS _ _ _ _ _ _ _ _); refine app_end rfl rfl (by decide) (by decide) (by (first | (simp [-map_take, -map_drop, -map_tail, rgs]; done) | (simp [-map_take, -map_drop, -map_tail, rgs]; rfl))) (by (first | (simp [-map_take, -map_drop, -map_tail, rgs]; done) | (simp [-map_take, -map_drop, -map_tail, rgs]; rfl))) (by (first | (simp; done) | (simp; omega))) (by (first | (simp only [MLIM, LIM] at *; simp; omega) | (simp only [MLIM]; simp; omega))) (by simp [iv, bv]) ?_) | (with_reducible refine go_draw (i := 5) [(0, [], []), (1, [], []), (2, [], []), (3, [], []), (4, [], []), (5, [], []), (6, [], []), (7, [], [])] (by kernel_rfl) ?_)) <;> simp [-map_take, -map_drop, -map_tail, rgs]) | ((with_reducible refine condS_split ?_ ?_) <;> intro qb <;> (have qp := qb; try simp only [psq] at qp) <;> simp [-map_take, -map_drop, -map_tail, rgs, qb])
  refine ⟨_, rfl, _, upd_same .., rfl, by omega, by decide, ?_⟩
  try simp [-map_take, -map_drop, -map_tail, rgs]
  repeat' first | done | ((first | ((with_reducible show lenS _ _ _ _ _ _); refine lenS_slice rfl fun _ => ?_) | ((with_reducible show sliceS _ _ _ _ _ _ _ _); refine slice_to rfl omA omA ?_) | ((with_reducible show sliceS _ _ _ _ _ _ _ _); refine slice_from rfl omA omA ?_) | ((with_reducible show sliceS _ _ _ _ _ _ _ _); refine slice_mid rfl omA omA omA ?_) | ((with_reducible show sliceI _ _ _ _ _ _ _ _ _ _ _); refine sliceI_to rfl omA omA ?_) | ((with_reducible show sliceI _ _ _ _ _ _ _ _ _ _ _); refine sliceI_from rfl omA omA ?_) | ((with_reducible show sliceI _ _ _ _ _ _ _ _ _ _ _); refine sliceI_mid rfl omA omA omA ?_) | ((with_reducible show appS _ _ _ _ _ _ _ _); refine app_end rfl rfl (by decide) (by decide) (by (first | (simp [-map_take, -map_drop, -map_tail, rgs]; done) | (simp [-map_take, -map_drop, -map_tail, rgs]; rfl))) (by (first | (simp [-map_take, -map_drop, -map_tail, rgs]; done) | (simp [-map_take, -map_drop, -map_tail, rgs]; rfl))) (by (first | (simp; done) | (simp; omega))) (by (first | (simp only [MLIM, LIM] at *; simp; omega) | (simp only [MLIM]; simp; omega))) (by simp [iv, bv]) ?_) | (with_reducible refine go_draw (i := 5) [(0, [], []), (1, [], []), (2, [], []), (3, [], []), (4, [], []), (5, [], []), (6, [], []), (7, [], [])] (by kernel_rfl) ?_)) <;> simp [-map_take, -map_drop, -map_tail, rgs]) | ((with_reducible refine condS_split ?_ ?_) <;> intro qb <;> (have qp := qb; try simp only [psq] at qp) <;> simp [-map_take, -map_drop, -map_tail, rgs, qb])
  have hA : (List.take i (List.map afrC xs) ++ List.drop (i + 1) (List.map afrC xs)).length = xs.length - 1 := by simp; omega
  refine ⟨nx + 19, ⟨rfl, by rw [List.length_eraseIdx, if_pos hi]; omega⟩, by omega, by omega, ?_, fun j hj hne2 => ?_⟩
  · rw [if_pos rfl, ← List.append_assoc, List.take_append_of_le_length (by omega), List.take_of_length_le (by omega), List.eraseIdx_eq_take_drop_succ, List.map_append, List.map_take, List.map_drop]
  · rw [if_neg (by omega), if_neg (by omega), if_neg hne2]
end Go.AE.Try
end

section
/- Contracts of the reference's readers: slots, heaps, timers. -/
set_option maxRecDepth 8000
set_option maxHeartbeats 2000000
namespace Go.AE.Try
open Go.Proofs

end Go.AE.Try
end

section
/- Contracts of the reference's readers: heaps, timers, trees, events. -/
set_option maxRecDepth 8000
set_option maxHeartbeats 4000000
namespace Go.AE.Try
open Go.Proofs

end Go.AE.Try
end

section
/- Contracts of the reference's readers: chains, events, functions, tasks, groups. -/
set_option maxRecDepth 8000
set_option maxHeartbeats 4000000
namespace Go.AE.Try
open Go.Proofs

end Go.AE.Try
end

section
/- Contracts of the reference's readers: chains, events, functions, tasks, groups. -/
set_option maxRecDepth 8000
set_option maxHeartbeats 4000000
namespace Go.AE.Try
open Go.Proofs

end Go.AE.Try
end

section
/- Contracts of the reference's readers: chains, events, functions, tasks, groups. -/
set_option maxRecDepth 8000
set_option maxHeartbeats 4000000
namespace Go.AE.Try
open Go.Proofs

end Go.AE.Try
end

section
/- Contracts of the reference's readers: worlds. -/
set_option maxRecDepth 8000
set_option maxHeartbeats 4000000
namespace Go.AE.Try
open Go.Proofs

end Go.AE.Try
end

section
/- Contracts of the reference's readers: worlds. -/
set_option maxRecDepth 8000
set_option maxHeartbeats 4000000
namespace Go.AE.Try
open Go.Proofs

end Go.AE.Try
end

section
/- Contracts of the reference's copies. -/
set_option maxRecDepth 8000
set_option maxHeartbeats 4000000
namespace Go.AE.Try
open Go.Proofs

end Go.AE.Try
end

section
/- Contracts of the reference's copies as new rows. -/
set_option maxRecDepth 8000
set_option maxHeartbeats 4000000
namespace Go.AE.Try
open Go.Proofs

end Go.AE.Try
end

section
/- Contracts of the reference's copies of worlds as new rows. -/
set_option maxRecDepth 8000
set_option maxHeartbeats 4000000
namespace Go.AE.Try
open Go.Proofs
end Go.AE.Try
end

section
/- Contracts of the reference's readers: worlds. -/
set_option maxRecDepth 8000
set_option maxHeartbeats 4000000
namespace Go.AE.Try
open Go.Proofs

end Go.AE.Try
end

section
/- Contracts of the reference's readers: worlds. -/
set_option maxRecDepth 8000
set_option maxHeartbeats 4000000
namespace Go.AE.Try
open Go.Proofs

end Go.AE.Try
end

section
/- Contracts of the reference's readers: worlds. -/
set_option maxRecDepth 8000
set_option maxHeartbeats 4000000
namespace Go.AE.Try
open Go.Proofs

end Go.AE.Try
end

section
/- Contracts of the reference's requests. -/
set_option maxRecDepth 8000
set_option maxHeartbeats 4000000
namespace Go.AE.Try
open Go.Proofs
end Go.AE.Try
end

section
/- Contracts of the reference's functions that are started. -/
set_option maxRecDepth 8000
set_option maxHeartbeats 4000000
namespace Go.AE.Try
open Go.Proofs
end Go.AE.Try
end

section
/- Contracts of the laws' marks. -/
set_option maxRecDepth 8000
set_option maxHeartbeats 4000000
namespace Go.AE.Try
open Go.Proofs

end Go.AE.Try
end

section
/- Contracts of the laws' marks of programs and groups. -/
set_option maxRecDepth 8000
set_option maxHeartbeats 4000000
namespace Go.AE.Try
open Go.Proofs
end Go.AE.Try
end

section
/- Contracts of the laws' marks of groups. -/
set_option maxRecDepth 8000
set_option maxHeartbeats 4000000
namespace Go.AE.Try
open Go.Proofs
end Go.AE.Try
end

section
/- Contracts of the laws' marks of a world's parts. -/
set_option maxRecDepth 8000
set_option maxHeartbeats 4000000
namespace Go.AE.Try
open Go.Proofs





end Go.AE.Try
end

section
/- Contracts of the laws' readings of marks. -/
set_option maxRecDepth 8000
set_option maxHeartbeats 4000000
namespace Go.AE.Try
open Go.Proofs












end Go.AE.Try
end

section
/- Contracts of the laws' marks of a world. -/
set_option maxRecDepth 8000
set_option maxHeartbeats 4000000
namespace Go.AE.Try
open Go.Proofs
end Go.AE.Try
end

section
/- Contracts of the laws' readings of a marked world. -/
set_option maxRecDepth 8000
set_option maxHeartbeats 4000000
namespace Go.AE.Try
open Go.Proofs
end Go.AE.Try
end

section
/- Contracts of the laws' helpers: copies, comparisons, sizes. -/
set_option maxRecDepth 8000
set_option maxHeartbeats 2000000
namespace Go.AE.Try
open Go.Proofs





























































end Go.AE.Try
end

section
/- Contracts of the laws' helpers: worlds. -/
set_option maxRecDepth 8000
set_option maxHeartbeats 4000000
namespace Go.AE.Try
open Go.Proofs

end Go.AE.Try
end

section
/- Contracts of the laws' copies as new rows. -/
set_option maxRecDepth 8000
set_option maxHeartbeats 2000000
namespace Go.AE.Try
open Go.Proofs














end Go.AE.Try
end

section
/- Contracts of the laws' helpers: worlds. -/
set_option maxRecDepth 8000
set_option maxHeartbeats 4000000
namespace Go.AE.Try
open Go.Proofs





end Go.AE.Try
end

section
/- Contracts of the laws' copies of worlds as new rows. -/
set_option maxRecDepth 8000
set_option maxHeartbeats 2000000
namespace Go.AE.Try
open Go.Proofs
end Go.AE.Try
end

section
/- Contracts of the program's functions that are registered, in an object of their own. -/
set_option maxRecDepth 8000
set_option maxHeartbeats 4000000
namespace Go.AE.Try
open Go.Proofs
open List (map_take map_drop map_tail)
theorem m_removeA {A : Afs} {p ia ib ic i : Nat} (hi : i < A.list.length) (hl : A.list.length ≤ 1048576) (hsl : A.slots.used.length = A.slots.ages.length)
    (hr : canDrop A.slots (gt A.list (i : Int)).han = true → 0 ≤ (gt A.list (i : Int)).han.age ∧ (gt A.list (i : Int)).han.age < 1000000) : AC ctx.P 29 [.ptr p 0, .int .i64 i]
    (fun h _ => h p = some (.obj (afsR ia ib ic A)) ∧ AfO h ia ib ic A)
    (RemA p ia ib ic (canDrop A.slots (gt A.list (i : Int)).han) (goA A i)) := by
  refine AC.o okC Try.func29 rfl fun h nx hfr hnx hpre => ?_
  obtain ⟨o1, A1⟩ := hpre
  have hp : p < nx := hnx p (by rw [o1]; simp)
  have i1 : ia < nx := hnx ia (by rw [A1.r1]; simp)
  have i2 : ib < nx := hnx ib (by rw [A1.r2]; simp)
  have i3 : ic < nx := hnx ic (by rw [A1.r3]; simp)
  have npa : p ≠ ia := fun e => by have := A1.r1; rw [← e, o1] at this; cases this
  have npb : p ≠ ib := fun e => by have := A1.r2; rw [← e, o1] at this; cases this
  have npc : p ≠ ic := fun e => by have := A1.r3; rw [← e, o1] at this; cases this
  have n13 := A1.n13
  have n23 := A1.n23
  have t9 := A1.r3
  simp only [afsR] at o1
  have hgx : (A.list.map afrC)[i]? = some (afrC (gt A.list (i : Int))) := by rw [List.getElem?_map, ← Int.toNat_natCast i, gt_some (by omega) (by omega)]; simp
  obtain ⟨x, hx⟩ : ∃ x, x = gt A.list (i : Int) := ⟨_, rfl⟩
  rw [← hx] at hgx hr ⊢
  try simp [-map_take, -map_drop, -map_tail, rgs, o1, t9]
  repeat' first | done | ((first | ((with_reducible show iaddrS _ _ _ _ _ _ _); refine iaddr_map rfl omA omA ?_) | (((with_reducible show iaddrS _ _ _ _ (.ref _ _ _ _) _ _); refine iaddr_ref rfl (by omega) (by omega) ?_)) | (((with_reducible show loadE _ _ _ _ _ _ _ _); refine loadE_row hgx ?_)) | (with_reducible refine go_draw (i := 1) [(0, [], []), (1, [], []), (2, [], []), (3, [], []), (4, [], []), (5, [], []), (6, [], []), (7, [], []), (8, [], []), (9, [], []), (10, [], []), (11, [], []), (12, [], []), (13, [], [])] (by kernel_rfl) ?_)) <;> simp [-map_take, -map_drop, -map_tail, rgs, o1, t9]) | ((with_reducible refine condS_split ?_ ?_) <;> intro qb <;> (have qp := qb; try simp only [psq] at qp) <;> simp [-map_take, -map_drop, -map_tail, rgs, o1, t9, qb])
  rw [show List.take 2 (afrC x) = hanC x.han from rfl]
  refine call_ac (m_drop (ia := ia) (ib := ib) (s := A.slots) (x := x.han) A1.ne hsl hr) ⟨A1.r1, A1.r2⟩ ?_
  rintro r h1 n1 ⟨rfl, d1, d2, df⟩ hle1 hfr1
  dsimp only at df hle1
  have o2 := df p (by omega) npa npb
  rw [o1] at o2
  have t9' := (df ic (by omega) n13.symm n23.symm).trans t9
  by_cases hc : canDrop A.slots x.han = true
  · have ew : IntKind.i64.wrap ((i : Int) + 1) = (i : Int) + 1 := i64_ok (by omega)
    simp only [dropIf, hc, if_true] at d1 d2
    rw [hc]
    try simp [-map_take, -map_drop, -map_tail, rgs, hc, o2, t9', ew]
    repeat' first | done | ((first | ((with_reducible show iaddrS _ _ _ _ _ _ _); refine iaddr_map rfl omA omA ?_) | (with_reducible refine go_draw (i := 1) [(0, [], []), (1, [], []), (2, [], []), (3, [], []), (4, [], []), (5, [], []), (6, [], []), (7, [], []), (8, [], []), (9, [], []), (10, [], []), (11, [], []), (12, [], []), (13, [], [])] (by kernel_rfl) ?_)) <;> simp [-map_take, -map_drop, -map_tail, rgs, hc, o2, t9', ew]) | ((with_reducible refine condS_split ?_ ?_) <;> intro qb <;> (have qp := qb; try simp only [psq] at qp) <;> simp [-map_take, -map_drop, -map_tail, rgs, hc, o2, t9', ew, qb])
    refine call_ac (m_DeleteAfr hi hl) t9' ?_
    rintro r h2 n2 ⟨jd, rfl, hj1, hj2, hrow, hf⟩ hle2 hfr2
    dsimp only at hj1 hf hle2
    have o3 := hf p (by omega) npc
    rw [o2] at o3
    try simp [-map_take, -map_drop, -map_tail, rgs, o3]
    repeat' first | done | ((first | ((with_reducible show iaddrS _ _ _ _ _ _ _); refine iaddr_map rfl omA omA ?_) | (with_reducible refine go_draw (i := 1) [(0, [], []), (1, [], []), (2, [], []), (3, [], []), (4, [], []), (5, [], []), (6, [], []), (7, [], []), (8, [], []), (9, [], []), (10, [], []), (11, [], []), (12, [], []), (13, [], [])] (by kernel_rfl) ?_)) <;> simp [-map_take, -map_drop, -map_tail, rgs, o3]) | ((with_reducible refine condS_split ?_ ?_) <;> intro qb <;> (have qp := qb; try simp only [psq] at qp) <;> simp [-map_take, -map_drop, -map_tail, rgs, o3, qb])
    refine ⟨rfl, fun _ => ⟨jd, by omega, by omega, ?_, A1.ne, ?_, ?_, ?_⟩, (fun e => by cases e), fun j hj hjp ha hb hcc => ?_⟩
    · rw [upd_same]; simp [afsR, goA, dropS]
    · rw [upd_ne _ _ _ _ npa.symm, hf ia (by omega) n13, d1]; simp only [goA, ← hx]
    · rw [upd_ne _ _ _ _ npb.symm, hf ib (by omega) n23, d2]; simp only [goA, ← hx]
    · rw [upd_ne _ _ _ _ (by omega)]; exact hrow
    · rw [upd_ne _ _ _ _ hjp, hf j (by omega) hcc, df j (by omega) ha hb]
  · have hc2 : canDrop A.slots x.han = false := by simpa using hc
    simp only [dropIf, hc2, if_neg (by decide : ¬ (false = true))] at d1 d2
    rw [hc2]
    try simp [-map_take, -map_drop, -map_tail, rgs, hc2, o2, t9']
    repeat' first | done | ((first | ((with_reducible show iaddrS _ _ _ _ _ _ _); refine iaddr_map rfl omA omA ?_) | (with_reducible refine go_draw (i := 1) [(0, [], []), (1, [], []), (2, [], []), (3, [], []), (4, [], []), (5, [], []), (6, [], []), (7, [], []), (8, [], []), (9, [], []), (10, [], []), (11, [], []), (12, [], []), (13, [], [])] (by kernel_rfl) ?_)) <;> simp [-map_take, -map_drop, -map_tail, rgs, hc2, o2, t9']) | ((with_reducible refine condS_split ?_ ?_) <;> intro qb <;> (have qp := qb; try simp only [psq] at qp) <;> simp [-map_take, -map_drop, -map_tail, rgs, hc2, o2, t9', qb])
    have hsame : ∀ j, j < nx → h1 j = h j := fun j hj => by
      by_cases e7 : j = ia
      · rw [e7, d1]; exact A1.r1.symm
      · by_cases e8 : j = ib
        · rw [e8, d2]; exact A1.r2.symm
        · exact df j (by omega) e7 e8
    exact ⟨rfl, (fun e => by cases e), fun _ => hsame, fun j hj _ _ _ _ => hsame j hj⟩
theorem m_startB {A : Afs} {p ia ib ic : Nat} (hl : A.list.length ≤ 1048576) (hsl : A.slots.used.length = A.slots.ages.length)
    (hr : ∀ k : Nat, k < A.list.length → canDrop A.slots (gt A.list (k : Int)).han = true → 0 ≤ (gt A.list (k : Int)).han.age ∧ (gt A.list (k : Int)).han.age < 1000000) : AC ctx.P 17 [.ptr p 0]
    (fun h _ => h p = some (.obj (afsR ia ib ic A)) ∧ AfO h ia ib ic A)
    (StA p ia ib ic A) := by
  have hlim : A.list.length ≤ LIM := by simp only [LIM]; omega
  refine AC.o okC Try.func17 rfl fun h nx hfr hnx hpre => ?_
  obtain ⟨o1, A1⟩ := hpre
  have hp : p < nx := hnx p (by rw [o1]; simp)
  have i1 : ia < nx := hnx ia (by rw [A1.r1]; simp)
  have i2 : ib < nx := hnx ib (by rw [A1.r2]; simp)
  have i3 : ic < nx := hnx ic (by rw [A1.r3]; simp)
  have t9 := A1.r3
  have o0 := o1
  simp only [afsR] at o1
  have hp1 : (p = nx) = False := by simp only [eq_iff_iff, iff_false]; omega
  try simp [-map_take, -map_drop, -map_tail, rgs, o1, hp1]
  repeat' first | done | ((first | ((with_reducible show lenS _ _ _ _ _ _); refine lenS_slice rfl fun _ => ?_) | ((with_reducible show iaddrS _ _ _ _ _ _ _); refine iaddr_map rfl omA omA ?_)) <;> simp [-map_take, -map_drop, -map_tail, rgs, o1, hp1]) | ((first | (with_reducible refine guardS_split ?_ ?_) | (with_reducible refine condS_split ?_ ?_)) <;> intro qb <;> (have qp := qb; try simp only [psq] at qp) <;> simp [-map_take, -map_drop, -map_tail, rgs, o1, hp1, qb])
  refine go_upP (h0 := h) (nx0 := nx) [3, 4, 5, 11, 12, 13, 14, 15, 16, 17, 18, 19, 20, 21, 22, 23, 24] (A.list.length) (fun (i : Nat) a => [(11, .int .i64 i)]) (fun i (_ : Unit) h' n' => (∀ k : Nat, k < i → isGo A (gt A.list (k : Int)) = false) ∧ h' nx = some (.obj (afrC default)) ∧ nx < n') (()) (by simp) ?_ keepA (by omega) ?_
  · exact ⟨fun k hk => by omega, upd_same .., by omega⟩
  · intro i a tm h' n' hle hJ hE hn' next hnx
    try dsimp only at hJ
    have hK : KeepB nx h' h := KeepB.sub hE keepA (by omega)
    simp [-map_take, -map_drop, -map_tail]
    obtain ⟨hJ, z1, hn1⟩ := hJ
    have o2 := (hK p hp).trans o1
    have t9' := (hK ic i3).trans t9
    have k1 : ∀ k, (p = n' + k) = False := fun k => by simp only [eq_iff_iff, iff_false]; omega
    have k2 : ∀ k, (ic = n' + k) = False := fun k => by simp only [eq_iff_iff, iff_false]; omega
    have k3 : ∀ k, (nx = n' + k) = False := fun k => by simp only [eq_iff_iff, iff_false]; omega
    by_cases hlt : i < A.list.length
    · have hgx : (A.list.map afrC)[i]? = some (afrC (gt A.list (i : Int))) := by rw [List.getElem?_map, ← Int.toNat_natCast i, gt_some (by omega) (by omega)]; simp
      have hrem := m_removeA (p := p) (ia := ia) (ib := ib) (ic := ic) hlt hl hsl (hr i hlt)
      obtain ⟨x, hx⟩ : ∃ x, x = gt A.list (i : Int) := ⟨_, rfl⟩
      rw [← hx] at hgx hrem
      by_cases hq : x.queued = true
      · try simp [-map_take, -map_drop, -map_tail, rgs, o2, t9', hlt, hq, k1, k2, k3]
        repeat' first | done | ((first | ((with_reducible show lenS _ _ _ _ _ _); refine lenS_slice rfl fun _ => ?_) | ((with_reducible show iaddrS _ _ _ _ _ _ _); refine iaddr_map rfl omA omA ?_) | (((with_reducible show iaddrS _ _ _ _ (.ref _ _ _ _) _ _); refine iaddr_ref rfl (by omega) (by omega) ?_)) | (((with_reducible show loadE _ _ _ _ _ _ _ _); refine loadE_row hgx ?_))) <;> simp [-map_take, -map_drop, -map_tail, rgs, o2, t9', hlt, hq, k1, k2, k3]) | ((first | (with_reducible refine guardS_split ?_ ?_) | (with_reducible refine condS_split ?_ ?_)) <;> intro qb <;> (have qp := qb; try simp only [psq] at qp) <;> simp [-map_take, -map_drop, -map_tail, rgs, o2, t9', hlt, hq, k1, k2, k3, qb])
        have hkk : ∀ j, j < nx → upd (upd h' (n' + 4) (some (Ent.obj (afrC default)))) (n' + 4) (some (Ent.obj (afrC x))) j = h j := fun j hj => by rw [upd_ne _ _ _ _ (by omega), upd_ne _ _ _ _ (by omega)]; exact hK j hj
        refine call_ac hrem ⟨by dsimp only; rw [upd_ne _ _ _ _ (by omega), upd_ne _ _ _ _ (by omega), hK p hp]; exact o0, A1.keep (by dsimp only; rw [upd_ne _ _ _ _ (by omega), upd_ne _ _ _ _ (by omega), hK ia i1]) (by dsimp only; rw [upd_ne _ _ _ _ (by omega), upd_ne _ _ _ _ (by omega), hK ib i2]) (by dsimp only; rw [upd_ne _ _ _ _ (by omega), upd_ne _ _ _ _ (by omega), hK ic i3])⟩ ?_
        rintro r h2 n2 ⟨rfl, ht, hf, hfr2⟩ hle2 hfr3
        dsimp only at ht hf hfr2 hle2
        have x5 := hfr2 (n' + 4) (by omega) (by omega) (by omega) (by omega) (by omega)
        rw [upd_same] at x5
        have z2 := hfr2 nx (by omega) (by omega) (by omega) (by omega) (by omega)
        rw [upd_ne _ _ _ _ (by omega), upd_ne _ _ _ _ (by omega), z1] at z2
        by_cases hc : canDrop A.slots x.han = true
        · rw [hc] at ht ⊢
          have hgo : goAt A = some i := goAt_some hlt hJ (by simp [isGo, ← hx, hq, hc])
          try simp [-map_take, -map_drop, -map_tail, rgs, x5, z2, k3, afrC]
          repeat' first | done | ((first | ((with_reducible show lenS _ _ _ _ _ _); refine lenS_slice rfl fun _ => ?_) | ((with_reducible show iaddrS _ _ _ _ _ _ _); refine iaddr_map rfl omA omA ?_)) <;> simp [-map_take, -map_drop, -map_tail, rgs, x5, z2, k3, afrC]) | ((first | (with_reducible refine guardS_split ?_ ?_) | (with_reducible refine condS_split ?_ ?_)) <;> intro qb <;> (have qp := qb; try simp only [psq] at qp) <;> simp [-map_take, -map_drop, -map_tail, rgs, x5, z2, k3, afrC, qb])
          obtain ⟨id, i1', i2', o3, A3⟩ := ht rfl
          refine ⟨fun i' hi' => ?_, (fun hn => by rw [hgo] at hn; cases hn), fun j hj hjp ha hb hcc => ?_⟩
          · rw [hgo] at hi'
            cases hi'
            rw [← hx]
            exact ⟨rfl, id, by omega, by omega, by rw [upd_ne _ _ _ _ (by omega)]; exact o3, A3.keep (by rw [upd_ne _ _ _ _ (by omega)]) (by rw [upd_ne _ _ _ _ (by omega)]) (by rw [upd_ne _ _ _ _ (by omega)])⟩
          · rw [upd_ne _ _ _ _ (by omega), hfr2 j (by omega) hjp ha hb hcc, upd_ne _ _ _ _ (by omega), upd_ne _ _ _ _ (by omega)]
            exact hK j hj
        · have hc2 : canDrop A.slots x.han = false := by simpa using hc
          rw [hc2] at hf ⊢
          try simp [-map_take, -map_drop, -map_tail, rgs]
          repeat' first | done | ((first | ((with_reducible show lenS _ _ _ _ _ _); refine lenS_slice rfl fun _ => ?_) | ((with_reducible show iaddrS _ _ _ _ _ _ _); refine iaddr_map rfl omA omA ?_)) <;> simp [-map_take, -map_drop, -map_tail, rgs]) | ((first | (with_reducible refine guardS_split ?_ ?_) | (with_reducible refine condS_split ?_ ?_)) <;> intro qb <;> (have qp := qb; try simp only [psq] at qp) <;> simp [-map_take, -map_drop, -map_tail, rgs, qb])
          refine hnx.go () ?_ ?_ ?_ ?_ ?_ ?_
          · omega
          · simp [wrap_succ hlt hlim]
          · simp
          · intro j hj
            rw [hf rfl j (by omega), upd_ne _ _ _ _ (by omega), upd_ne _ _ _ _ (by omega)]
            exact hK j hj
          · first | omega | (simp; omega)
          try dsimp only
          refine ⟨fun k hk => ?_, z2, by omega⟩
          by_cases hk2 : k < i
          · exact hJ k hk2
          · obtain rfl : k = i := by omega
            simp [isGo, ← hx, hc2]
      · try simp [-map_take, -map_drop, -map_tail, rgs, o2, t9', hlt, hq, k1, k2, k3]
        repeat' first | done | ((first | ((with_reducible show lenS _ _ _ _ _ _); refine lenS_slice rfl fun _ => ?_) | ((with_reducible show iaddrS _ _ _ _ _ _ _); refine iaddr_map rfl omA omA ?_) | (((with_reducible show iaddrS _ _ _ _ (.ref _ _ _ _) _ _); refine iaddr_ref rfl (by omega) (by omega) ?_)) | (((with_reducible show loadE _ _ _ _ _ _ _ _); refine loadE_row hgx ?_))) <;> simp [-map_take, -map_drop, -map_tail, rgs, o2, t9', hlt, hq, k1, k2, k3]) | ((first | (with_reducible refine guardS_split ?_ ?_) | (with_reducible refine condS_split ?_ ?_)) <;> intro qb <;> (have qp := qb; try simp only [psq] at qp) <;> simp [-map_take, -map_drop, -map_tail, rgs, o2, t9', hlt, hq, k1, k2, k3, qb])
        refine hnx.go () ?_ ?_ ?_ ?_ ?_ ?_
        · omega
        · simp [wrap_succ hlt hlim]
        · simp
        · exact keepA
        · first | omega | (simp; omega)
        try dsimp only
        refine ⟨fun k hk => ?_, by simp [k3, z1], by omega⟩
        by_cases hk2 : k < i
        · exact hJ k hk2
        · obtain rfl : k = i := by omega
          simp [isGo, ← hx, hq]
    · have he : i = A.list.length := by omega
      try simp [-map_take, -map_drop, -map_tail, rgs, hlt, z1, k3]
      repeat' first | done | ((first | ((with_reducible show lenS _ _ _ _ _ _); refine lenS_slice rfl fun _ => ?_) | ((with_reducible show iaddrS _ _ _ _ _ _ _); refine iaddr_map rfl omA omA ?_)) <;> simp [-map_take, -map_drop, -map_tail, rgs, hlt, z1, k3]) | ((first | (with_reducible refine guardS_split ?_ ?_) | (with_reducible refine condS_split ?_ ?_)) <;> intro qb <;> (have qp := qb; try simp only [psq] at qp) <;> simp [-map_take, -map_drop, -map_tail, rgs, hlt, z1, k3, qb])
      subst he
      have hgo : goAt A = none := goAt_none hJ
      refine ⟨(fun i hi => by rw [hgo] at hi; cases hi), fun _ => ⟨rfl, ?_, A1.keep ?_ ?_ ?_⟩, fun j hj _ _ _ _ => ?_⟩
      · rw [upd_ne _ _ _ _ (by omega)]; exact hK p hp
      · rw [upd_ne _ _ _ _ (by omega)]; exact hK ia i1
      · rw [upd_ne _ _ _ _ (by omega)]; exact hK ib i2
      · rw [upd_ne _ _ _ _ (by omega)]; exact hK ic i3
      · rw [upd_ne _ _ _ _ (by omega)]; exact hK j hj
end Go.AE.Try
end

section
/- Contracts of the program's functions that are registered: taken, dropped, queued, called off, as calls of their own. -/
set_option maxRecDepth 8000
set_option maxHeartbeats 4000000
namespace Go.AE.Try
open Go.Proofs
open List (map_take map_drop map_tail)
theorem m_take {ia ib : Nat} {s : Slt} (hab : ia ≠ ib) (hsl : s.used.length = s.ages.length) (hl : s.ages.length ≤ 64) : AC ctx.P 30 [.agg [.ref ia 1 0 s.ages.length, .ref ib 1 0 s.used.length]]
    (fun h _ => h ia = some (.row 1 (s.ages.map iv)) ∧ h ib = some (.row 1 (s.used.map bv)))
    (fun h nx r h' nx' => (∀ i : Nat, takeAt s = some i → r = .tup [.agg (hanC (takeH s i)), .bool true] ∧ h' ib = some (.row 1 ((s.used.set i true).map bv))) ∧ (takeAt s = none → r = .tup [.agg (hanC default), .bool false] ∧ h' ib = h ib) ∧ ∀ j, j < nx → j ≠ ib → h' j = h j) := by
  have hlim : s.ages.length ≤ LIM := by simp only [LIM]; omega
  refine AC.o okC Try.func30 rfl fun h nx hfr hnx hpre => ?_
  obtain ⟨p1, p2⟩ := hpre
  have i1 : ia < nx := hnx ia (by rw [p1]; simp)
  have i2 : ib < nx := hnx ib (by rw [p2]; simp)
  have k5 : (nx + 1 = ib) = False := by simp only [eq_iff_iff, iff_false]; omega
  have k6 : (ib = nx + 1) = False := by simp only [eq_iff_iff, iff_false]; omega
  have hg1 : ∀ i : Nat, i < s.ages.length → (s.ages.map iv)[i]? = some (iv (gt s.ages (i : Int))) := fun i hi => by rw [List.getElem?_map, ← Int.toNat_natCast i, gt_some (by omega) (by omega)]; simp
  have hg2 : ∀ i : Nat, i < s.ages.length → (s.used.map bv)[i]? = some (bv (gt s.used (i : Int))) := fun i hi => by rw [List.getElem?_map, ← Int.toNat_natCast i, gt_some (by omega) (by omega)]; simp
  try simp [-map_take, -map_drop, -map_tail, rgs]
  repeat' first | done | ((first | ((with_reducible show lenS _ _ _ _ _ _); refine lenS_slice rfl fun _ => ?_) | ((with_reducible show iaddrS _ _ _ _ _ _ _); refine iaddr_map rfl omA omA ?_)) <;> simp [-map_take, -map_drop, -map_tail, rgs]) | ((first | (with_reducible refine guardS_split ?_ ?_) | (with_reducible refine condS_split ?_ ?_)) <;> intro qb <;> (have qp := qb; try simp only [psq] at qp) <;> simp [-map_take, -map_drop, -map_tail, rgs, qb])
  refine go_upP [3, 4, 5, 9, 10, 11, 12, 13, 14, 15, 16, 17, 18, 19, 20, 21, 22, 23, 24, 25, 26, 27, 28, 29, 30, 31] (s.ages.length) (fun (i : Nat) a => [(9, .int .i64 i)]) (fun i (_ : Unit) h' n' => ∀ k : Nat, k < i → freeAt s k = false) (()) (by simp) ?_ keep_rfl (Nat.le_refl _) ?_
  · exact fun k hk => by omega
  · intro i a tm h' n' hle hJ hE hn' next hnx
    try dsimp only at hJ
    have hK : KeepB nx h' h := KeepB.sub hE keepA (by omega)
    simp [-map_take, -map_drop, -map_tail]
    have e0 : h' (nx) = some (.obj [.ref ia 1 0 s.ages.length, .ref ib 1 0 s.used.length]) := by have := hE (nx) (by omega); simpa using this
    have e0n : ∀ k, ((nx) = n' + k) = False := fun k => by simp only [eq_iff_iff, iff_false]; omega
    have e0m : ((nx) = n') = False := by simp only [eq_iff_iff, iff_false]; omega
    have e1 : h' (nx + 1) = some (.obj [.int .i64 0, .int .i64 0]) := by have := hE (nx + 1) (by omega); simpa using this
    have e1n : ∀ k, ((nx + 1) = n' + k) = False := fun k => by simp only [eq_iff_iff, iff_false]; omega
    have e1m : ((nx + 1) = n') = False := by simp only [eq_iff_iff, iff_false]; omega
    have q1 := (hK ia i1).trans p1
    have q2 := (hK ib i2).trans p2
    have k1 : ∀ k, (ia = n' + k) = False := fun k => by simp only [eq_iff_iff, iff_false]; omega
    have k2 : ∀ k, (ib = n' + k) = False := fun k => by simp only [eq_iff_iff, iff_false]; omega
    by_cases hi : i < s.ages.length
    · have c1 := hg1 i hi
      have c2 := hg2 i hi
      cases hu : gt s.used (i : Int) with
      | true =>
        have hf : freeAt s i = false := by simp [freeAt, hu]
        try simp [-map_take, -map_drop, -map_tail, rgs, e0, e0n, e0m, e1, e1n, e1m, q1, q2, hi, hu, k1, k2, iv, bv]
        repeat' first | done | ((first | ((with_reducible show lenS _ _ _ _ _ _); refine lenS_slice rfl fun _ => ?_) | ((with_reducible show iaddrS _ _ _ _ _ _ _); refine iaddr_map rfl omA omA ?_) | (((with_reducible show iaddrS _ _ _ _ (.ref _ _ _ _) _ _); refine iaddr_ref rfl (by omega) (by omega) ?_)) | (((with_reducible show loadE _ _ _ _ _ _ _ _); refine loadE_row (by first | exact c1 | exact c2) ?_))) <;> simp [-map_take, -map_drop, -map_tail, rgs, e0, e0n, e0m, e1, e1n, e1m, q1, q2, hi, hu, k1, k2, iv, bv]) | ((first | (with_reducible refine guardS_split ?_ ?_) | (with_reducible refine condS_split ?_ ?_)) <;> intro qb <;> (have qp := qb; try simp only [psq] at qp) <;> simp [-map_take, -map_drop, -map_tail, rgs, e0, e0n, e0m, e1, e1n, e1m, q1, q2, hi, hu, k1, k2, iv, bv, qb])
        refine hnx.go () (by omega) (by simp [wrap_succ hi hlim]) (by simp) keepA (by first | omega | (simp; omega)) ?_
        exact snoc_no hJ hf
      | false =>
        cases ha : (gt s.ages (i : Int) != 1000000) with
        | true =>
          have hf : freeAt s i = true := by simp [freeAt, hu, ha]
          try simp [-map_take, -map_drop, -map_tail, rgs, e0, e0n, e0m, e1, e1n, e1m, q1, q2, hi, hu, ha, k1, k2, iv, bv]
          repeat' first | done | ((first | ((with_reducible show lenS _ _ _ _ _ _); refine lenS_slice rfl fun _ => ?_) | ((with_reducible show iaddrS _ _ _ _ _ _ _); refine iaddr_map rfl omA omA ?_) | (((with_reducible show iaddrS _ _ _ _ (.ref _ _ _ _) _ _); refine iaddr_ref rfl (by omega) (by omega) ?_)) | (((with_reducible show loadE _ _ _ _ _ _ _ _); refine loadE_row (by first | exact c1 | exact c2) ?_))) <;> simp [-map_take, -map_drop, -map_tail, rgs, e0, e0n, e0m, e1, e1n, e1m, q1, q2, hi, hu, ha, k1, k2, iv, bv]) | ((first | (with_reducible refine guardS_split ?_ ?_) | (with_reducible refine condS_split ?_ ?_)) <;> intro qb <;> (have qp := qb; try simp only [psq] at qp) <;> simp [-map_take, -map_drop, -map_tail, rgs, e0, e0n, e0m, e1, e1n, e1m, q1, q2, hi, hu, ha, k1, k2, iv, bv, qb])
          have hti := takeAt_some hi hJ hf
          refine storeE_at (sz := 1) (xs := s.used.map bv) (cells := bv (gt s.used (i : Int))) q2 (by simp) rfl (by decide) c2 ?_
          rw [show (s.used.map bv).set i (splice (bv (gt s.used (i : Int))) 0 [.bool true]) = (s.used.set i true).map bv by rw [List.map_set]; rfl]
          try simp [-map_take, -map_drop, -map_tail, rgs, e0, e0n, e0m, e1, e1n, e1m, q1, q2, hi, hu, ha, k1, k2, k5, k6, iv, bv]
          repeat' first | done | ((first | ((with_reducible show lenS _ _ _ _ _ _); refine lenS_slice rfl fun _ => ?_) | ((with_reducible show iaddrS _ _ _ _ _ _ _); refine iaddr_map rfl omA omA ?_)) <;> simp [-map_take, -map_drop, -map_tail, rgs, e0, e0n, e0m, e1, e1n, e1m, q1, q2, hi, hu, ha, k1, k2, k5, k6, iv, bv]) | ((first | (with_reducible refine guardS_split ?_ ?_) | (with_reducible refine condS_split ?_ ?_)) <;> intro qb <;> (have qp := qb; try simp only [psq] at qp) <;> simp [-map_take, -map_drop, -map_tail, rgs, e0, e0n, e0m, e1, e1n, e1m, q1, q2, hi, hu, ha, k1, k2, k5, k6, iv, bv, qb])
          rw [hti]
          refine ⟨fun m hm => by cases hm; exact ⟨rfl, rfl⟩, by simp, fun j hj hjb => ?_⟩
          rw [if_neg (by omega), if_neg hjb]; exact hK j hj
        | false =>
          have hf : freeAt s i = false := by simp [freeAt, hu, ha]
          try simp [-map_take, -map_drop, -map_tail, rgs, e0, e0n, e0m, e1, e1n, e1m, q1, q2, hi, hu, ha, k1, k2, iv, bv]
          repeat' first | done | ((first | ((with_reducible show lenS _ _ _ _ _ _); refine lenS_slice rfl fun _ => ?_) | ((with_reducible show iaddrS _ _ _ _ _ _ _); refine iaddr_map rfl omA omA ?_) | (((with_reducible show iaddrS _ _ _ _ (.ref _ _ _ _) _ _); refine iaddr_ref rfl (by omega) (by omega) ?_)) | (((with_reducible show loadE _ _ _ _ _ _ _ _); refine loadE_row (by first | exact c1 | exact c2) ?_))) <;> simp [-map_take, -map_drop, -map_tail, rgs, e0, e0n, e0m, e1, e1n, e1m, q1, q2, hi, hu, ha, k1, k2, iv, bv]) | ((first | (with_reducible refine guardS_split ?_ ?_) | (with_reducible refine condS_split ?_ ?_)) <;> intro qb <;> (have qp := qb; try simp only [psq] at qp) <;> simp [-map_take, -map_drop, -map_tail, rgs, e0, e0n, e0m, e1, e1n, e1m, q1, q2, hi, hu, ha, k1, k2, iv, bv, qb])
          refine hnx.go () (by omega) (by simp [wrap_succ hi hlim]) (by simp) keepA (by first | omega | (simp; omega)) ?_
          exact snoc_no hJ hf
    · have hi2 : ¬ ((i : Int) < s.ages.length) := by omega
      have hno : takeAt s = none := takeAt_none fun k hk => hJ k (by omega)
      try simp [-map_take, -map_drop, -map_tail, rgs, e0, e0n, e0m, e1, e1n, e1m, q1, q2, hi, hi2, k1, k2, iv, bv]
      repeat' first | done | ((first | ((with_reducible show lenS _ _ _ _ _ _); refine lenS_slice rfl fun _ => ?_) | ((with_reducible show iaddrS _ _ _ _ _ _ _); refine iaddr_map rfl omA omA ?_)) <;> simp [-map_take, -map_drop, -map_tail, rgs, e0, e0n, e0m, e1, e1n, e1m, q1, q2, hi, hi2, k1, k2, iv, bv]) | ((first | (with_reducible refine guardS_split ?_ ?_) | (with_reducible refine condS_split ?_ ?_)) <;> intro qb <;> (have qp := qb; try simp only [psq] at qp) <;> simp [-map_take, -map_drop, -map_tail, rgs, e0, e0n, e0m, e1, e1n, e1m, q1, q2, hi, hi2, k1, k2, iv, bv, qb])
      refine ⟨(fun m hm => by rw [hno] at hm; cases hm), (fun _ => ⟨rfl, by rw [if_neg (by omega), p2]⟩), fun j hj hjb => ?_⟩
      rw [if_neg (by omega)]; exact hK j hj
theorem m_register {A : Afs} {p ia ib ic : Nat} {node fn : Int} (hs : afsOk A = true) (hf : isAfter node fn = true) : AC ctx.P 19 [.ptr p 0, .int .i64 node, .int .i64 fn]
    (fun h _ => h p = some (.obj (afsR ia ib ic A)) ∧ AfO h ia ib ic A)
    (fun h nx r h' nx' => r = .tup [.agg (hanC (regH A)), .bool (regB A)] ∧ AfQ p ia ib ic (regA A node fn) nx h' nx' ∧ ∀ j, j < nx → j ≠ p → j ≠ ib → j ≠ ic → h' j = h j) := by
  obtain ⟨a1, a2, a3⟩ := afs_facts hs
  have hsl : A.slots.ages.length ≤ 64 := by
    have := (afsOk_iff.1 hs).1
    simp only [sltOk, Bool.and_eq_true, inR, decide_eq_true_eq] at this
    omega
  refine AC.o okC Try.func19 rfl fun h nx hfr hnx hpre => ?_
  obtain ⟨o1, A1⟩ := hpre
  have hp : p < nx := hnx p (by rw [o1]; simp)
  have i1 : ia < nx := hnx ia (by rw [A1.r1]; simp)
  have i2 : ib < nx := hnx ib (by rw [A1.r2]; simp)
  have i3 : ic < nx := hnx ic (by rw [A1.r3]; simp)
  have npa : p ≠ ia := fun e => by have := A1.r1; rw [← e, o1] at this; cases this
  have npb : p ≠ ib := fun e => by have := A1.r2; rw [← e, o1] at this; cases this
  have npc : p ≠ ic := fun e => by have := A1.r3; rw [← e, o1] at this; cases this
  have n13 := A1.n13
  have n23 := A1.n23
  have t9 := A1.r3
  simp only [afsR] at o1
  have k1 : ∀ k, (p = nx + k) = False := fun k => by simp only [eq_iff_iff, iff_false]; omega
  have k2 : (p = nx) = False := by simp only [eq_iff_iff, iff_false]; omega
  try simp [-map_take, -map_drop, -map_tail, rgs, o1, hf, k1, k2]
  repeat' first | done | ((first | ((with_reducible show doCall _ _ _ 23 _ _); refine call_pc (c_isAfter) ?_) | ((with_reducible show appS _ _ _ _ _ _ _ _); refine app_end rfl rfl (by decide) (by decide) (by (first | (simp [-map_take, -map_drop, -map_tail, rgs, o1, hf, k1, k2]; done) | (simp [-map_take, -map_drop, -map_tail, rgs, o1, hf, k1, k2]; rfl))) (by (first | (simp [-map_take, -map_drop, -map_tail, rgs, o1, hf, k1, k2]; done) | (simp [-map_take, -map_drop, -map_tail, rgs, o1, hf, k1, k2]; rfl))) (by (first | (simp; done) | (simp; omega))) (by (first | (simp only [MLIM, LIM] at *; simp; omega) | (simp only [MLIM]; simp; omega))) (by simp [iv, bv]) ?_) | (with_reducible refine go_draw (i := 5) [(0, [], []), (1, [], []), (2, [], []), (3, [], []), (4, [], [9]), (5, [], []), (6, [], []), (7, [], []), (8, [], []), (9, [], []), (10, [], []), (11, [], []), (12, [], []), (13, [], [])] (by kernel_rfl) ?_)) <;> simp [-map_take, -map_drop, -map_tail, rgs, o1, hf, k1, k2]) | ((with_reducible refine condS_split ?_ ?_) <;> intro qb <;> (have qp := qb; try simp only [psq] at qp) <;> simp [-map_take, -map_drop, -map_tail, rgs, o1, hf, k1, k2, qb])
  refine call_ac (m_take (ia := ia) (ib := ib) (s := A.slots) A1.ne a1 hsl) ⟨?_, ?_⟩ ?_
  · dsimp only
    repeat rw [upd_ne _ _ _ _ (by omega)]
    exact A1.r1
  · dsimp only
    repeat rw [upd_ne _ _ _ _ (by omega)]
    exact A1.r2
  rintro r h1 n1 ⟨q1, q2, q3⟩ hle1 hfr1
  dsimp only at q1 q2 q3 hle1
  have o2 := q3 p (by omega) npb
  rw [upd_ne _ _ _ _ (by omega), o1] at o2
  have t8 := q3 ic (by omega) n23.symm
  rw [upd_ne _ _ _ _ (by omega), t9] at t8
  have l1 : ∀ k, (ic = nx + k) = False := fun k => by simp only [eq_iff_iff, iff_false]; omega
  have l2 : (ic = nx) = False := by simp only [eq_iff_iff, iff_false]; omega
  have l3 : (p = ic) = False := by simp only [eq_iff_iff, iff_false]; exact npc
  have l4 : (ic = p) = False := by simp only [eq_iff_iff, iff_false]; exact npc.symm
  have l5 : ∀ k, (n1 + k = p) = False := fun k => by simp only [eq_iff_iff, iff_false]; omega
  have l6 : ∀ m, (nx + 14 = n1 + m) = False := fun m => by simp only [eq_iff_iff, iff_false]; omega
  have l7 : ∀ k, (nx + k = p) = False := fun k => by simp only [eq_iff_iff, iff_false]; omega
  have l8 : ∀ k, (nx + k = ic) = False := fun k => by simp only [eq_iff_iff, iff_false]; omega
  have l9 : (nx = p) = False := by simp only [eq_iff_iff, iff_false]; omega
  have l0 : (nx = ic) = False := by simp only [eq_iff_iff, iff_false]; omega
  have z0 := q3 nx (by omega) (by omega)
  rw [upd_same] at z0
  have r1 := (q3 ia (by omega) A1.ne).trans ((upd_ne _ _ _ _ (by omega)).trans A1.r1)
  have j1 : ∀ k, (p = n1 + k) = False := fun k => by simp only [eq_iff_iff, iff_false]; omega
  have j2 : ∀ k, (nx = n1 + k) = False := fun k => by simp only [eq_iff_iff, iff_false]; omega
  have j3 : ∀ k, (ic = n1 + k) = False := fun k => by simp only [eq_iff_iff, iff_false]; omega
  cases ht : takeAt A.slots with
  | some i =>
    obtain ⟨rfl, r2⟩ := q1 i ht
    have e1 : regA A node fn = ⟨takeS A.slots i, A.list ++ [⟨takeH A.slots i, node, fn, false⟩]⟩ := by simp [regA, ht]
    have e2 : regH A = takeH A.slots i := by simp [regH, ht]
    have e3 : regB A = true := by simp [regB, ht]
    rw [e1, e2, e3]
    try simp [-map_take, -map_drop, -map_tail, rgs, o2, t8, z0, j1, j2, j3, k1, k2, l1, l2, l3, l4, l5, l6, l7, l8, l9, l0, hanC]
    repeat' first | done | ((first | ((with_reducible show appS _ _ _ _ _ _ _ _); refine app_end rfl rfl (by decide) (by decide) (by (first | (simp [-map_take, -map_drop, -map_tail, rgs, o2, t8, z0, j1, j2, j3, k1, k2, l1, l2, l3, l4, l5, l6, l7, l8, l9, l0, hanC]; done) | (simp [-map_take, -map_drop, -map_tail, rgs, o2, t8, z0, j1, j2, j3, k1, k2, l1, l2, l3, l4, l5, l6, l7, l8, l9, l0, hanC]; rfl))) (by (first | (simp [-map_take, -map_drop, -map_tail, rgs, o2, t8, z0, j1, j2, j3, k1, k2, l1, l2, l3, l4, l5, l6, l7, l8, l9, l0, hanC]; done) | (simp [-map_take, -map_drop, -map_tail, rgs, o2, t8, z0, j1, j2, j3, k1, k2, l1, l2, l3, l4, l5, l6, l7, l8, l9, l0, hanC]; rfl))) (by (first | (simp; done) | (simp; omega))) (by (first | (simp only [MLIM, LIM] at *; simp; omega) | (simp only [MLIM]; simp; omega))) (by simp [iv, bv]) ?_) | (with_reducible refine go_draw (i := 5) [(0, [], []), (1, [], []), (2, [], []), (3, [], []), (4, [], [9]), (5, [], []), (6, [], []), (7, [], []), (8, [], []), (9, [], []), (10, [], []), (11, [], []), (12, [], []), (13, [], [])] (by kernel_rfl) ?_)) <;> simp [-map_take, -map_drop, -map_tail, rgs, o2, t8, z0, j1, j2, j3, k1, k2, l1, l2, l3, l4, l5, l6, l7, l8, l9, l0, hanC]) | ((with_reducible refine condS_split ?_ ?_) <;> intro qb <;> (have qp := qb; try simp only [psq] at qp) <;> simp [-map_take, -map_drop, -map_tail, rgs, o2, t8, z0, j1, j2, j3, k1, k2, l1, l2, l3, l4, l5, l6, l7, l8, l9, l0, hanC, qb])
    refine ⟨⟨n1 + 11, .inr (by omega), by omega, ?_, A1.ne, ?_, ?_, ?_⟩, fun j hj hjp hjb hjc => ?_⟩
    · rw [upd_ne _ _ _ _ (by omega), upd_same]; simp [afsR, takeS]
    · repeat rw [upd_ne _ _ _ _ (by omega)]
      exact r1
    · repeat rw [upd_ne _ _ _ _ (by omega)]
      exact r2
    · rw [upd_ne _ _ _ _ (by omega), upd_ne _ _ _ _ (by omega), upd_same]; simp [afrC]
    · rw [if_neg (by omega), if_neg hjp, if_neg (by omega), if_neg hjc, if_neg (by omega), if_neg (by omega), if_neg (by omega), q3 j (by omega) hjb, upd_ne _ _ _ _ (by omega)]
  | none =>
    obtain ⟨rfl, r2⟩ := q2 ht
    have e1 : regA A node fn = A := by simp [regA, ht]
    have e2 : regH A = default := by simp [regH, ht]
    have e3 : regB A = false := by simp [regB, ht]
    rw [e1, e2, e3]
    try simp [-map_take, -map_drop, -map_tail, rgs, o2, t8, z0, j1, j2, j3, k1, k2, l1, l2, hanC]
    repeat' first | done | ((first | ((with_reducible show appS _ _ _ _ _ _ _ _); refine app_end rfl rfl (by decide) (by decide) (by (first | (simp [-map_take, -map_drop, -map_tail, rgs, o2, t8, z0, j1, j2, j3, k1, k2, l1, l2, hanC]; done) | (simp [-map_take, -map_drop, -map_tail, rgs, o2, t8, z0, j1, j2, j3, k1, k2, l1, l2, hanC]; rfl))) (by (first | (simp [-map_take, -map_drop, -map_tail, rgs, o2, t8, z0, j1, j2, j3, k1, k2, l1, l2, hanC]; done) | (simp [-map_take, -map_drop, -map_tail, rgs, o2, t8, z0, j1, j2, j3, k1, k2, l1, l2, hanC]; rfl))) (by (first | (simp; done) | (simp; omega))) (by (first | (simp only [MLIM, LIM] at *; simp; omega) | (simp only [MLIM]; simp; omega))) (by simp [iv, bv]) ?_) | (with_reducible refine go_draw (i := 5) [(0, [], []), (1, [], []), (2, [], []), (3, [], []), (4, [], [9]), (5, [], []), (6, [], []), (7, [], []), (8, [], []), (9, [], []), (10, [], []), (11, [], []), (12, [], []), (13, [], [])] (by kernel_rfl) ?_)) <;> simp [-map_take, -map_drop, -map_tail, rgs, o2, t8, z0, j1, j2, j3, k1, k2, l1, l2, hanC]) | ((with_reducible refine condS_split ?_ ?_) <;> intro qb <;> (have qp := qb; try simp only [psq] at qp) <;> simp [-map_take, -map_drop, -map_tail, rgs, o2, t8, z0, j1, j2, j3, k1, k2, l1, l2, hanC, qb])
    refine ⟨⟨ic, .inl rfl, by omega, ?_, A1.ne, ?_, ?_, ?_⟩, fun j hj hjp hjb hjc => ?_⟩
    · repeat rw [upd_ne _ _ _ _ (by omega)]
      exact o2
    · repeat rw [upd_ne _ _ _ _ (by omega)]
      exact r1
    · repeat rw [upd_ne _ _ _ _ (by omega)]
      rw [r2, upd_ne _ _ _ _ (by omega)]; exact A1.r2
    · repeat rw [upd_ne _ _ _ _ (by omega)]
      exact t8
    · rw [if_neg (by omega), if_neg (by omega), if_neg (by omega), q3 j (by omega) hjb, upd_ne _ _ _ _ (by omega)]
theorem m_callOff {A : Afs} {p ia ib ic : Nat} {x : Han} (hs : afsOk A = true) (hc : ∀ k : Nat, k < A.list.length → canDrop A.slots (gt A.list (k : Int)).han = true) : AC ctx.P 18 [.ptr p 0, .agg (hanC x)]
    (fun h _ => h p = some (.obj (afsR ia ib ic A)) ∧ AfO h ia ib ic A)
    (fun h nx r h' nx' => r = .bool (offB A x) ∧ AfQ p ia ib ic (offA A x) nx h' nx' ∧ ∀ j, j < nx → j ≠ p → j ≠ ia → j ≠ ib → j ≠ ic → h' j = h j) := by
  obtain ⟨a1, a2, a3⟩ := afs_facts hs
  have hll : A.list.length ≤ LIM := by simp only [LIM]; omega
  have hc' : 0 ≤ afsAt A.list x → afsAt A.list x < A.list.length → canDrop A.slots (gt A.list (afsAt A.list x)).han = true := fun h1 h2 => by
    have := hc (afsAt A.list x).toNat (by omega)
    rwa [Int.toNat_of_nonneg h1] at this
  refine AC.o okC Try.func18 rfl fun h nx hfr hnx hpre => ?_
  obtain ⟨o1, A1⟩ := hpre
  have hp : p < nx := hnx p (by rw [o1]; simp)
  have i1 : ia < nx := hnx ia (by rw [A1.r1]; simp)
  have i2 : ib < nx := hnx ib (by rw [A1.r2]; simp)
  have i3 : ic < nx := hnx ic (by rw [A1.r3]; simp)
  have npa : p ≠ ia := fun e => by have := A1.r1; rw [← e, o1] at this; cases this
  have npb : p ≠ ib := fun e => by have := A1.r2; rw [← e, o1] at this; cases this
  have npc : p ≠ ic := fun e => by have := A1.r3; rw [← e, o1] at this; cases this
  have n13 := A1.n13
  have n23 := A1.n23
  have t9 := A1.r3
  have o0 := o1
  simp only [afsR] at o1
  have k1 : ∀ k, (p = nx + k) = False := fun k => by simp only [eq_iff_iff, iff_false]; omega
  have k2 : (p = nx) = False := by simp only [eq_iff_iff, iff_false]; omega
  have k3 : ∀ k, (ic = nx + k) = False := fun k => by simp only [eq_iff_iff, iff_false]; omega
  have k4 : (ic = nx) = False := by simp only [eq_iff_iff, iff_false]; omega
  have k5 : ∀ k, (ib = nx + k) = False := fun k => by simp only [eq_iff_iff, iff_false]; omega
  have k6 : (ib = nx) = False := by simp only [eq_iff_iff, iff_false]; omega
  have k7 : ∀ k, (ia = nx + k) = False := fun k => by simp only [eq_iff_iff, iff_false]; omega
  have k8 : (ia = nx) = False := by simp only [eq_iff_iff, iff_false]; omega
  try simp [-map_take, -map_drop, -map_tail, rgs, o1, k1, k2, hanC]
  repeat' first | done | ((first | ((with_reducible show iaddrS _ _ _ _ _ _ _); refine iaddr_map rfl omA omA ?_) | (with_reducible refine go_draw (i := 1) [(0, [], []), (1, [], []), (2, [], []), (3, [], []), (4, [], []), (5, [], [])] (by kernel_rfl) ?_)) <;> simp [-map_take, -map_drop, -map_tail, rgs, o1, k1, k2, hanC]) | ((with_reducible refine guardS_split ?_ ?_) <;> intro qb <;> (have qp := qb; try simp only [psq] at qp) <;> simp [-map_take, -map_drop, -map_tail, rgs, o1, k1, k2, hanC, qb])
  refine call_pcB (c_afsAt (F := FF) (a := A) (x := x)) (.int _ _) ?hb ?_
  case hb => exact .cons (.agg1 (.cons (.ref0 (by simpa [k7, k8] using A1.r1) (by simp) (by simp)) (.cons (.ref0 (by simpa [k5, k6] using A1.r2) (by simp) (by simp)) (.cons (.ref0 (by simpa [k3, k4] using t9) (by simp) (by simp)) .nil)))) (.cons (.same _) .nil)
  by_cases hat : 0 ≤ afsAt A.list x
  · have hlt : afsAt A.list x < A.list.length := idxI_lt _ _
    have hgx : (A.list.map afrC)[(afsAt A.list x).toNat]? = some (afrC (gt A.list (afsAt A.list x))) := by rw [List.getElem?_map, gt_some hat hlt]; rfl
    have hrem := m_removeA (A := A) (p := p) (ia := ia) (ib := ib) (ic := ic) (i := (afsAt A.list x).toNat) (by omega) (by omega) a1 (a3 _ (by omega))
    rw [Int.toNat_of_nonneg hat, hc' hat hlt] at hrem
    have hof : offB A x = !(gt A.list (afsAt A.list x)).queued := by simp [offB, hat]
    cases hq : (gt A.list (afsAt A.list x)).queued with
    | true =>
      have e1 : offB A x = false := by rw [hof, hq]; rfl
      have e2 : offA A x = A := by simp [offA, e1]
      rw [e1, e2]
      try simp [-map_take, -map_drop, -map_tail, rgs, o1, t9, k1, k2, k3, k4, hat, hlt, hq, afrC]
      repeat' first | done | ((first | ((with_reducible show iaddrS _ _ _ _ _ _ _); refine iaddr_map rfl omA omA ?_) | (((with_reducible show iaddrS _ _ _ _ (.ref _ _ _ _) _ _); refine iaddr_ref rfl (by omega) (by omega) ?_)) | (((with_reducible show loadE _ _ _ _ _ _ _ _); refine loadE_row hgx ?_)) | (with_reducible refine go_draw (i := 1) [(0, [], []), (1, [], []), (2, [], []), (3, [], []), (4, [], []), (5, [], [])] (by kernel_rfl) ?_)) <;> simp [-map_take, -map_drop, -map_tail, rgs, o1, t9, k1, k2, k3, k4, hat, hlt, hq, afrC]) | ((with_reducible refine guardS_split ?_ ?_) <;> intro qb <;> (have qp := qb; try simp only [psq] at qp) <;> simp [-map_take, -map_drop, -map_tail, rgs, o1, t9, k1, k2, k3, k4, hat, hlt, hq, afrC, qb])
      refine ⟨⟨ic, .inl rfl, by omega, by rw [upd_ne _ _ _ _ (by omega)]; exact o0, A1.keep (by rw [upd_ne _ _ _ _ (by omega)]) (by rw [upd_ne _ _ _ _ (by omega)]) (by rw [upd_ne _ _ _ _ (by omega)])⟩, fun j hj _ _ _ _ e => by omega⟩
    | false =>
      have e1 : offB A x = true := by rw [hof, hq]; rfl
      have e2 : offA A x = goA A (afsAt A.list x).toNat := by simp [offA, e1]
      rw [e1, e2]
      try simp [-map_take, -map_drop, -map_tail, rgs, o1, t9, k1, k2, k3, k4, hat, hlt, hq, afrC]
      repeat' first | done | ((first | ((with_reducible show iaddrS _ _ _ _ _ _ _); refine iaddr_map rfl omA omA ?_) | (((with_reducible show iaddrS _ _ _ _ (.ref _ _ _ _) _ _); refine iaddr_ref rfl (by omega) (by omega) ?_)) | (((with_reducible show loadE _ _ _ _ _ _ _ _); refine loadE_row hgx ?_)) | (with_reducible refine go_draw (i := 1) [(0, [], []), (1, [], []), (2, [], []), (3, [], []), (4, [], []), (5, [], [])] (by kernel_rfl) ?_)) <;> simp [-map_take, -map_drop, -map_tail, rgs, o1, t9, k1, k2, k3, k4, hat, hlt, hq, afrC]) | ((with_reducible refine guardS_split ?_ ?_) <;> intro qb <;> (have qp := qb; try simp only [psq] at qp) <;> simp [-map_take, -map_drop, -map_tail, rgs, o1, t9, k1, k2, k3, k4, hat, hlt, hq, afrC, qb])
      refine call_ac hrem ⟨by dsimp only; rw [upd_ne _ _ _ _ (by omega)]; exact o0, A1.keep (by dsimp only; rw [upd_ne _ _ _ _ (by omega)]) (by dsimp only; rw [upd_ne _ _ _ _ (by omega)]) (by dsimp only; rw [upd_ne _ _ _ _ (by omega)])⟩ ?_
      rintro r h2 n2 ⟨rfl, ht, hf, hfr2⟩ hle2 hfr3
      dsimp only at ht hf hfr2 hle2
      obtain ⟨id, i1', i2', o3, A3⟩ := ht rfl
      try simp [-map_take, -map_drop, -map_tail, rgs]
      repeat' first | done | ((first | ((with_reducible show iaddrS _ _ _ _ _ _ _); refine iaddr_map rfl omA omA ?_) | (with_reducible refine go_draw (i := 1) [(0, [], []), (1, [], []), (2, [], []), (3, [], []), (4, [], []), (5, [], [])] (by kernel_rfl) ?_)) <;> simp [-map_take, -map_drop, -map_tail, rgs]) | ((with_reducible refine guardS_split ?_ ?_) <;> intro qb <;> (have qp := qb; try simp only [psq] at qp) <;> simp [-map_take, -map_drop, -map_tail, rgs, qb])
      refine ⟨⟨id, .inr (by omega), by omega, o3, A3⟩, fun j hj hjp ha hb hcc => ?_⟩
      rw [hfr2 j (by omega) hjp ha hb hcc, upd_ne _ _ _ _ (by omega)]
  · have e1 : offB A x = false := by simp [offB, hat]
    have e2 : offA A x = A := by simp [offA, e1]
    rw [e1, e2]
    try simp [-map_take, -map_drop, -map_tail, rgs, o1, t9, k1, k2, k3, k4, hat]
    repeat' first | done | ((first | ((with_reducible show iaddrS _ _ _ _ _ _ _); refine iaddr_map rfl omA omA ?_) | (with_reducible refine go_draw (i := 1) [(0, [], []), (1, [], []), (2, [], []), (3, [], []), (4, [], []), (5, [], [])] (by kernel_rfl) ?_)) <;> simp [-map_take, -map_drop, -map_tail, rgs, o1, t9, k1, k2, k3, k4, hat]) | ((with_reducible refine guardS_split ?_ ?_) <;> intro qb <;> (have qp := qb; try simp only [psq] at qp) <;> simp [-map_take, -map_drop, -map_tail, rgs, o1, t9, k1, k2, k3, k4, hat, qb])
    refine ⟨⟨ic, .inl rfl, by omega, by rw [upd_ne _ _ _ _ (by omega)]; exact o0, A1.keep (by rw [upd_ne _ _ _ _ (by omega)]) (by rw [upd_ne _ _ _ _ (by omega)]) (by rw [upd_ne _ _ _ _ (by omega)])⟩, fun j hj _ _ _ _ e => by omega⟩
theorem m_queueA {A : Afs} {p ia ib ic : Nat} {n : Int} (hl : A.list.length ≤ 64) : AC ctx.P 16 [.ptr p 0, .int .i64 n]
    (fun h _ => h p = some (.obj (afsR ia ib ic A)) ∧ AfO h ia ib ic A)
    (fun h nx r h' nx' => r = .tup [] ∧ AfQ p ia ib ic (queueA A n) nx h' nx' ∧ ∀ j, j < nx → j ≠ ic → h' j = h j) := by
  refine AC.o okC Try.func16 rfl fun h nx hfr hnx hpre => ?_
  obtain ⟨o1, A1⟩ := hpre
  have hp : p < nx := hnx p (by rw [o1]; simp)
  have i1 : ia < nx := hnx ia (by rw [A1.r1]; simp)
  have i2 : ib < nx := hnx ib (by rw [A1.r2]; simp)
  have i3 : ic < nx := hnx ic (by rw [A1.r3]; simp)
  have npc : p ≠ ic := fun e => by have := A1.r3; rw [← e, o1] at this; cases this
  have n13 := A1.n13
  have n23 := A1.n23
  have t9 := A1.r3
  have o0 := o1
  simp only [afsR] at o1
  have hlim : A.list.length ≤ LIM := by simp only [LIM]; omega
  try simp [-map_take, -map_drop, -map_tail, rgs, o1]
  repeat' first | done | ((first | ((with_reducible show lenS _ _ _ _ _ _); refine lenS_slice rfl fun _ => ?_) | ((with_reducible show iaddrS _ _ _ _ _ _ _); refine iaddr_map rfl omA omA ?_)) <;> simp [-map_take, -map_drop, -map_tail, rgs, o1]) | ((with_reducible refine condS_split ?_ ?_) <;> intro qb <;> (have qp := qb; try simp only [psq] at qp) <;> simp [-map_take, -map_drop, -map_tail, rgs, o1, qb])
  refine go_upP (h0 := h) (nx0 := 0) [4, 10, 11, 12, 13, 14, 15, 16, 17, 18, 19, 20, 21, 22, 23, 24, 25, 26, 27, 28, 29, 30] (A.list.length) (fun (i : Nat) a => [(10, .int .i64 i)]) (fun (i : Nat) (_ : Unit) h' n' => nx ≤ n' ∧ h' ic = some (.row 5 (((A.list.take i).map (queueF n) ++ A.list.drop i).map afrC)) ∧ ∀ j, j < nx → j ≠ ic → h' j = h j) (()) (by simp) ?_ (fun j hj => absurd hj (by omega)) (Nat.zero_le _) ?_
  · exact ⟨by omega, by simpa using t9, fun j _ _ => rfl⟩
  · intro i a tm h' n' hle hJ hE hn' next hnx
    try dsimp only at hJ
    simp [-map_take, -map_drop, -map_tail]
    obtain ⟨g0, g1, g2⟩ := hJ
    have q1 := (g2 p hp npc).trans o1
    by_cases hi : i < A.list.length
    · obtain ⟨c1, c2, c3⟩ := part_get (f := queueF n) hi
      generalize (A.list.take i).map (queueF n) ++ A.list.drop i = ys at *
      have hgm : (ys.map afrC)[i]? = some (afrC (gt A.list (i : Int))) := by rw [List.getElem?_map, c1]; rfl
      cases hq : (gt A.list (i : Int)).node == n with
      | true =>
        have hqf : queueF n (gt A.list (i : Int)) = ⟨(gt A.list (i : Int)).han, (gt A.list (i : Int)).node, (gt A.list (i : Int)).fn, true⟩ := by simp [queueF, hq]
        try simp [-map_take, -map_drop, -map_tail, rgs, q1, g1, hi, hq, afrC]
        repeat' first | done | ((first | ((with_reducible show lenS _ _ _ _ _ _); refine lenS_slice rfl fun _ => ?_) | ((with_reducible show iaddrS _ _ _ _ _ _ _); refine iaddr_map rfl omA omA ?_) | (((with_reducible show iaddrS _ _ _ _ (.ref _ _ _ _) _ _); refine iaddr_ref rfl (by omega) (by omega) ?_)) | (((with_reducible show loadE _ _ _ _ _ _ _ _); refine loadE_row hgm ?_))) <;> simp [-map_take, -map_drop, -map_tail, rgs, q1, g1, hi, hq, afrC]) | ((with_reducible refine condS_split ?_ ?_) <;> intro qb <;> (have qp := qb; try simp only [psq] at qp) <;> simp [-map_take, -map_drop, -map_tail, rgs, q1, g1, hi, hq, afrC, qb])
        refine storeE_at (sz := 5) (xs := ys.map afrC) (cells := afrC (gt A.list (i : Int))) g1 (by simp) rfl (by decide) hgm ?_
        rw [show splice (afrC (gt A.list (i : Int))) 4 [.bool true] = afrC (queueF n (gt A.list (i : Int))) by rw [hqf]; rfl, ← List.map_set, c2]
        try simp [-map_take, -map_drop, -map_tail, rgs]
        repeat' first | done | ((first | ((with_reducible show lenS _ _ _ _ _ _); refine lenS_slice rfl fun _ => ?_) | ((with_reducible show iaddrS _ _ _ _ _ _ _); refine iaddr_map rfl omA omA ?_)) <;> simp [-map_take, -map_drop, -map_tail, rgs]) | ((with_reducible refine condS_split ?_ ?_) <;> intro qb <;> (have qp := qb; try simp only [psq] at qp) <;> simp [-map_take, -map_drop, -map_tail, rgs, qb])
        refine hnx.go () (by omega) (by simp [wrap_succ hi hlim]) (by simp) (fun j hj => absurd hj (by omega)) (Nat.zero_le _) ?_
        refine ⟨by omega, by rw [upd_same]; simp, fun j hj hji => ?_⟩
        rw [upd_ne _ _ _ _ hji]; exact g2 j hj hji
      | false =>
        have hqf : queueF n (gt A.list (i : Int)) = gt A.list (i : Int) := by simp [queueF, hq]
        try simp [-map_take, -map_drop, -map_tail, rgs, q1, g1, hi, hq, afrC]
        repeat' first | done | ((first | ((with_reducible show lenS _ _ _ _ _ _); refine lenS_slice rfl fun _ => ?_) | ((with_reducible show iaddrS _ _ _ _ _ _ _); refine iaddr_map rfl omA omA ?_) | (((with_reducible show iaddrS _ _ _ _ (.ref _ _ _ _) _ _); refine iaddr_ref rfl (by omega) (by omega) ?_)) | (((with_reducible show loadE _ _ _ _ _ _ _ _); refine loadE_row hgm ?_))) <;> simp [-map_take, -map_drop, -map_tail, rgs, q1, g1, hi, hq, afrC]) | ((with_reducible refine condS_split ?_ ?_) <;> intro qb <;> (have qp := qb; try simp only [psq] at qp) <;> simp [-map_take, -map_drop, -map_tail, rgs, q1, g1, hi, hq, afrC, qb])
        refine hnx.go () (by omega) (by simp [wrap_succ hi hlim]) (by simp) (fun j hj => absurd hj (by omega)) (Nat.zero_le _) ?_
        exact ⟨by omega, by rw [c3 hqf]; exact g1, g2⟩
    · have hi2 : ¬ ((i : Int) < A.list.length) := by omega
      rw [List.take_of_length_le (by omega), List.drop_eq_nil_of_le (by omega), List.append_nil] at g1
      try simp [-map_take, -map_drop, -map_tail, rgs, hi, hi2]
      repeat' first | done | ((first | ((with_reducible show lenS _ _ _ _ _ _); refine lenS_slice rfl fun _ => ?_) | ((with_reducible show iaddrS _ _ _ _ _ _ _); refine iaddr_map rfl omA omA ?_)) <;> simp [-map_take, -map_drop, -map_tail, rgs, hi, hi2]) | ((with_reducible refine condS_split ?_ ?_) <;> intro qb <;> (have qp := qb; try simp only [psq] at qp) <;> simp [-map_take, -map_drop, -map_tail, rgs, hi, hi2, qb])
      exact ⟨⟨ic, .inl rfl, by omega, (g2 p hp npc).trans (o0.trans (by simp [afsR, queueA])), A1.ne, (g2 ia i1 n13).trans A1.r1, (g2 ib i2 n23).trans A1.r2, by simpa [queueA] using g1⟩, g2⟩
theorem c_NewSlots {n : Int} (h0 : 1 ≤ n) (h1 : n ≤ 64) : PC ctx.P 14 [.int .i64 n] (.tup [.agg (sltV (fun _ => true) ⟨List.replicate n.toNat 0, List.replicate n.toNat false⟩), .bool true]) := by
  have hw : inR n 1 64 = true := by simp [inR, h0, h1]
  have w1 : 0 ≤ n := by omega
  have w2 : n ≤ MLIM := by simp only [MLIM]; omega
  refine PC.o okC Try.func14 rfl (.tup _ (by simp only [List.mem_cons, List.not_mem_nil, or_false]; rintro c (rfl | rfl); exact .agg _ (sltV_fz _); exact .bool _)) fun h nx hnx => ?_
  try simp [-map_take, -map_drop, -map_tail, rgs, hw, w1, w2, sltV, iv, bv]
  repeat' first | done | ((first | ((with_reducible show doCall _ _ _ 26 _ _); refine call_pc (c_within) ?_) | (with_reducible refine go_draw (i := 3) [(0, [], []), (2, [], []), (1, [], []), (3, [], []), (4, [], []), (5, [], []), (6, [], [])] (by kernel_rfl) ?_)) <;> simp [-map_take, -map_drop, -map_tail, rgs, hw, w1, w2, sltV, iv, bv]) | ((with_reducible refine condS_split ?_ ?_) <;> intro qb <;> (have qp := qb; try simp only [psq] at qp) <;> simp [-map_take, -map_drop, -map_tail, rgs, hw, w1, w2, sltV, iv, bv, qb])
theorem c_NewAfters {n : Int} (h0 : 1 ≤ n) (h1 : n ≤ 64) : PC ctx.P 7 [.int .i64 n] (.tup [.agg (afsV (fun _ => true) ⟨⟨List.replicate n.toNat 0, List.replicate n.toNat false⟩, []⟩), .bool true]) := by
  refine PC.nv (r := .tup [.agg [.view true 1 ((List.replicate n.toNat 0).map iv), .view true 1 ((List.replicate n.toNat false).map bv), .nil], .bool true]) ?_ (.tups (.cons (.aggs (.cons (.same _) (.cons (.same _) (.cons (.nil _ _) .nil)))) (.cons (.same _) .nil)))
  refine PC.o okC Try.func7 rfl (.tup _ (by simp only [List.mem_cons, List.not_mem_nil, or_false]; rintro c (rfl | rfl); exact .agg _ (fun c hc => by (simp only [List.mem_cons, List.not_mem_nil, or_false] at hc); rcases hc with rfl | rfl | rfl <;> first | exact .vmap iv_fz | exact .vmap bv_fz | exact .nil); exact .bool _)) fun h nx hnx => ?_
  try simp [-map_take, -map_drop, -map_tail, rgs, sltV, afsV]
  repeat' first | done | (((with_reducible show doCall _ _ _ 14 _ _); refine call_pc (c_NewSlots h0 h1) ?_) <;> simp [-map_take, -map_drop, -map_tail, rgs, sltV, afsV]) | fail
theorem c_UsedIn {F : Nat → Bool} {s : Slt} (hs : sltOk s = true) : PC ctx.P 12 [.agg (sltV F s)] (.int .i64 (cntB id s.used)) := by
  refine PC.o okC Try.func12 rfl (.int _ _) fun h nx hnx => ?_
  try simp [-map_take, -map_drop, -map_tail, rgs, hs, sltV]
  repeat' first | done | ((first | ((with_reducible show doCall _ _ _ 20 _ _); refine call_pc (c_SlotsOk (s := s) (F := F)) ?_) | ((with_reducible show doCall _ _ _ 21 _ _); refine call_pc (c_used (s := s) (F := F)) ?_)) <;> simp [-map_take, -map_drop, -map_tail, rgs, hs, sltV]) | ((with_reducible refine condS_split ?_ ?_) <;> intro qb <;> (have qp := qb; try simp only [psq] at qp) <;> simp [-map_take, -map_drop, -map_tail, rgs, hs, sltV, qb])
theorem c_QueuedBy {F : Nat → Bool} {A : Afs} {n : Int} (hs : afsOk A = true) : PC ctx.P 8 [.agg (afsV F A), .int .i64 n] (.agg (afsV (fun _ => true) (queueA A n))) := by
  obtain ⟨a1, a2, a3⟩ := afs_facts hs
  have hsl : A.slots.ages.length ≤ 64 := afs_slen hs
  refine AC.pcD (.agg _ (afsV_fz _)) ?_
  refine AC.o okC Try.func8 rfl fun h nx hfr hnx hpre => ?_
  try simp [-map_take, -map_drop, -map_tail, rgs, hs, afsV]
  repeat' first | done | (((with_reducible show doCall _ _ _ 13 _ _); refine call_pc (c_AftersOk (x := A) (F := F)) ?_) <;> simp [-map_take, -map_drop, -map_tail, rgs, hs, afsV]) | ((with_reducible refine condS_split ?_ ?_) <;> intro qb <;> (have qp := qb; try simp only [psq] at qp) <;> simp [-map_take, -map_drop, -map_tail, rgs, hs, afsV, qb])
  refine call_fc (f_cloneAfters (F := F) (s := A) (by simp only [MLIM]; omega) (by simp only [MLIM]; omega) (by simp only [MLIM]; omega)) ?_
  try simp [-map_take, -map_drop, -map_tail, rgs, free_of hnx]
  repeat' first | done | ((with_reducible refine condS_split ?_ ?_) <;> intro qb <;> (have qp := qb; try simp only [psq] at qp) <;> simp [-map_take, -map_drop, -map_tail, rgs, free_of hnx, qb])
  refine call_ac (m_queueA (A := A) (p := nx + 7) (ia := nx + 9) (ib := nx + 10) (ic := nx + 11) (by omega)) ⟨by simp [afsR], ⟨by omega, by simp, by simp, by simp⟩⟩ ?_
  rintro r h1 n1 ⟨rfl, ⟨id, d0, d1, d2, d3⟩, d4⟩ hle1 hfr1
  dsimp only at d0 d1 d2 d3 d4 hle1
  have KK : ∀ j, j < nx → h1 j = h j := fun j hj => by
    rw [d4 j (by omega) (by omega)]
    repeat rw [upd_ne _ _ _ _ (by omega)]
  have z0 := d4 (nx + 1) (by omega) (by omega)
  simp at z0
  simp only [afsR] at d2
  try simp [-map_take, -map_drop, -map_tail, rgs, z0, d2]
  repeat' first | done | ((with_reducible refine condS_split ?_ ?_) <;> intro qb <;> (have qp := qb; try simp only [psq] at qp) <;> simp [-map_take, -map_drop, -map_tail, rgs, z0, d2, qb])
  refine pdQ_agg (i := nx + 9) (j := nx + 10) (k := id) (fun j hj => ?_) (by omega) (by omega) (by omega) (d3.keep ?_ ?_ ?_)
  · repeat rw [upd_ne _ _ _ _ (by omega)]
    exact KK j hj
  · repeat rw [upd_ne _ _ _ _ (by omega)]
  · repeat rw [upd_ne _ _ _ _ (by omega)]
  · repeat rw [upd_ne _ _ _ _ (by omega)]
theorem c_Registered {F : Nat → Bool} {A : Afs} {node fn : Int} (hs : afsOk A = true) (hf : isAfter node fn = true) : PC ctx.P 11 [.agg (afsV F A), .int .i64 node, .int .i64 fn] (.tup [.agg (afsV (fun _ => true) (regA A node fn)), .agg (hanC (regH A)), .bool (regB A)]) := by
  obtain ⟨a1, a2, a3⟩ := afs_facts hs
  have hsl : A.slots.ages.length ≤ 64 := afs_slen hs
  refine AC.pcD (.tup _ (by simp only [List.mem_cons, List.not_mem_nil, or_false]; rintro c (rfl | rfl | rfl); exact .agg _ (afsV_fz _); exact .agg _ (hanC_fz _); exact .bool _)) ?_
  refine AC.o okC Try.func11 rfl fun h nx hfr hnx hpre => ?_
  try simp [-map_take, -map_drop, -map_tail, rgs, hs, afsV]
  repeat' first | done | ((first | ((with_reducible show doCall _ _ _ 13 _ _); refine call_pc (c_AftersOk (x := A) (F := F)) ?_) | (with_reducible refine go_draw (i := 5) [(0, [], []), (1, [], []), (2, [], []), (3, [.tmp 10], []), (4, [], []), (5, [], [])] (by kernel_rfl) ?_)) <;> simp [-map_take, -map_drop, -map_tail, rgs, hs, afsV]) | ((with_reducible refine condS_split ?_ ?_) <;> intro qb <;> (have qp := qb; try simp only [psq] at qp) <;> simp [-map_take, -map_drop, -map_tail, rgs, hs, afsV, qb])
  refine call_fc (f_cloneAfters (F := F) (s := A) (by simp only [MLIM]; omega) (by simp only [MLIM]; omega) (by simp only [MLIM]; omega)) ?_
  try simp [-map_take, -map_drop, -map_tail, rgs, free_of hnx]
  repeat' first | done | ((with_reducible refine go_draw (i := 5) [(0, [], []), (1, [], []), (2, [], []), (3, [.tmp 10], []), (4, [], []), (5, [], [])] (by kernel_rfl) ?_) <;> simp [-map_take, -map_drop, -map_tail, rgs, free_of hnx]) | ((with_reducible refine condS_split ?_ ?_) <;> intro qb <;> (have qp := qb; try simp only [psq] at qp) <;> simp [-map_take, -map_drop, -map_tail, rgs, free_of hnx, qb])
  refine call_ac (m_register (A := A) (p := nx + 9) (ia := nx + 11) (ib := nx + 12) (ic := nx + 13) hs hf) ⟨by simp [afsR], ⟨by omega, by simp, by simp, by simp⟩⟩ ?_
  rintro r h1 n1 ⟨rfl, ⟨id, d0, d1, d2, d3⟩, d4⟩ hle1 hfr1
  dsimp only at d0 d1 d2 d3 d4 hle1
  have KK : ∀ j, j < nx → h1 j = h j := fun j hj => by
    rw [d4 j (by omega) (by omega) (by omega) (by omega)]
    repeat rw [upd_ne _ _ _ _ (by omega)]
  have z0 := d4 (nx + 1) (by omega) (by omega) (by omega) (by omega)
  have z1 := d4 (nx + 2) (by omega) (by omega) (by omega) (by omega)
  simp at z0 z1
  simp only [afsR] at d2
  try simp [-map_take, -map_drop, -map_tail, rgs, z0, z1, d2, hanC]
  repeat' first | done | ((with_reducible refine go_draw (i := 5) [(0, [], []), (1, [], []), (2, [], []), (3, [.tmp 10], []), (4, [], []), (5, [], [])] (by kernel_rfl) ?_) <;> simp [-map_take, -map_drop, -map_tail, rgs, z0, z1, d2, hanC]) | ((with_reducible refine condS_split ?_ ?_) <;> intro qb <;> (have qp := qb; try simp only [psq] at qp) <;> simp [-map_take, -map_drop, -map_tail, rgs, z0, z1, d2, hanC, qb])
  refine pdQ_tup (i := nx + 11) (j := nx + 12) (k := id) (fun j hj => ?_) (by omega) (by omega) (by omega) (d3.keep ?_ ?_ ?_)
  · repeat rw [upd_ne _ _ _ _ (by omega)]
    exact KK j hj
  · repeat rw [upd_ne _ _ _ _ (by omega)]
  · repeat rw [upd_ne _ _ _ _ (by omega)]
  · repeat rw [upd_ne _ _ _ _ (by omega)]
theorem c_CalledOff {F : Nat → Bool} {A : Afs} {x : Han} (hs : afsOk A = true) (hc : ∀ k : Nat, k < A.list.length → canDrop A.slots (gt A.list (k : Int)).han = true) : PC ctx.P 10 [.agg (afsV F A), .agg (hanC x)] (.tup [.agg (afsV (fun _ => true) (offA A x)), .bool (offB A x)]) := by
  obtain ⟨a1, a2, a3⟩ := afs_facts hs
  have hsl : A.slots.ages.length ≤ 64 := afs_slen hs
  refine AC.pcD (.tup _ (by simp only [List.mem_cons, List.not_mem_nil, or_false]; rintro c (rfl | rfl); exact .agg _ (afsV_fz _); exact .bool _)) ?_
  refine AC.o okC Try.func10 rfl fun h nx hfr hnx hpre => ?_
  try simp [-map_take, -map_drop, -map_tail, rgs, hs, afsV, hanC]
  repeat' first | done | (((with_reducible show doCall _ _ _ 13 _ _); refine call_pc (c_AftersOk (x := A) (F := F)) ?_) <;> simp [-map_take, -map_drop, -map_tail, rgs, hs, afsV, hanC]) | ((with_reducible refine condS_split ?_ ?_) <;> intro qb <;> (have qp := qb; try simp only [psq] at qp) <;> simp [-map_take, -map_drop, -map_tail, rgs, hs, afsV, hanC, qb])
  refine call_fc (f_cloneAfters (F := F) (s := A) (by simp only [MLIM]; omega) (by simp only [MLIM]; omega) (by simp only [MLIM]; omega)) ?_
  try simp [-map_take, -map_drop, -map_tail, rgs, free_of hnx]
  repeat' first | done | ((with_reducible refine condS_split ?_ ?_) <;> intro qb <;> (have qp := qb; try simp only [psq] at qp) <;> simp [-map_take, -map_drop, -map_tail, rgs, free_of hnx, qb])
  refine call_ac (m_callOff (A := A) (p := nx + 9) (ia := nx + 11) (ib := nx + 12) (ic := nx + 13) hs hc) ⟨by simp [afsR], ⟨by omega, by simp, by simp, by simp⟩⟩ ?_
  rintro r h1 n1 ⟨rfl, ⟨id, d0, d1, d2, d3⟩, d4⟩ hle1 hfr1
  dsimp only at d0 d1 d2 d3 d4 hle1
  have KK : ∀ j, j < nx → h1 j = h j := fun j hj => by
    rw [d4 j (by omega) (by omega) (by omega) (by omega) (by omega)]
    repeat rw [upd_ne _ _ _ _ (by omega)]
  have z0 := d4 (nx + 2) (by omega) (by omega) (by omega) (by omega) (by omega)
  simp at z0
  simp only [afsR] at d2
  try simp [-map_take, -map_drop, -map_tail, rgs, z0, d2]
  repeat' first | done | ((with_reducible refine condS_split ?_ ?_) <;> intro qb <;> (have qp := qb; try simp only [psq] at qp) <;> simp [-map_take, -map_drop, -map_tail, rgs, z0, d2, qb])
  refine pdQ_tup (i := nx + 11) (j := nx + 12) (k := id) (fun j hj => ?_) (by omega) (by omega) (by omega) (d3.keep ?_ ?_ ?_)
  · repeat rw [upd_ne _ _ _ _ (by omega)]
    exact KK j hj
  · repeat rw [upd_ne _ _ _ _ (by omega)]
  · repeat rw [upd_ne _ _ _ _ (by omega)]
  · repeat rw [upd_ne _ _ _ _ (by omega)]
theorem c_Started {F : Nat → Bool} {A : Afs} (hs : afsOk A = true) : PC ctx.P 9 [.agg (afsV F A)] (.tup [.agg (afsV (fun _ => true) (stA A)), .agg (afrC (stX A)), .bool (stB A)]) := by
  obtain ⟨a1, a2, a3⟩ := afs_facts hs
  have hsl : A.slots.ages.length ≤ 64 := afs_slen hs
  refine AC.pcD (.tup _ (by simp only [List.mem_cons, List.not_mem_nil, or_false]; rintro c (rfl | rfl | rfl); exact .agg _ (afsV_fz _); exact .agg _ (afrC_fz _); exact .bool _)) ?_
  refine AC.o okC Try.func9 rfl fun h nx hfr hnx hpre => ?_
  try simp [-map_take, -map_drop, -map_tail, rgs, hs, afsV]
  repeat' first | done | ((first | ((with_reducible show doCall _ _ _ 13 _ _); refine call_pc (c_AftersOk (x := A) (F := F)) ?_) | (with_reducible refine go_draw (i := 5) [(0, [], []), (1, [], []), (2, [], []), (3, [.tmp 6], []), (4, [], []), (5, [], [])] (by kernel_rfl) ?_)) <;> simp [-map_take, -map_drop, -map_tail, rgs, hs, afsV]) | ((with_reducible refine condS_split ?_ ?_) <;> intro qb <;> (have qp := qb; try simp only [psq] at qp) <;> simp [-map_take, -map_drop, -map_tail, rgs, hs, afsV, qb])
  refine call_fc (f_cloneAfters (F := F) (s := A) (by simp only [MLIM]; omega) (by simp only [MLIM]; omega) (by simp only [MLIM]; omega)) ?_
  try simp [-map_take, -map_drop, -map_tail, rgs, free_of hnx]
  repeat' first | done | ((with_reducible refine go_draw (i := 5) [(0, [], []), (1, [], []), (2, [], []), (3, [.tmp 6], []), (4, [], []), (5, [], [])] (by kernel_rfl) ?_) <;> simp [-map_take, -map_drop, -map_tail, rgs, free_of hnx]) | ((with_reducible refine condS_split ?_ ?_) <;> intro qb <;> (have qp := qb; try simp only [psq] at qp) <;> simp [-map_take, -map_drop, -map_tail, rgs, free_of hnx, qb])
  refine call_ac (m_startB (A := A) (p := nx + 9) (ia := nx + 11) (ib := nx + 12) (ic := nx + 13) (by omega) a1 a3) ⟨by simp [afsR], ⟨by omega, by simp, by simp, by simp⟩⟩ ?_
  rintro r h1 n1 ⟨q1, q2, q3⟩ hle1 hfr1
  dsimp only at q1 q2 q3 hle1
  have KK : ∀ j, j < nx → h1 j = h j := fun j hj => by
    rw [q3 j (by omega) (by omega) (by omega) (by omega) (by omega)]
    repeat rw [upd_ne _ _ _ _ (by omega)]
  have z1 := q3 (nx + 1) (by omega) (by omega) (by omega) (by omega) (by omega)
  have z2 := q3 (nx + 2) (by omega) (by omega) (by omega) (by omega) (by omega)
  simp at z1 z2
  cases hg : goAt A with
  | some i =>
    obtain ⟨rfl, id, j1, j2, o2, A2⟩ := q1 i hg
    have e1 : stA A = goA A i := by simp [stA, hs, hg]
    have e2 : stX A = gt A.list (i : Int) := by simp [stX, hs, hg]
    have e3 : stB A = true := by simp [stB, hs, hg]
    rw [e1, e2, e3]
    simp only [afsR] at o2
    try simp [-map_take, -map_drop, -map_tail, rgs, o2, z1, z2, afrC]
    repeat' first | done | ((with_reducible refine go_draw (i := 5) [(0, [], []), (1, [], []), (2, [], []), (3, [.tmp 6], []), (4, [], []), (5, [], [])] (by kernel_rfl) ?_) <;> simp [-map_take, -map_drop, -map_tail, rgs, o2, z1, z2, afrC]) | ((with_reducible refine condS_split ?_ ?_) <;> intro qb <;> (have qp := qb; try simp only [psq] at qp) <;> simp [-map_take, -map_drop, -map_tail, rgs, o2, z1, z2, afrC, qb])
    refine pdQ_tup (i := nx + 11) (j := nx + 12) (k := id) (fun j hj => ?_) (by omega) (by omega) (by omega) (A2.keep ?_ ?_ ?_)
    · repeat rw [upd_ne _ _ _ _ (by omega)]
      exact KK j hj
    · repeat rw [upd_ne _ _ _ _ (by omega)]
    · repeat rw [upd_ne _ _ _ _ (by omega)]
    · repeat rw [upd_ne _ _ _ _ (by omega)]
  | none =>
    obtain ⟨rfl, o2, A2⟩ := q2 hg
    have e1 : stA A = A := by simp [stA, hs, hg]
    have e2 : stX A = default := by simp [stX, hs, hg]
    have e3 : stB A = false := by simp [stB, hs, hg]
    rw [e1, e2, e3]
    simp at o2
    try simp [-map_take, -map_drop, -map_tail, rgs, o2, z1, z2, afrC]
    repeat' first | done | ((with_reducible refine go_draw (i := 5) [(0, [], []), (1, [], []), (2, [], []), (3, [.tmp 6], []), (4, [], []), (5, [], [])] (by kernel_rfl) ?_) <;> simp [-map_take, -map_drop, -map_tail, rgs, o2, z1, z2, afrC]) | ((with_reducible refine condS_split ?_ ?_) <;> intro qb <;> (have qp := qb; try simp only [psq] at qp) <;> simp [-map_take, -map_drop, -map_tail, rgs, o2, z1, z2, afrC, qb])
    refine pdQ_tup (i := nx + 11) (j := nx + 12) (k := nx + 13) (fun j hj => ?_) (by omega) (by omega) (by omega) (A2.keep ?_ ?_ ?_)
    · repeat rw [upd_ne _ _ _ _ (by omega)]
      exact KK j hj
    · repeat rw [upd_ne _ _ _ _ (by omega)]
    · repeat rw [upd_ne _ _ _ _ (by omega)]
    · repeat rw [upd_ne _ _ _ _ (by omega)]
end Go.AE.Try
end

section
/- Contracts of the numbers that a law draws from its code. -/
set_option maxRecDepth 8000
set_option maxHeartbeats 4000000
namespace Go.AE.Try
open Go.Proofs
open List (map_take map_drop map_tail)
theorem c_big {xs : List Int} : PC ctx.P 4 [.view true 1 (xs.map uv)] (.bool (decide (4096 < (xs.length : Int)))) := by
  refine PC.o okC Try.func4 rfl (.bool _) fun h nx hnx => ?_
  try simp [-map_take, -map_drop, -map_tail, rgs]
  repeat' first | done | (((with_reducible show lenS _ _ _ _ _ _); refine lenS_slice rfl fun _ => ?_) <;> simp [-map_take, -map_drop, -map_tail, rgs]) | fail
theorem m_roll {xs : List Int} {s : Int} (hl : xs.length ≤ 4096) : AC ctx.P 5 [.view true 1 (xs.map uv), .int .u64 s] (fun _ _ => True) (RollQ xs) := by
  have hlim : xs.length ≤ LIM := by simp only [LIM]; omega
  refine AC.o okC Try.func5 rfl fun h nx hfr hnx hpre => ?_
  try simp [-map_take, -map_drop, -map_tail, rgs, uv]
  repeat' first | done | (((with_reducible show lenS _ _ _ _ _ _); refine lenS_slice rfl fun _ => ?_) <;> simp [-map_take, -map_drop, -map_tail, rgs, uv]) | fail
  refine go_upP (h0 := h) (nx0 := nx) [6, 16, 17, 18, 19, 20, 21, 22, 23, 24, 25, 26, 27, 28, 29, 30, 31, 32, 33, 34, 35, 36] (xs.length) (fun (i : Nat) a => [(6, .int .i64 i)]) (fun (i : Nat) (H : Int) h' n' => h' (nx + 9) = some (.obj [.view true 1 (xs.map uv), .int .i64 0, .int .u64 H]) ∧ nx + 9 < n') (IntKind.u64.wrap (IntKind.u64.wrap (s * 7919) + IntKind.u64.wrap (xs.length : Int))) (by simp) ?_ keepA (by omega) ?_
  · exact ⟨by simp, by simp⟩
  · intro i a tm h' n' hle hJ hE hn' next hnx
    try dsimp only at hJ
    have hK : KeepB nx h' h := KeepB.sub hE keepA (by omega)
    simp [-map_take, -map_drop, -map_tail]
    obtain ⟨g0, g1⟩ := hJ
    by_cases hi : i < xs.length
    · have hi1 : (i : Int) < xs.length := by omega
      repeat' first | done | ((first | ((with_reducible show lenS _ _ _ _ _ _); refine lenS_slice rfl fun _ => ?_) | ((with_reducible show iaddrS _ _ _ _ _ _ _); refine iaddr_map rfl omA omA ?_) | (with_reducible refine go_draw (i := 5) [(0, [], []), (1, [], []), (2, [], []), (3, [], []), (4, [], []), (5, [], []), (6, [], []), (7, [], []), (8, [], []), (9, [], []), (10, [], []), (11, [], []), (12, [], []), (13, [], []), (14, [], []), (15, [], [])] (by kernel_rfl) ?_)) <;> simp [-map_take, -map_drop, -map_tail, rgs, g0, hi, hi1, uv]) | fail
      refine hnx.go (IntKind.u64.wrap (IntKind.u64.wrap (IntKind.u64.wrap (a * 1099511628211) + IntKind.u64.wrap (gt xs (i : Int))) + 3)) (by omega) (by simp [wrap_succ hi hlim]) (by simp) keepA (by first | omega | (simp; omega)) ?_
      exact ⟨by simp, by omega⟩
    · have hi2 : ¬ ((i : Int) < xs.length) := by omega
      repeat' first | done | (((with_reducible show lenS _ _ _ _ _ _); refine lenS_slice rfl fun _ => ?_) <;> simp [-map_take, -map_drop, -map_tail, rgs, g0, hi, hi2, uv]) | fail
      refine ⟨nx + 9, by omega, by omega, rfl, ⟨0, a, by omega, g0⟩, fun j hj => hK j hj⟩
theorem m_below {xs : List Int} {q : Nat} {n : Int} (hx : ∀ x ∈ xs, InU8 x) (hl : xs.length ≤ 4096) (h0 : 0 < n) : AC ctx.P 6 [.ptr q 0, .int .i64 n] (fun h _ => DiceO h q xs) (BelQ xs q n) := by
  refine AC.o okC Try.func6 rfl fun h nx hfr hnx hpre => ?_
  obtain ⟨i, H, hi, o1⟩ := hpre
  have hq : q < nx := hnx q (by rw [o1]; simp)
  have hn0 : (n = 0) = False := by simp only [eq_iff_iff, iff_false]; omega
  have hbn := fun z => band_in (a := z) (b := 16777215) (by decide) (by decide)
  by_cases hlt : i < xs.length
  · have hlt1 : (i : Int) < xs.length := by omega
    obtain ⟨b0, b1⟩ := gt_byte hx hlt
    have ew : IntKind.i64.wrap ((i : Int) + 1) = ((i + 1 : Nat) : Int) := i64_ok (by omega)
    try simp [-map_take, -map_drop, -map_tail, rgs, o1, hlt, hlt1, uv, ew, hn0]
    repeat' first | done | ((first | ((with_reducible show iaddrS _ _ _ _ _ _ _); refine iaddr_map rfl omA omA ?_) | (with_reducible refine go_draw (i := 3) [(0, [], []), (1, [], []), (2, [], []), (3, [], []), (4, [], []), (5, [], []), (6, [], []), (7, [], []), (8, [], []), (9, [], [])] (by kernel_rfl) ?_) | (with_reducible refine go_draw (i := 4) [(0, [], []), (1, [], []), (2, [], []), (3, [], []), (4, [], []), (5, [], []), (6, [], []), (7, [], []), (8, [], []), (9, [], []), (10, [], []), (11, [], []), (12, [], []), (13, [], [])] (by kernel_rfl) ?_)) <;> simp [-map_take, -map_drop, -map_tail, rgs, o1, hlt, hlt1, uv, ew, hn0]) | fail
    obtain ⟨c0, c1⟩ := hbn ((IntKind.u64.wrap (IntKind.u64.wrap (H * 6364136223846793005) + 1442695040888963407)).fdiv (2 ^ min 33 IntKind.u64.bits))
    have w1 := i64_ok (x := bandA IntKind.u64 ((IntKind.u64.wrap (IntKind.u64.wrap (H * 6364136223846793005) + 1442695040888963407)).fdiv (2 ^ min 33 IntKind.u64.bits)) 16777215) (by omega)
    rw [w1, i64_ok (x := gt xs (i : Int)) (by omega), i64_ok (by omega)]
    refine ⟨_, Int.tmod_nonneg _ (by omega), Int.tmod_lt_of_pos _ h0, rfl, ⟨i + 1, _, by omega, upd_same ..⟩, fun j hj hjq => ?_⟩
    rw [upd_ne _ _ _ _ hjq, upd_ne _ _ _ _ hjq]
  · have hlt1 : ¬ ((i : Int) < xs.length) := by omega
    try simp [-map_take, -map_drop, -map_tail, rgs, o1, hlt, hlt1, uv, hn0]
    repeat' first | done | ((with_reducible refine go_draw (i := 3) [(0, [], []), (1, [], []), (2, [], []), (3, [], []), (4, [], []), (5, [], []), (6, [], []), (7, [], []), (8, [], []), (9, [], [])] (by kernel_rfl) ?_) <;> simp [-map_take, -map_drop, -map_tail, rgs, o1, hlt, hlt1, uv, hn0]) | fail
    obtain ⟨c0, c1⟩ := hbn ((IntKind.u64.wrap (IntKind.u64.wrap (H * 6364136223846793005) + 1442695040888963407)).fdiv (2 ^ min 33 IntKind.u64.bits))
    rw [i64_ok (by omega)]
    refine ⟨_, Int.tmod_nonneg _ (by omega), Int.tmod_lt_of_pos _ h0, rfl, ⟨i, _, by omega, upd_same ..⟩, fun j hj hjq => ?_⟩
    rw [upd_ne _ _ _ _ hjq]
end Go.AE.Try
end
