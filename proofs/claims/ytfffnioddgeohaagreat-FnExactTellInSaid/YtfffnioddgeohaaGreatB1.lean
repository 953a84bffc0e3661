/- Contracts of the seat's functions: what each answers, for all arguments. -/
import Derived.Test.YtfffnioddgeohaaGreatA4
import Derived.Test.YtfffnioddgeohaaGreatA2
import Derived.Test.YtfffnioddgeohaaGreatA1
import Derived.Test.YtfffnioddgeohaaGreatProg
import Derived.KernelRfl
import Derived.Test.YtfffnioddgeohaaGreatA3
set_option linter.unusedVariables false
set_option linter.unusedSimpArgs false
set_option linter.deprecated false
section
/- The seat's types, for the abstract machine. -/
namespace Go.AE.Tryz
open Go.Proofs
def tyL:List (TypeId × TyD):=[
 (1,{ size:=1,bytes:=8,agg:=false,zero:=[.dead] }),
 (2,{ size:=1,bytes:=8,agg:=false,zero:=[.int .i64 0],ik:=some .i64 }),
 (3,{ size:=1,bytes:=8,agg:=false,zero:=[.int .i64 0],ik:=some .i64 }),
 (4,{ size:=1,bytes:=1,agg:=false,zero:=[.bool false] }),
 (5,{ size:=1,bytes:=1,agg:=false,zero:=[.int .u8 0],ik:=some .u8 }),
 (7,{ size:=4,bytes:=24,agg:=true,zero:=[.int .i64 0,.int .i64 0,.bool false,.int .u8 0],fields:=[(0,1,2),(1,1,3),(2,1,4),(3,1,6)] }),
 (9,{ size:=1,bytes:=16,agg:=false,zero:=[.str ⟨#[]⟩],isStr:=true }),
 (12,{ size:=1,bytes:=8,agg:=false,zero:=[.int .u64 0],ik:=some .u64 }),
 (27,{ size:=1,bytes:=24,agg:=false,zero:=[.nil],elem:=some 155 }),
 (28,{ size:=1,bytes:=24,agg:=false,zero:=[.nil],elem:=some 87 }),
 (29,{ size:=1,bytes:=24,agg:=false,zero:=[.nil],elem:=some 99 }),
 (30,{ size:=1,bytes:=24,agg:=false,zero:=[.nil],elem:=some 4 }),
 (31,{ size:=1,bytes:=24,agg:=false,zero:=[.nil],elem:=some 2 }),
 (32,{ size:=2,bytes:=48,agg:=true,zero:=[.nil,.nil],fields:=[(0,1,30),(1,1,31)] }),
 (33,{ size:=2,bytes:=48,agg:=true,zero:=[.nil,.nil],fields:=[(0,1,30),(1,1,31)] }),
 (34,{ size:=1,bytes:=24,agg:=false,zero:=[.nil],elem:=some 273 }),
 (35,{ size:=1,bytes:=24,agg:=false,zero:=[.nil],elem:=some 169 }),
 (37,{ size:=3,bytes:=56,agg:=true,zero:=[.nil,.nil,.int .i64 0],fields:=[(0,1,34),(1,1,35),(2,1,2)] }),
 (39,{ size:=2,bytes:=48,agg:=true,zero:=[.nil,.nil],fields:=[(0,1,31),(1,1,30)] }),
 (40,{ size:=1,bytes:=24,agg:=false,zero:=[.nil],elem:=some 176 }),
 (42,{ size:=3,bytes:=72,agg:=true,zero:=[.nil,.nil,.nil],fields:=[(0,2,39),(2,1,40)] }),
 (43,{ size:=1,bytes:=24,agg:=false,zero:=[.nil],elem:=some 147 }),
 (44,{ size:=1,bytes:=24,agg:=false,zero:=[.nil],elem:=some 184 }),
 (45,{ size:=1,bytes:=24,agg:=false,zero:=[.nil],elem:=some 188 }),
 (47,{ size:=17,bytes:=376,agg:=true,zero:=[.int .i64 0,.nil,.nil,.nil,.nil,.nil,.nil,.nil,.int .i64 0,.nil,.nil,.nil,.nil,.nil,.nil,.nil,.nil],fields:=[(0,1,2),(1,1,27),(2,1,28),(3,1,29),(4,2,33),(6,3,37),(9,3,42),(12,1,43),(13,1,44),(14,1,45),(15,1,31),(16,1,31)] }),
 (58,{ size:=1,bytes:=24,agg:=false,zero:=[.nil],elem:=some 203 }),
 (59,{ size:=1,bytes:=24,agg:=false,zero:=[.nil],elem:=some 228 }),
 (60,{ size:=1,bytes:=24,agg:=false,zero:=[.nil],elem:=some 230 }),
 (61,{ size:=2,bytes:=48,agg:=true,zero:=[.nil,.nil],fields:=[(0,1,30),(1,1,31)] }),
 (62,{ size:=1,bytes:=24,agg:=false,zero:=[.nil],elem:=some 301 }),
 (63,{ size:=1,bytes:=24,agg:=false,zero:=[.nil],elem:=some 303 }),
 (64,{ size:=3,bytes:=56,agg:=true,zero:=[.nil,.nil,.int .i64 0],fields:=[(0,1,62),(1,1,63),(2,1,2)] }),
 (65,{ size:=3,bytes:=56,agg:=true,zero:=[.nil,.nil,.int .i64 0],fields:=[(0,1,62),(1,1,63),(2,1,2)] }),
 (66,{ size:=2,bytes:=48,agg:=true,zero:=[.nil,.nil],fields:=[(0,1,31),(1,1,30)] }),
 (67,{ size:=1,bytes:=24,agg:=false,zero:=[.nil],elem:=some 307 }),
 (69,{ size:=3,bytes:=72,agg:=true,zero:=[.nil,.nil,.nil],fields:=[(0,2,66),(2,1,67)] }),
 (70,{ size:=1,bytes:=24,agg:=false,zero:=[.nil],elem:=some 237 }),
 (71,{ size:=1,bytes:=24,agg:=false,zero:=[.nil],elem:=some 210 }),
 (72,{ size:=1,bytes:=24,agg:=false,zero:=[.nil],elem:=some 240 }),
 (74,{ size:=17,bytes:=376,agg:=true,zero:=[.int .i64 0,.nil,.nil,.nil,.nil,.nil,.nil,.nil,.int .i64 0,.nil,.nil,.nil,.nil,.nil,.nil,.nil,.nil],fields:=[(0,1,2),(1,1,58),(2,1,59),(3,1,60),(4,2,61),(6,3,65),(9,3,69),(12,1,70),(13,1,71),(14,1,72),(15,1,31),(16,1,31)] }),
 (87,{ size:=5,bytes:=40,agg:=true,zero:=[.int .i64 0,.int .i64 0,.int .i64 0,.int .i64 0,.int .i64 0],fields:=[(0,1,2),(1,1,2),(2,1,2),(3,1,2),(4,1,2)] }),
 (94,{ size:=1,bytes:=8,agg:=false,zero:=[.dead] }),
 (97,{ size:=1,bytes:=8,agg:=false,zero:=[.dead] }),
 (98,{ size:=4,bytes:=32,agg:=true,zero:=[.int .i64 0,.int .i64 0,.int .i64 0,.int .i64 0],fields:=[(0,1,2),(1,1,2),(2,1,2),(3,1,2)] }),
 (99,{ size:=4,bytes:=32,agg:=true,zero:=[.int .i64 0,.int .i64 0,.int .i64 0,.int .i64 0],fields:=[(0,1,2),(1,1,2),(2,1,2),(3,1,2)] }),
 (101,{ size:=1,bytes:=8,agg:=false,zero:=[.dead] }),
 (102,{ size:=1,bytes:=8,agg:=false,zero:=[.dead] }),
 (103,{ size:=1,bytes:=8,agg:=false,zero:=[.dead] }),
 (105,{ size:=1,bytes:=8,agg:=false,zero:=[.dead] }),
 (108,{ size:=1,bytes:=8,agg:=false,zero:=[.dead] }),
 (110,{ size:=1,bytes:=8,agg:=false,zero:=[.dead] }),
 (111,{ size:=1,bytes:=8,agg:=false,zero:=[.dead] }),
 (114,{ size:=1,bytes:=8,agg:=false,zero:=[.dead] }),
 (116,{ size:=1,bytes:=8,agg:=false,zero:=[.dead] }),
 (117,{ size:=1,bytes:=8,agg:=false,zero:=[.dead] }),
 (118,{ size:=1,bytes:=8,agg:=false,zero:=[.dead] }),
 (147,{ size:=9,bytes:=72,agg:=true,zero:=[.int .i64 0,.int .i64 0,.int .i64 0,.int .i64 0,.int .i64 0,.int .i64 0,.int .i64 0,.int .i64 0,.int .i64 0],fields:=[(0,1,2),(1,1,2),(2,1,2),(3,1,2),(4,1,2),(5,1,2),(6,1,2),(7,1,2),(8,1,2)] }),
 (152,{ size:=1,bytes:=8,agg:=false,zero:=[.dead] }),
 (155,{ size:=1,bytes:=24,agg:=false,zero:=[.nil],elem:=some 158 }),
 (158,{ size:=3,bytes:=24,agg:=true,zero:=[.int .i64 0,.int .i64 0,.int .i64 0],fields:=[(0,1,2),(1,1,2),(2,1,2)] }),
 (160,{ size:=1,bytes:=8,agg:=false,zero:=[.dead] }),
 (165,{ size:=1,bytes:=8,agg:=false,zero:=[.dead] }),
 (169,{ size:=5,bytes:=40,agg:=true,zero:=[.int .i64 0,.int .i64 0,.int .i64 0,.int .i64 0,.bool false],fields:=[(0,1,2),(1,1,2),(2,1,2),(3,1,2),(4,1,4)] }),
 (170,{ size:=1,bytes:=8,agg:=false,zero:=[.dead] }),
 (174,{ size:=2,bytes:=16,agg:=true,zero:=[.int .i64 0,.int .i64 0],fields:=[(0,1,2),(1,1,2)] }),
 (176,{ size:=5,bytes:=40,agg:=true,zero:=[.int .i64 0,.int .i64 0,.int .i64 0,.int .i64 0,.bool false],fields:=[(0,2,174),(2,1,2),(3,1,2),(4,1,4)] }),
 (178,{ size:=1,bytes:=8,agg:=false,zero:=[.dead] }),
 (181,{ size:=1,bytes:=8,agg:=false,zero:=[.dead] }),
 (184,{ size:=5,bytes:=56,agg:=true,zero:=[.int .i64 0,.int .i64 0,.int .i64 0,.nil,.int .i64 0],fields:=[(0,1,2),(1,1,2),(2,1,2),(3,1,31),(4,1,2)] }),
 (185,{ size:=1,bytes:=8,agg:=false,zero:=[.dead] }),
 (188,{ size:=4,bytes:=32,agg:=true,zero:=[.int .i64 0,.int .i64 0,.int .i64 0,.int .i64 0],fields:=[(0,1,2),(1,1,2),(2,1,2),(3,1,2)] }),
 (189,{ size:=1,bytes:=8,agg:=false,zero:=[.dead] }),
 (203,{ size:=1,bytes:=24,agg:=false,zero:=[.nil],elem:=some 299 }),
 (210,{ size:=5,bytes:=56,agg:=true,zero:=[.int .i64 0,.int .i64 0,.int .i64 0,.nil,.int .i64 0],fields:=[(0,1,2),(1,1,2),(2,1,2),(3,1,31),(4,1,2)] }),
 (228,{ size:=5,bytes:=40,agg:=true,zero:=[.int .i64 0,.int .i64 0,.int .i64 0,.int .i64 0,.int .i64 0],fields:=[(0,1,2),(1,1,2),(2,1,2),(3,1,2),(4,1,2)] }),
 (230,{ size:=4,bytes:=32,agg:=true,zero:=[.int .i64 0,.int .i64 0,.int .i64 0,.int .i64 0],fields:=[(0,1,2),(1,1,2),(2,1,2),(3,1,2)] }),
 (237,{ size:=9,bytes:=72,agg:=true,zero:=[.int .i64 0,.int .i64 0,.int .i64 0,.int .i64 0,.int .i64 0,.int .i64 0,.int .i64 0,.int .i64 0,.int .i64 0],fields:=[(0,1,2),(1,1,2),(2,1,2),(3,1,2),(4,1,2),(5,1,2),(6,1,2),(7,1,2),(8,1,2)] }),
 (240,{ size:=4,bytes:=32,agg:=true,zero:=[.int .i64 0,.int .i64 0,.int .i64 0,.int .i64 0],fields:=[(0,1,2),(1,1,2),(2,1,2),(3,1,2)] }),
 (273,{ size:=3,bytes:=24,agg:=true,zero:=[.int .i64 0,.int .i64 0,.int .i64 0],fields:=[(0,1,2),(1,1,2),(2,1,2)] }),
 (275,{ size:=1,bytes:=8,agg:=false,zero:=[.dead] }),
 (299,{ size:=3,bytes:=24,agg:=true,zero:=[.int .i64 0,.int .i64 0,.int .i64 0],fields:=[(0,1,2),(1,1,2),(2,1,2)] }),
 (301,{ size:=3,bytes:=24,agg:=true,zero:=[.int .i64 0,.int .i64 0,.int .i64 0],fields:=[(0,1,2),(1,1,2),(2,1,2)] }),
 (303,{ size:=5,bytes:=40,agg:=true,zero:=[.int .i64 0,.int .i64 0,.int .i64 0,.int .i64 0,.bool false],fields:=[(0,1,2),(1,1,2),(2,1,2),(3,1,2),(4,1,4)] }),
 (305,{ size:=2,bytes:=16,agg:=true,zero:=[.int .i64 0,.int .i64 0],fields:=[(0,1,2),(1,1,2)] }),
 (307,{ size:=5,bytes:=40,agg:=true,zero:=[.int .i64 0,.int .i64 0,.int .i64 0,.int .i64 0,.bool false],fields:=[(0,2,305),(2,1,2),(3,1,2),(4,1,4)] }),
 (387,{ size:=1,bytes:=24,agg:=false,zero:=[.nil],elem:=some 3 }),
 (388,{ size:=1,bytes:=24,agg:=false,zero:=[.nil],elem:=some 34 })]
def tyT (t:TypeId):Option TyD:=(tyL.find? fun p=>p.1 == t).map (·.2)
def lvs:TypeId → Option (List Lf)
 | 174=>some [.i .i64,.i .i64]
 | _=>none
def eqL (ls:Option (List Lf)) (xs ys:List AV):Option Bool:=match ls with | some ls=>if xs.map lfOf = ls.map some ∧ ys.map lfOf = ls.map some then some (uR xs ys) else none | none=>none
def eqT:TypeId → AV → AV → Option Bool
 | 4,.bool a,.bool b=>some (a == b)
 | t,.agg xs,.agg ys=>eqL (lvs t) xs ys
 | _,_,_=>none
noncomputable def ctx0:Ctx:={ P:=Go.Proofs.Tryz.prog,ty:=tyT,eqA:=fun _ _ _=>none }
noncomputable def ctx:Ctx:={ P:=Go.Proofs.Tryz.prog,ty:=tyT,eqA:=eqT }
theorem tys:∀ t d,tyT t = some d → tyOk Go.Proofs.Tryz.prog t d = true:=by
 have hall:(tyL.all fun p=>tyOk Go.Proofs.Tryz.prog p.1 p.2) = true:=by kernel_rfl
 intro t d h
 unfold tyT at h
 rw [Option.map_eq_some_iff] at h
 obtain ⟨p,h1,rfl⟩:=h
 have h2:=List.find?_some h1
 simp only [beq_iff_eq] at h2
 subst h2
 exact List.all_eq_true.1 hall p (List.mem_of_find?_eq_some h1)
theorem ok0:ctx0.Ok where
 mix:=by kernel_rfl
 tys:=tys
 eqs:=by intro t x y b h;cases h
@[simp] theorem ty1:ctx.ty 1 = some { size:=1,bytes:=8,agg:=false,zero:=[.dead] }:=by kernel_rfl
@[simp] theorem ty2:ctx.ty 2 = some { size:=1,bytes:=8,agg:=false,zero:=[.int .i64 0],ik:=some .i64 }:=by kernel_rfl
@[simp] theorem ty3:ctx.ty 3 = some { size:=1,bytes:=8,agg:=false,zero:=[.int .i64 0],ik:=some .i64 }:=by kernel_rfl
@[simp] theorem ty4:ctx.ty 4 = some { size:=1,bytes:=1,agg:=false,zero:=[.bool false] }:=by kernel_rfl
@[simp] theorem ty5:ctx.ty 5 = some { size:=1,bytes:=1,agg:=false,zero:=[.int .u8 0],ik:=some .u8 }:=by kernel_rfl
@[simp] theorem ty7:ctx.ty 7 = some { size:=4,bytes:=24,agg:=true,zero:=[.int .i64 0,.int .i64 0,.bool false,.int .u8 0],fields:=[(0,1,2),(1,1,3),(2,1,4),(3,1,6)] }:=by kernel_rfl
@[simp] theorem ty9:ctx.ty 9 = some { size:=1,bytes:=16,agg:=false,zero:=[.str ⟨#[]⟩],isStr:=true }:=by kernel_rfl
@[simp] theorem ty12:ctx.ty 12 = some { size:=1,bytes:=8,agg:=false,zero:=[.int .u64 0],ik:=some .u64 }:=by kernel_rfl
@[simp] theorem ty27:ctx.ty 27 = some { size:=1,bytes:=24,agg:=false,zero:=[.nil],elem:=some 155 }:=by kernel_rfl
@[simp] theorem ty28:ctx.ty 28 = some { size:=1,bytes:=24,agg:=false,zero:=[.nil],elem:=some 87 }:=by kernel_rfl
@[simp] theorem ty29:ctx.ty 29 = some { size:=1,bytes:=24,agg:=false,zero:=[.nil],elem:=some 99 }:=by kernel_rfl
@[simp] theorem ty30:ctx.ty 30 = some { size:=1,bytes:=24,agg:=false,zero:=[.nil],elem:=some 4 }:=by kernel_rfl
@[simp] theorem ty31:ctx.ty 31 = some { size:=1,bytes:=24,agg:=false,zero:=[.nil],elem:=some 2 }:=by kernel_rfl
@[simp] theorem ty32:ctx.ty 32 = some { size:=2,bytes:=48,agg:=true,zero:=[.nil,.nil],fields:=[(0,1,30),(1,1,31)] }:=by kernel_rfl
@[simp] theorem ty33:ctx.ty 33 = some { size:=2,bytes:=48,agg:=true,zero:=[.nil,.nil],fields:=[(0,1,30),(1,1,31)] }:=by kernel_rfl
@[simp] theorem ty34:ctx.ty 34 = some { size:=1,bytes:=24,agg:=false,zero:=[.nil],elem:=some 273 }:=by kernel_rfl
@[simp] theorem ty35:ctx.ty 35 = some { size:=1,bytes:=24,agg:=false,zero:=[.nil],elem:=some 169 }:=by kernel_rfl
@[simp] theorem ty37:ctx.ty 37 = some { size:=3,bytes:=56,agg:=true,zero:=[.nil,.nil,.int .i64 0],fields:=[(0,1,34),(1,1,35),(2,1,2)] }:=by kernel_rfl
@[simp] theorem ty39:ctx.ty 39 = some { size:=2,bytes:=48,agg:=true,zero:=[.nil,.nil],fields:=[(0,1,31),(1,1,30)] }:=by kernel_rfl
@[simp] theorem ty40:ctx.ty 40 = some { size:=1,bytes:=24,agg:=false,zero:=[.nil],elem:=some 176 }:=by kernel_rfl
@[simp] theorem ty42:ctx.ty 42 = some { size:=3,bytes:=72,agg:=true,zero:=[.nil,.nil,.nil],fields:=[(0,2,39),(2,1,40)] }:=by kernel_rfl
@[simp] theorem ty43:ctx.ty 43 = some { size:=1,bytes:=24,agg:=false,zero:=[.nil],elem:=some 147 }:=by kernel_rfl
@[simp] theorem ty44:ctx.ty 44 = some { size:=1,bytes:=24,agg:=false,zero:=[.nil],elem:=some 184 }:=by kernel_rfl
@[simp] theorem ty45:ctx.ty 45 = some { size:=1,bytes:=24,agg:=false,zero:=[.nil],elem:=some 188 }:=by kernel_rfl
@[simp] theorem ty47:ctx.ty 47 = some { size:=17,bytes:=376,agg:=true,zero:=[.int .i64 0,.nil,.nil,.nil,.nil,.nil,.nil,.nil,.int .i64 0,.nil,.nil,.nil,.nil,.nil,.nil,.nil,.nil],fields:=[(0,1,2),(1,1,27),(2,1,28),(3,1,29),(4,2,33),(6,3,37),(9,3,42),(12,1,43),(13,1,44),(14,1,45),(15,1,31),(16,1,31)] }:=by kernel_rfl
@[simp] theorem ty58:ctx.ty 58 = some { size:=1,bytes:=24,agg:=false,zero:=[.nil],elem:=some 203 }:=by kernel_rfl
@[simp] theorem ty59:ctx.ty 59 = some { size:=1,bytes:=24,agg:=false,zero:=[.nil],elem:=some 228 }:=by kernel_rfl
@[simp] theorem ty60:ctx.ty 60 = some { size:=1,bytes:=24,agg:=false,zero:=[.nil],elem:=some 230 }:=by kernel_rfl
@[simp] theorem ty61:ctx.ty 61 = some { size:=2,bytes:=48,agg:=true,zero:=[.nil,.nil],fields:=[(0,1,30),(1,1,31)] }:=by kernel_rfl
@[simp] theorem ty62:ctx.ty 62 = some { size:=1,bytes:=24,agg:=false,zero:=[.nil],elem:=some 301 }:=by kernel_rfl
@[simp] theorem ty63:ctx.ty 63 = some { size:=1,bytes:=24,agg:=false,zero:=[.nil],elem:=some 303 }:=by kernel_rfl
@[simp] theorem ty64:ctx.ty 64 = some { size:=3,bytes:=56,agg:=true,zero:=[.nil,.nil,.int .i64 0],fields:=[(0,1,62),(1,1,63),(2,1,2)] }:=by kernel_rfl
@[simp] theorem ty65:ctx.ty 65 = some { size:=3,bytes:=56,agg:=true,zero:=[.nil,.nil,.int .i64 0],fields:=[(0,1,62),(1,1,63),(2,1,2)] }:=by kernel_rfl
@[simp] theorem ty66:ctx.ty 66 = some { size:=2,bytes:=48,agg:=true,zero:=[.nil,.nil],fields:=[(0,1,31),(1,1,30)] }:=by kernel_rfl
@[simp] theorem ty67:ctx.ty 67 = some { size:=1,bytes:=24,agg:=false,zero:=[.nil],elem:=some 307 }:=by kernel_rfl
@[simp] theorem ty69:ctx.ty 69 = some { size:=3,bytes:=72,agg:=true,zero:=[.nil,.nil,.nil],fields:=[(0,2,66),(2,1,67)] }:=by kernel_rfl
@[simp] theorem ty70:ctx.ty 70 = some { size:=1,bytes:=24,agg:=false,zero:=[.nil],elem:=some 237 }:=by kernel_rfl
@[simp] theorem ty71:ctx.ty 71 = some { size:=1,bytes:=24,agg:=false,zero:=[.nil],elem:=some 210 }:=by kernel_rfl
@[simp] theorem ty72:ctx.ty 72 = some { size:=1,bytes:=24,agg:=false,zero:=[.nil],elem:=some 240 }:=by kernel_rfl
@[simp] theorem ty74:ctx.ty 74 = some { size:=17,bytes:=376,agg:=true,zero:=[.int .i64 0,.nil,.nil,.nil,.nil,.nil,.nil,.nil,.int .i64 0,.nil,.nil,.nil,.nil,.nil,.nil,.nil,.nil],fields:=[(0,1,2),(1,1,58),(2,1,59),(3,1,60),(4,2,61),(6,3,65),(9,3,69),(12,1,70),(13,1,71),(14,1,72),(15,1,31),(16,1,31)] }:=by kernel_rfl
@[simp] theorem ty87:ctx.ty 87 = some { size:=5,bytes:=40,agg:=true,zero:=[.int .i64 0,.int .i64 0,.int .i64 0,.int .i64 0,.int .i64 0],fields:=[(0,1,2),(1,1,2),(2,1,2),(3,1,2),(4,1,2)] }:=by kernel_rfl
@[simp] theorem ty94:ctx.ty 94 = some { size:=1,bytes:=8,agg:=false,zero:=[.dead] }:=by kernel_rfl
@[simp] theorem ty97:ctx.ty 97 = some { size:=1,bytes:=8,agg:=false,zero:=[.dead] }:=by kernel_rfl
@[simp] theorem ty98:ctx.ty 98 = some { size:=4,bytes:=32,agg:=true,zero:=[.int .i64 0,.int .i64 0,.int .i64 0,.int .i64 0],fields:=[(0,1,2),(1,1,2),(2,1,2),(3,1,2)] }:=by kernel_rfl
@[simp] theorem ty99:ctx.ty 99 = some { size:=4,bytes:=32,agg:=true,zero:=[.int .i64 0,.int .i64 0,.int .i64 0,.int .i64 0],fields:=[(0,1,2),(1,1,2),(2,1,2),(3,1,2)] }:=by kernel_rfl
@[simp] theorem ty101:ctx.ty 101 = some { size:=1,bytes:=8,agg:=false,zero:=[.dead] }:=by kernel_rfl
@[simp] theorem ty102:ctx.ty 102 = some { size:=1,bytes:=8,agg:=false,zero:=[.dead] }:=by kernel_rfl
@[simp] theorem ty103:ctx.ty 103 = some { size:=1,bytes:=8,agg:=false,zero:=[.dead] }:=by kernel_rfl
@[simp] theorem ty105:ctx.ty 105 = some { size:=1,bytes:=8,agg:=false,zero:=[.dead] }:=by kernel_rfl
@[simp] theorem ty108:ctx.ty 108 = some { size:=1,bytes:=8,agg:=false,zero:=[.dead] }:=by kernel_rfl
@[simp] theorem ty110:ctx.ty 110 = some { size:=1,bytes:=8,agg:=false,zero:=[.dead] }:=by kernel_rfl
@[simp] theorem ty111:ctx.ty 111 = some { size:=1,bytes:=8,agg:=false,zero:=[.dead] }:=by kernel_rfl
@[simp] theorem ty114:ctx.ty 114 = some { size:=1,bytes:=8,agg:=false,zero:=[.dead] }:=by kernel_rfl
@[simp] theorem ty116:ctx.ty 116 = some { size:=1,bytes:=8,agg:=false,zero:=[.dead] }:=by kernel_rfl
@[simp] theorem ty117:ctx.ty 117 = some { size:=1,bytes:=8,agg:=false,zero:=[.dead] }:=by kernel_rfl
@[simp] theorem ty118:ctx.ty 118 = some { size:=1,bytes:=8,agg:=false,zero:=[.dead] }:=by kernel_rfl
@[simp] theorem ty147:ctx.ty 147 = some { size:=9,bytes:=72,agg:=true,zero:=[.int .i64 0,.int .i64 0,.int .i64 0,.int .i64 0,.int .i64 0,.int .i64 0,.int .i64 0,.int .i64 0,.int .i64 0],fields:=[(0,1,2),(1,1,2),(2,1,2),(3,1,2),(4,1,2),(5,1,2),(6,1,2),(7,1,2),(8,1,2)] }:=by kernel_rfl
@[simp] theorem ty152:ctx.ty 152 = some { size:=1,bytes:=8,agg:=false,zero:=[.dead] }:=by kernel_rfl
@[simp] theorem ty155:ctx.ty 155 = some { size:=1,bytes:=24,agg:=false,zero:=[.nil],elem:=some 158 }:=by kernel_rfl
@[simp] theorem ty158:ctx.ty 158 = some { size:=3,bytes:=24,agg:=true,zero:=[.int .i64 0,.int .i64 0,.int .i64 0],fields:=[(0,1,2),(1,1,2),(2,1,2)] }:=by kernel_rfl
@[simp] theorem ty160:ctx.ty 160 = some { size:=1,bytes:=8,agg:=false,zero:=[.dead] }:=by kernel_rfl
@[simp] theorem ty165:ctx.ty 165 = some { size:=1,bytes:=8,agg:=false,zero:=[.dead] }:=by kernel_rfl
@[simp] theorem ty169:ctx.ty 169 = some { size:=5,bytes:=40,agg:=true,zero:=[.int .i64 0,.int .i64 0,.int .i64 0,.int .i64 0,.bool false],fields:=[(0,1,2),(1,1,2),(2,1,2),(3,1,2),(4,1,4)] }:=by kernel_rfl
@[simp] theorem ty170:ctx.ty 170 = some { size:=1,bytes:=8,agg:=false,zero:=[.dead] }:=by kernel_rfl
@[simp] theorem ty174:ctx.ty 174 = some { size:=2,bytes:=16,agg:=true,zero:=[.int .i64 0,.int .i64 0],fields:=[(0,1,2),(1,1,2)] }:=by kernel_rfl
@[simp] theorem ty176:ctx.ty 176 = some { size:=5,bytes:=40,agg:=true,zero:=[.int .i64 0,.int .i64 0,.int .i64 0,.int .i64 0,.bool false],fields:=[(0,2,174),(2,1,2),(3,1,2),(4,1,4)] }:=by kernel_rfl
@[simp] theorem ty178:ctx.ty 178 = some { size:=1,bytes:=8,agg:=false,zero:=[.dead] }:=by kernel_rfl
@[simp] theorem ty181:ctx.ty 181 = some { size:=1,bytes:=8,agg:=false,zero:=[.dead] }:=by kernel_rfl
@[simp] theorem ty184:ctx.ty 184 = some { size:=5,bytes:=56,agg:=true,zero:=[.int .i64 0,.int .i64 0,.int .i64 0,.nil,.int .i64 0],fields:=[(0,1,2),(1,1,2),(2,1,2),(3,1,31),(4,1,2)] }:=by kernel_rfl
@[simp] theorem ty185:ctx.ty 185 = some { size:=1,bytes:=8,agg:=false,zero:=[.dead] }:=by kernel_rfl
@[simp] theorem ty188:ctx.ty 188 = some { size:=4,bytes:=32,agg:=true,zero:=[.int .i64 0,.int .i64 0,.int .i64 0,.int .i64 0],fields:=[(0,1,2),(1,1,2),(2,1,2),(3,1,2)] }:=by kernel_rfl
@[simp] theorem ty189:ctx.ty 189 = some { size:=1,bytes:=8,agg:=false,zero:=[.dead] }:=by kernel_rfl
@[simp] theorem ty203:ctx.ty 203 = some { size:=1,bytes:=24,agg:=false,zero:=[.nil],elem:=some 299 }:=by kernel_rfl
@[simp] theorem ty210:ctx.ty 210 = some { size:=5,bytes:=56,agg:=true,zero:=[.int .i64 0,.int .i64 0,.int .i64 0,.nil,.int .i64 0],fields:=[(0,1,2),(1,1,2),(2,1,2),(3,1,31),(4,1,2)] }:=by kernel_rfl
@[simp] theorem ty228:ctx.ty 228 = some { size:=5,bytes:=40,agg:=true,zero:=[.int .i64 0,.int .i64 0,.int .i64 0,.int .i64 0,.int .i64 0],fields:=[(0,1,2),(1,1,2),(2,1,2),(3,1,2),(4,1,2)] }:=by kernel_rfl
@[simp] theorem ty230:ctx.ty 230 = some { size:=4,bytes:=32,agg:=true,zero:=[.int .i64 0,.int .i64 0,.int .i64 0,.int .i64 0],fields:=[(0,1,2),(1,1,2),(2,1,2),(3,1,2)] }:=by kernel_rfl
@[simp] theorem ty237:ctx.ty 237 = some { size:=9,bytes:=72,agg:=true,zero:=[.int .i64 0,.int .i64 0,.int .i64 0,.int .i64 0,.int .i64 0,.int .i64 0,.int .i64 0,.int .i64 0,.int .i64 0],fields:=[(0,1,2),(1,1,2),(2,1,2),(3,1,2),(4,1,2),(5,1,2),(6,1,2),(7,1,2),(8,1,2)] }:=by kernel_rfl
@[simp] theorem ty240:ctx.ty 240 = some { size:=4,bytes:=32,agg:=true,zero:=[.int .i64 0,.int .i64 0,.int .i64 0,.int .i64 0],fields:=[(0,1,2),(1,1,2),(2,1,2),(3,1,2)] }:=by kernel_rfl
@[simp] theorem ty273:ctx.ty 273 = some { size:=3,bytes:=24,agg:=true,zero:=[.int .i64 0,.int .i64 0,.int .i64 0],fields:=[(0,1,2),(1,1,2),(2,1,2)] }:=by kernel_rfl
@[simp] theorem ty275:ctx.ty 275 = some { size:=1,bytes:=8,agg:=false,zero:=[.dead] }:=by kernel_rfl
@[simp] theorem ty299:ctx.ty 299 = some { size:=3,bytes:=24,agg:=true,zero:=[.int .i64 0,.int .i64 0,.int .i64 0],fields:=[(0,1,2),(1,1,2),(2,1,2)] }:=by kernel_rfl
@[simp] theorem ty301:ctx.ty 301 = some { size:=3,bytes:=24,agg:=true,zero:=[.int .i64 0,.int .i64 0,.int .i64 0],fields:=[(0,1,2),(1,1,2),(2,1,2)] }:=by kernel_rfl
@[simp] theorem ty303:ctx.ty 303 = some { size:=5,bytes:=40,agg:=true,zero:=[.int .i64 0,.int .i64 0,.int .i64 0,.int .i64 0,.bool false],fields:=[(0,1,2),(1,1,2),(2,1,2),(3,1,2),(4,1,4)] }:=by kernel_rfl
@[simp] theorem ty305:ctx.ty 305 = some { size:=2,bytes:=16,agg:=true,zero:=[.int .i64 0,.int .i64 0],fields:=[(0,1,2),(1,1,2)] }:=by kernel_rfl
@[simp] theorem ty307:ctx.ty 307 = some { size:=5,bytes:=40,agg:=true,zero:=[.int .i64 0,.int .i64 0,.int .i64 0,.int .i64 0,.bool false],fields:=[(0,2,305),(2,1,2),(3,1,2),(4,1,4)] }:=by kernel_rfl
@[simp] theorem ty387:ctx.ty 387 = some { size:=1,bytes:=24,agg:=false,zero:=[.nil],elem:=some 3 }:=by kernel_rfl
@[simp] theorem ty388:ctx.ty 388 = some { size:=1,bytes:=24,agg:=false,zero:=[.nil],elem:=some 34 }:=by kernel_rfl
@[simp] theorem el27:yR ctx 27 = some { size:=1,bytes:=24,agg:=false,zero:=[.nil],elem:=some 158 }:=by kernel_rfl
@[simp] theorem el28:yR ctx 28 = some { size:=5,bytes:=40,agg:=true,zero:=[.int .i64 0,.int .i64 0,.int .i64 0,.int .i64 0,.int .i64 0],fields:=[(0,1,2),(1,1,2),(2,1,2),(3,1,2),(4,1,2)] }:=by kernel_rfl
@[simp] theorem el29:yR ctx 29 = some { size:=4,bytes:=32,agg:=true,zero:=[.int .i64 0,.int .i64 0,.int .i64 0,.int .i64 0],fields:=[(0,1,2),(1,1,2),(2,1,2),(3,1,2)] }:=by kernel_rfl
@[simp] theorem el30:yR ctx 30 = some { size:=1,bytes:=1,agg:=false,zero:=[.bool false] }:=by kernel_rfl
@[simp] theorem el31:yR ctx 31 = some { size:=1,bytes:=8,agg:=false,zero:=[.int .i64 0],ik:=some .i64 }:=by kernel_rfl
@[simp] theorem el34:yR ctx 34 = some { size:=3,bytes:=24,agg:=true,zero:=[.int .i64 0,.int .i64 0,.int .i64 0],fields:=[(0,1,2),(1,1,2),(2,1,2)] }:=by kernel_rfl
@[simp] theorem el35:yR ctx 35 = some { size:=5,bytes:=40,agg:=true,zero:=[.int .i64 0,.int .i64 0,.int .i64 0,.int .i64 0,.bool false],fields:=[(0,1,2),(1,1,2),(2,1,2),(3,1,2),(4,1,4)] }:=by kernel_rfl
@[simp] theorem el40:yR ctx 40 = some { size:=5,bytes:=40,agg:=true,zero:=[.int .i64 0,.int .i64 0,.int .i64 0,.int .i64 0,.bool false],fields:=[(0,2,174),(2,1,2),(3,1,2),(4,1,4)] }:=by kernel_rfl
@[simp] theorem el43:yR ctx 43 = some { size:=9,bytes:=72,agg:=true,zero:=[.int .i64 0,.int .i64 0,.int .i64 0,.int .i64 0,.int .i64 0,.int .i64 0,.int .i64 0,.int .i64 0,.int .i64 0],fields:=[(0,1,2),(1,1,2),(2,1,2),(3,1,2),(4,1,2),(5,1,2),(6,1,2),(7,1,2),(8,1,2)] }:=by kernel_rfl
@[simp] theorem el44:yR ctx 44 = some { size:=5,bytes:=56,agg:=true,zero:=[.int .i64 0,.int .i64 0,.int .i64 0,.nil,.int .i64 0],fields:=[(0,1,2),(1,1,2),(2,1,2),(3,1,31),(4,1,2)] }:=by kernel_rfl
@[simp] theorem el45:yR ctx 45 = some { size:=4,bytes:=32,agg:=true,zero:=[.int .i64 0,.int .i64 0,.int .i64 0,.int .i64 0],fields:=[(0,1,2),(1,1,2),(2,1,2),(3,1,2)] }:=by kernel_rfl
@[simp] theorem el58:yR ctx 58 = some { size:=1,bytes:=24,agg:=false,zero:=[.nil],elem:=some 299 }:=by kernel_rfl
@[simp] theorem el59:yR ctx 59 = some { size:=5,bytes:=40,agg:=true,zero:=[.int .i64 0,.int .i64 0,.int .i64 0,.int .i64 0,.int .i64 0],fields:=[(0,1,2),(1,1,2),(2,1,2),(3,1,2),(4,1,2)] }:=by kernel_rfl
@[simp] theorem el60:yR ctx 60 = some { size:=4,bytes:=32,agg:=true,zero:=[.int .i64 0,.int .i64 0,.int .i64 0,.int .i64 0],fields:=[(0,1,2),(1,1,2),(2,1,2),(3,1,2)] }:=by kernel_rfl
@[simp] theorem el62:yR ctx 62 = some { size:=3,bytes:=24,agg:=true,zero:=[.int .i64 0,.int .i64 0,.int .i64 0],fields:=[(0,1,2),(1,1,2),(2,1,2)] }:=by kernel_rfl
@[simp] theorem el63:yR ctx 63 = some { size:=5,bytes:=40,agg:=true,zero:=[.int .i64 0,.int .i64 0,.int .i64 0,.int .i64 0,.bool false],fields:=[(0,1,2),(1,1,2),(2,1,2),(3,1,2),(4,1,4)] }:=by kernel_rfl
@[simp] theorem el67:yR ctx 67 = some { size:=5,bytes:=40,agg:=true,zero:=[.int .i64 0,.int .i64 0,.int .i64 0,.int .i64 0,.bool false],fields:=[(0,2,305),(2,1,2),(3,1,2),(4,1,4)] }:=by kernel_rfl
@[simp] theorem el70:yR ctx 70 = some { size:=9,bytes:=72,agg:=true,zero:=[.int .i64 0,.int .i64 0,.int .i64 0,.int .i64 0,.int .i64 0,.int .i64 0,.int .i64 0,.int .i64 0,.int .i64 0],fields:=[(0,1,2),(1,1,2),(2,1,2),(3,1,2),(4,1,2),(5,1,2),(6,1,2),(7,1,2),(8,1,2)] }:=by kernel_rfl
@[simp] theorem el71:yR ctx 71 = some { size:=5,bytes:=56,agg:=true,zero:=[.int .i64 0,.int .i64 0,.int .i64 0,.nil,.int .i64 0],fields:=[(0,1,2),(1,1,2),(2,1,2),(3,1,31),(4,1,2)] }:=by kernel_rfl
@[simp] theorem el72:yR ctx 72 = some { size:=4,bytes:=32,agg:=true,zero:=[.int .i64 0,.int .i64 0,.int .i64 0,.int .i64 0],fields:=[(0,1,2),(1,1,2),(2,1,2),(3,1,2)] }:=by kernel_rfl
@[simp] theorem el155:yR ctx 155 = some { size:=3,bytes:=24,agg:=true,zero:=[.int .i64 0,.int .i64 0,.int .i64 0],fields:=[(0,1,2),(1,1,2),(2,1,2)] }:=by kernel_rfl
@[simp] theorem el203:yR ctx 203 = some { size:=3,bytes:=24,agg:=true,zero:=[.int .i64 0,.int .i64 0,.int .i64 0],fields:=[(0,1,2),(1,1,2),(2,1,2)] }:=by kernel_rfl
@[simp] theorem el387:yR ctx 387 = some { size:=1,bytes:=8,agg:=false,zero:=[.int .i64 0],ik:=some .i64 }:=by kernel_rfl
@[simp] theorem el388:yR ctx 388 = some { size:=1,bytes:=24,agg:=false,zero:=[.nil],elem:=some 273 }:=by kernel_rfl
@[simp] theorem eq4 (a b):ctx.eqA 4 (.bool a) (.bool b) = some (a == b):=rfl
@[simp] theorem eq174 (xs ys):ctx.eqA 174 (.agg xs) (.agg ys) = eqL (some [.i .i64,.i .i64]) xs ys:=rfl
@[simp] theorem eqL_some (ls xs ys):eqL (some ls) xs ys = if xs.map lfOf = ls.map some ∧ ys.map lfOf = ls.map some then some (uR xs ys) else none:=rfl
theorem okC:ctx.Ok where
 mix:=by kernel_rfl
 tys:=tys
 eqs:=by
  intro t x y b h
  change eqT t x y = some b at h
  unfold eqT at h
  split at h
  ·cases h;exact eq_bool (by kernel_rfl)
  ·rename_i xs ys _
   unfold lvs at h
   split at h
   ·rw [eqL_some] at h
    split at h
    ·rename_i hk
     cases h;exact eq_struct ok0 (by kernel_rfl) (by kernel_rfl) (by kernel_rfl) hk.1 hk.2
    ·cases h
   ·cases h
  ·cases h
end Go.AE.Tryz
end
section
/- Contracts of the smallest functions. -/
set_option maxRecDepth 8000
set_option maxHeartbeats 2000000
namespace Go.AE.Tryz
open Go.Proofs
open List renaming map_take → qt,map_drop → qd,map_tail → ql
theorem yA {n:Nat} (h:n ≤ LIM):IntKind.i64.wrap ((n:Int) - 1) = (n:Int) - 1:=by
 simp only [LIM] at h
 rw [zE (by omega)]
theorem zI {i n:Nat} (h:i < n) (hn:n ≤ LIM):IntKind.i64.wrap ((i:Int) + 1) = ((i + 1:Nat):Int):=by
 simp only [LIM] at hn
 rw [zE (by omega)];omega
theorem yY {x lo hi:Int}:PC ctx.P 106 [.int .i64 x,.int .i64 lo,.int .i64 hi] (.bool (inR x lo hi)):=by
 refine PC.o okC Tryz.func106 rfl (.bool _) fun h nx hnx => ?_
 try simp [-qt,-qd,-ql,rgs,inR]
 repeat' first | done | ((with_reducible refine zL ?_ ?_) <;> intro qb <;> (have qp:=qb;try simp only [psq] at qp) <;> simp [-qt,-qd,-ql,rgs,inR,qb])
end Go.AE.Tryz
end
section
/- Contracts of the laws' helpers: copies, comparisons, sizes. -/
set_option maxRecDepth 8000
set_option maxHeartbeats 2000000
namespace Go.AE.Tryz
open Go.Proofs
open List renaming map_take → qt,map_drop → qd,map_tail → ql
theorem c_toHandle {x:Han}:PC ctx.P 369 [.agg (zG0 x)] (.agg (zG0 x)):=by
 refine PC.o okC Tryz.func369 rfl (.agg _ (hanC_fz x)) fun h nx hnx => ?_
 try simp [-qt,-qd,-ql,rgs,zG0]
theorem c_eqHandle {x y:Han}:PC ctx.P 370 [.agg (zG0 x),.agg (zG0 y)] (.bool (x == y)):=by
 rw [han_beq]
 refine PC.o okC Tryz.func370 rfl (.bool _) fun h nx hnx => ?_
 try simp [-qt,-qd,-ql,rgs,zG0]
 repeat' first | done | ((with_reducible refine zC ?_ ?_) <;> intro qb <;> (have qp:=qb;try simp only [psq] at qp) <;> simp [-qt,-qd,-ql,rgs,zG0,qb])
 all_goals (try clear hnx)
 all_goals (simp_all [];done)
theorem c_toIns {x:Inn}:PC ctx.P 287 [.agg (vY x)] (.agg (vY x)):=by
 refine PC.o okC Tryz.func287 rfl (.agg _ (innC_fz x)) fun h nx hnx => ?_
 try simp [-qt,-qd,-ql,rgs,vY]
theorem c_eqIns {x y:Inn}:PC ctx.P 295 [.agg (vY x),.agg (vY y)] (.bool (x == y)):=by
 rw [inn_beq]
 refine PC.o okC Tryz.func295 rfl (.bool _) fun h nx hnx => ?_
 try simp [-qt,-qd,-ql,rgs,vY]
 repeat' first | done | ((with_reducible refine zC ?_ ?_) <;> intro qb <;> (have qp:=qb;try simp only [psq] at qp) <;> simp [-qt,-qd,-ql,rgs,vY,qb])
 all_goals (try clear hnx)
 all_goals (simp_all [];done)
theorem c_eqInsS {p q:Bool} {xs ys:List Inn}:PC ctx.P 182 [.view p 3 (xs.map vY),.view q 3 (ys.map vY)] (.bool (xs == ys)):=by
 refine PC.lim (n:=xs.length) (x:=.view p 3 (xs.map vY)) (by simp) (.here (by simp)) ⟨_,Tryz.func182,by kernel_rfl,by kernel_rfl⟩ fun hlim => ?_
 by_cases hl:xs.length = ys.length
 ·refine PC.o okC Tryz.func182 rfl (.bool _) fun h nx hnx => ?_
  try simp [-qt,-qd,-ql,rgs,hl]
  repeat' first | done | (((with_reducible show zT _ _ _ _ _ _);refine zA rfl fun _ => ?_) <;> simp [-qt,-qd,-ql,rgs,hl]) | fail
  refine zR [4,5,11,12,13,14,15,16,17,18,19,20,21,22,23,24,25,26] (ys.length) (fun (i:Nat) a=>[(5,.int .i64 i)]) (fun i_ a_ h_ _=>(fun i (_:Unit) _=>(xs.drop i == ys.drop i) = (xs == ys)) i_ a_ h_) (()) (by simp) ?_ zO (Nat.le_refl _) ?_
  ·simp
  ·intro i a tm h' n' hle hJ hE hn' next hnx
   try dsimp only at hJ
   have hK:KeepB nx h' h:=KeepB.sub hE zG (by omega)
   simp [-qt,-qd,-ql]
   try simp [-qt,-qd,-ql,rgs,hl,vY]
   repeat' first | done | ((first | ((with_reducible show zT _ _ _ _ _ _);refine zA rfl fun _ => ?_) | ((with_reducible show zK _ _ _ _ _ _ _);refine zH rfl omA omA ?_) | ((with_reducible show zD _ _ _ 295 _ _);refine zB (c_eqIns) ?_) | (with_reducible refine zP (i:=6) [(0,[],[]),(1,[],[]),(2,[],[]),(3,[],[]),(4,[],[]),(5,[],[]),(6,[],[]),(7,[],[]),(8,[],[]),(9,[],[])] (by kernel_rfl) ?_)) <;> simp [-qt,-qd,-ql,rgs,hl,vY]) | ((with_reducible refine zC ?_ ?_) <;> intro qb <;> (have qp:=qb;try simp only [psq] at qp) <;> simp [-qt,-qd,-ql,rgs,hl,vY,qb])
   all_goals first
   | (have hlt:i < xs.length:=(by first | omega | (simp at *; omega))
      rw [zQ hlt,zQ (xs:=ys) (i:=i) (by omega),List.cons_beq_cons] at hJ
      first
      | (refine hnx.go () ?_ ?_ ?_ ?_ ?_ ?_;omega;(simp [zI hlt hlim]);(simp);exact zG;(first | omega | (simp;omega));(try dsimp only);clear hnx;first | (simp_all;done) | grind)
      | (refine ⟨?_,zG⟩;clear hnx;first | (simp_all;done) | grind)
      | (clear hnx;first | (simp_all;done) | grind))
   | (obtain rfl:i = xs.length:=(by first | omega | (simp at *; omega))
      rw [List.drop_eq_nil_of_le (Nat.le_refl _),List.drop_eq_nil_of_le (by omega)] at hJ
      refine ⟨?_,zG⟩;clear hnx;first | (simp_all;done) | grind)
 ·refine PC.o okC Tryz.func182 rfl (.bool _) fun h nx hnx => ?_
  try simp [-qt,-qd,-ql,rgs]
  repeat' first | done | (((with_reducible show zT _ _ _ _ _ _);refine zA rfl fun _ => ?_) <;> simp [-qt,-qd,-ql,rgs]) | ((with_reducible refine zC ?_ ?_) <;> intro qb <;> (have qp:=qb;try simp only [psq] at qp) <;> simp [-qt,-qd,-ql,rgs,qb])
  all_goals first | (exfalso;omega) | (symm;rw [beq_eq_false_iff_ne];intro e;exact hl (by rw [e])) | (intro e;exact hl (by rw [e])) | skip
theorem c_szInsS {p:Bool} {xs:List Inn} {k:Int} (h0:0 ≤ k) (h1:k ≤ 1048576):PC ctx.P 136 [.view p 3 (xs.map vY),.int .i64 k] (.int .i64 (szR xs.length k)):=by
 refine PC.lim (n:=xs.length) (x:=.view p 3 (xs.map vY)) (by simp) (.here (by simp)) ⟨_,Tryz.func136,by kernel_rfl,by kernel_rfl⟩ fun hlim => ?_
 simp only [LIM] at hlim
 refine PC.o okC Tryz.func136 rfl (.int _ _) fun h nx hnx => ?_
 try simp [-qt,-qd,-ql,rgs,zE (x:=k - (xs.length:Int)) (by omega)]
 repeat' first | done | (((with_reducible show zT _ _ _ _ _ _);refine zA rfl fun _ => ?_) <;> simp [-qt,-qd,-ql,rgs,zE (x:=k - (xs.length:Int)) (by omega)]) | ((with_reducible refine zC ?_ ?_) <;> intro qb <;> (have qp:=qb;try simp only [psq] at qp) <;> simp [-qt,-qd,-ql,rgs,zE (x:=k - (xs.length:Int)) (by omega),qb])
 all_goals (clear hnx;simp only [szR];split <;> first | omega | (simp;omega))
theorem c_toNode {x:Nod}:PC ctx.P 166 [.agg (yS x)] (.agg (yS x)):=by
 refine PC.o okC Tryz.func166 rfl (.agg _ (nodC_fz x)) fun h nx hnx => ?_
 try simp [-qt,-qd,-ql,rgs,yS]
theorem c_eqNode {x y:Nod}:PC ctx.P 183 [.agg (yS x),.agg (yS y)] (.bool (x == y)):=by
 rw [nod_beq]
 refine PC.o okC Tryz.func183 rfl (.bool _) fun h nx hnx => ?_
 try simp [-qt,-qd,-ql,rgs,yS]
 repeat' first | done | ((with_reducible refine zC ?_ ?_) <;> intro qb <;> (have qp:=qb;try simp only [psq] at qp) <;> simp [-qt,-qd,-ql,rgs,yS,qb])
 all_goals (try clear hnx)
 all_goals (simp_all [];done)
theorem c_eqNodeS {p q:Bool} {xs ys:List Nod}:PC ctx.P 65 [.view p 5 (xs.map yS),.view q 5 (ys.map yS)] (.bool (xs == ys)):=by
 refine PC.lim (n:=xs.length) (x:=.view p 5 (xs.map yS)) (by simp) (.here (by simp)) ⟨_,Tryz.func65,by kernel_rfl,by kernel_rfl⟩ fun hlim => ?_
 by_cases hl:xs.length = ys.length
 ·refine PC.o okC Tryz.func65 rfl (.bool _) fun h nx hnx => ?_
  try simp [-qt,-qd,-ql,rgs,hl]
  repeat' first | done | (((with_reducible show zT _ _ _ _ _ _);refine zA rfl fun _ => ?_) <;> simp [-qt,-qd,-ql,rgs,hl]) | fail
  refine zR [4,5,11,12,13,14,15,16,17,18,19,20,21,22,23,24,25,26] (ys.length) (fun (i:Nat) a=>[(5,.int .i64 i)]) (fun i_ a_ h_ _=>(fun i (_:Unit) _=>(xs.drop i == ys.drop i) = (xs == ys)) i_ a_ h_) (()) (by simp) ?_ zO (Nat.le_refl _) ?_
  ·simp
  ·intro i a tm h' n' hle hJ hE hn' next hnx
   try dsimp only at hJ
   have hK:KeepB nx h' h:=KeepB.sub hE zG (by omega)
   simp [-qt,-qd,-ql]
   try simp [-qt,-qd,-ql,rgs,hl,yS]
   repeat' first | done | ((first | ((with_reducible show zT _ _ _ _ _ _);refine zA rfl fun _ => ?_) | ((with_reducible show zK _ _ _ _ _ _ _);refine zH rfl omA omA ?_) | ((with_reducible show zD _ _ _ 183 _ _);refine zB (c_eqNode) ?_) | (with_reducible refine zP (i:=6) [(0,[],[]),(1,[],[]),(2,[],[]),(3,[],[]),(4,[],[]),(5,[],[]),(6,[],[]),(7,[],[]),(8,[],[]),(9,[],[])] (by kernel_rfl) ?_)) <;> simp [-qt,-qd,-ql,rgs,hl,yS]) | ((with_reducible refine zC ?_ ?_) <;> intro qb <;> (have qp:=qb;try simp only [psq] at qp) <;> simp [-qt,-qd,-ql,rgs,hl,yS,qb])
   all_goals first
   | (have hlt:i < xs.length:=(by first | omega | (simp at *; omega))
      rw [zQ hlt,zQ (xs:=ys) (i:=i) (by omega),List.cons_beq_cons] at hJ
      first
      | (refine hnx.go () ?_ ?_ ?_ ?_ ?_ ?_;omega;(simp [zI hlt hlim]);(simp);exact zG;(first | omega | (simp;omega));(try dsimp only);clear hnx;first | (simp_all;done) | grind)
      | (refine ⟨?_,zG⟩;clear hnx;first | (simp_all;done) | grind)
      | (clear hnx;first | (simp_all;done) | grind))
   | (obtain rfl:i = xs.length:=(by first | omega | (simp at *; omega))
      rw [List.drop_eq_nil_of_le (Nat.le_refl _),List.drop_eq_nil_of_le (by omega)] at hJ
      refine ⟨?_,zG⟩;clear hnx;first | (simp_all;done) | grind)
 ·refine PC.o okC Tryz.func65 rfl (.bool _) fun h nx hnx => ?_
  try simp [-qt,-qd,-ql,rgs]
  repeat' first | done | (((with_reducible show zT _ _ _ _ _ _);refine zA rfl fun _ => ?_) <;> simp [-qt,-qd,-ql,rgs]) | ((with_reducible refine zC ?_ ?_) <;> intro qb <;> (have qp:=qb;try simp only [psq] at qp) <;> simp [-qt,-qd,-ql,rgs,qb])
  all_goals first | (exfalso;omega) | (symm;rw [beq_eq_false_iff_ne];intro e;exact hl (by rw [e])) | (intro e;exact hl (by rw [e])) | skip
theorem c_szNodeS {p:Bool} {xs:List Nod} {k:Int} (h0:0 ≤ k) (h1:k ≤ 1048576):PC ctx.P 39 [.view p 5 (xs.map yS),.int .i64 k] (.int .i64 (szR xs.length k)):=by
 refine PC.lim (n:=xs.length) (x:=.view p 5 (xs.map yS)) (by simp) (.here (by simp)) ⟨_,Tryz.func39,by kernel_rfl,by kernel_rfl⟩ fun hlim => ?_
 simp only [LIM] at hlim
 refine PC.o okC Tryz.func39 rfl (.int _ _) fun h nx hnx => ?_
 try simp [-qt,-qd,-ql,rgs,zE (x:=k - (xs.length:Int)) (by omega)]
 repeat' first | done | (((with_reducible show zT _ _ _ _ _ _);refine zA rfl fun _ => ?_) <;> simp [-qt,-qd,-ql,rgs,zE (x:=k - (xs.length:Int)) (by omega)]) | ((with_reducible refine zC ?_ ?_) <;> intro qb <;> (have qp:=qb;try simp only [psq] at qp) <;> simp [-qt,-qd,-ql,rgs,zE (x:=k - (xs.length:Int)) (by omega),qb])
 all_goals (clear hnx;simp only [szR];split <;> first | omega | (simp;omega))
theorem c_toEvent {x:Evt}:PC ctx.P 167 [.agg (vD x)] (.agg (vD x)):=by
 refine PC.o okC Tryz.func167 rfl (.agg _ (zQ2 x)) fun h nx hnx => ?_
 try simp [-qt,-qd,-ql,rgs,vD]
theorem c_eqEvent {x y:Evt}:PC ctx.P 184 [.agg (vD x),.agg (vD y)] (.bool (x == y)):=by
 rw [evt_beq]
 refine PC.o okC Tryz.func184 rfl (.bool _) fun h nx hnx => ?_
 try simp [-qt,-qd,-ql,rgs,vD]
 repeat' first | done | ((with_reducible refine zC ?_ ?_) <;> intro qb <;> (have qp:=qb;try simp only [psq] at qp) <;> simp [-qt,-qd,-ql,rgs,vD,qb])
 all_goals (try clear hnx)
 all_goals (simp_all [];done)
theorem c_eqEventS {p q:Bool} {xs ys:List Evt}:PC ctx.P 66 [.view p 4 (xs.map vD),.view q 4 (ys.map vD)] (.bool (xs == ys)):=by
 refine PC.lim (n:=xs.length) (x:=.view p 4 (xs.map vD)) (by simp) (.here (by simp)) ⟨_,Tryz.func66,by kernel_rfl,by kernel_rfl⟩ fun hlim => ?_
 by_cases hl:xs.length = ys.length
 ·refine PC.o okC Tryz.func66 rfl (.bool _) fun h nx hnx => ?_
  try simp [-qt,-qd,-ql,rgs,hl]
  repeat' first | done | (((with_reducible show zT _ _ _ _ _ _);refine zA rfl fun _ => ?_) <;> simp [-qt,-qd,-ql,rgs,hl]) | fail
  refine zR [4,5,11,12,13,14,15,16,17,18,19,20,21,22,23,24,25,26] (ys.length) (fun (i:Nat) a=>[(5,.int .i64 i)]) (fun i_ a_ h_ _=>(fun i (_:Unit) _=>(xs.drop i == ys.drop i) = (xs == ys)) i_ a_ h_) (()) (by simp) ?_ zO (Nat.le_refl _) ?_
  ·simp
  ·intro i a tm h' n' hle hJ hE hn' next hnx
   try dsimp only at hJ
   have hK:KeepB nx h' h:=KeepB.sub hE zG (by omega)
   simp [-qt,-qd,-ql]
   try simp [-qt,-qd,-ql,rgs,hl,vD]
   repeat' first | done | ((first | ((with_reducible show zT _ _ _ _ _ _);refine zA rfl fun _ => ?_) | ((with_reducible show zK _ _ _ _ _ _ _);refine zH rfl omA omA ?_) | ((with_reducible show zD _ _ _ 184 _ _);refine zB (c_eqEvent) ?_) | (with_reducible refine zP (i:=6) [(0,[],[]),(1,[],[]),(2,[],[]),(3,[],[]),(4,[],[]),(5,[],[]),(6,[],[]),(7,[],[]),(8,[],[]),(9,[],[])] (by kernel_rfl) ?_)) <;> simp [-qt,-qd,-ql,rgs,hl,vD]) | ((with_reducible refine zC ?_ ?_) <;> intro qb <;> (have qp:=qb;try simp only [psq] at qp) <;> simp [-qt,-qd,-ql,rgs,hl,vD,qb])
   all_goals first
   | (have hlt:i < xs.length:=(by first | omega | (simp at *; omega))
      rw [zQ hlt,zQ (xs:=ys) (i:=i) (by omega),List.cons_beq_cons] at hJ
      first
      | (refine hnx.go () ?_ ?_ ?_ ?_ ?_ ?_;omega;(simp [zI hlt hlim]);(simp);exact zG;(first | omega | (simp;omega));(try dsimp only);clear hnx;first | (simp_all;done) | grind)
      | (refine ⟨?_,zG⟩;clear hnx;first | (simp_all;done) | grind)
      | (clear hnx;first | (simp_all;done) | grind))
   | (obtain rfl:i = xs.length:=(by first | omega | (simp at *; omega))
      rw [List.drop_eq_nil_of_le (Nat.le_refl _),List.drop_eq_nil_of_le (by omega)] at hJ
      refine ⟨?_,zG⟩;clear hnx;first | (simp_all;done) | grind)
 ·refine PC.o okC Tryz.func66 rfl (.bool _) fun h nx hnx => ?_
  try simp [-qt,-qd,-ql,rgs]
  repeat' first | done | (((with_reducible show zT _ _ _ _ _ _);refine zA rfl fun _ => ?_) <;> simp [-qt,-qd,-ql,rgs]) | ((with_reducible refine zC ?_ ?_) <;> intro qb <;> (have qp:=qb;try simp only [psq] at qp) <;> simp [-qt,-qd,-ql,rgs,qb])
  all_goals first | (exfalso;omega) | (symm;rw [beq_eq_false_iff_ne];intro e;exact hl (by rw [e])) | (intro e;exact hl (by rw [e])) | skip
theorem c_szEventS {p:Bool} {xs:List Evt} {k:Int} (h0:0 ≤ k) (h1:k ≤ 1048576):PC ctx.P 40 [.view p 4 (xs.map vD),.int .i64 k] (.int .i64 (szR xs.length k)):=by
 refine PC.lim (n:=xs.length) (x:=.view p 4 (xs.map vD)) (by simp) (.here (by simp)) ⟨_,Tryz.func40,by kernel_rfl,by kernel_rfl⟩ fun hlim => ?_
 simp only [LIM] at hlim
 refine PC.o okC Tryz.func40 rfl (.int _ _) fun h nx hnx => ?_
 try simp [-qt,-qd,-ql,rgs,zE (x:=k - (xs.length:Int)) (by omega)]
 repeat' first | done | (((with_reducible show zT _ _ _ _ _ _);refine zA rfl fun _ => ?_) <;> simp [-qt,-qd,-ql,rgs,zE (x:=k - (xs.length:Int)) (by omega)]) | ((with_reducible refine zC ?_ ?_) <;> intro qb <;> (have qp:=qb;try simp only [psq] at qp) <;> simp [-qt,-qd,-ql,rgs,zE (x:=k - (xs.length:Int)) (by omega),qb])
 all_goals (clear hnx;simp only [szR];split <;> first | omega | (simp;omega))
theorem c_toTwig {x:Twg}:PC ctx.P 288 [.agg (zZ x)] (.agg (zZ x)):=by
 refine PC.o okC Tryz.func288 rfl (.agg _ (yJ x)) fun h nx hnx => ?_
 try simp [-qt,-qd,-ql,rgs,zZ]
theorem c_eqTwig {x y:Twg}:PC ctx.P 296 [.agg (zZ x),.agg (zZ y)] (.bool (x == y)):=by
 rw [twg_beq]
 refine PC.o okC Tryz.func296 rfl (.bool _) fun h nx hnx => ?_
 try simp [-qt,-qd,-ql,rgs,zZ]
 repeat' first | done | ((with_reducible refine zC ?_ ?_) <;> intro qb <;> (have qp:=qb;try simp only [psq] at qp) <;> simp [-qt,-qd,-ql,rgs,zZ,qb])
 all_goals (try clear hnx)
 all_goals (simp_all [];done)
theorem c_eqTwigS {p q:Bool} {xs ys:List Twg}:PC ctx.P 186 [.view p 3 (xs.map zZ),.view q 3 (ys.map zZ)] (.bool (xs == ys)):=by
 refine PC.lim (n:=xs.length) (x:=.view p 3 (xs.map zZ)) (by simp) (.here (by simp)) ⟨_,Tryz.func186,by kernel_rfl,by kernel_rfl⟩ fun hlim => ?_
 by_cases hl:xs.length = ys.length
 ·refine PC.o okC Tryz.func186 rfl (.bool _) fun h nx hnx => ?_
  try simp [-qt,-qd,-ql,rgs,hl]
  repeat' first | done | (((with_reducible show zT _ _ _ _ _ _);refine zA rfl fun _ => ?_) <;> simp [-qt,-qd,-ql,rgs,hl]) | fail
  refine zR [4,5,11,12,13,14,15,16,17,18,19,20,21,22,23,24,25,26] (ys.length) (fun (i:Nat) a=>[(5,.int .i64 i)]) (fun i_ a_ h_ _=>(fun i (_:Unit) _=>(xs.drop i == ys.drop i) = (xs == ys)) i_ a_ h_) (()) (by simp) ?_ zO (Nat.le_refl _) ?_
  ·simp
  ·intro i a tm h' n' hle hJ hE hn' next hnx
   try dsimp only at hJ
   have hK:KeepB nx h' h:=KeepB.sub hE zG (by omega)
   simp [-qt,-qd,-ql]
   try simp [-qt,-qd,-ql,rgs,hl,zZ]
   repeat' first | done | ((first | ((with_reducible show zT _ _ _ _ _ _);refine zA rfl fun _ => ?_) | ((with_reducible show zK _ _ _ _ _ _ _);refine zH rfl omA omA ?_) | ((with_reducible show zD _ _ _ 296 _ _);refine zB (c_eqTwig) ?_) | (with_reducible refine zP (i:=6) [(0,[],[]),(1,[],[]),(2,[],[]),(3,[],[]),(4,[],[]),(5,[],[]),(6,[],[]),(7,[],[]),(8,[],[]),(9,[],[])] (by kernel_rfl) ?_)) <;> simp [-qt,-qd,-ql,rgs,hl,zZ]) | ((with_reducible refine zC ?_ ?_) <;> intro qb <;> (have qp:=qb;try simp only [psq] at qp) <;> simp [-qt,-qd,-ql,rgs,hl,zZ,qb])
   all_goals first
   | (have hlt:i < xs.length:=(by first | omega | (simp at *; omega))
      rw [zQ hlt,zQ (xs:=ys) (i:=i) (by omega),List.cons_beq_cons] at hJ
      first
      | (refine hnx.go () ?_ ?_ ?_ ?_ ?_ ?_;omega;(simp [zI hlt hlim]);(simp);exact zG;(first | omega | (simp;omega));(try dsimp only);clear hnx;first | (simp_all;done) | grind)
      | (refine ⟨?_,zG⟩;clear hnx;first | (simp_all;done) | grind)
      | (clear hnx;first | (simp_all;done) | grind))
   | (obtain rfl:i = xs.length:=(by first | omega | (simp at *; omega))
      rw [List.drop_eq_nil_of_le (Nat.le_refl _),List.drop_eq_nil_of_le (by omega)] at hJ
      refine ⟨?_,zG⟩;clear hnx;first | (simp_all;done) | grind)
 ·refine PC.o okC Tryz.func186 rfl (.bool _) fun h nx hnx => ?_
  try simp [-qt,-qd,-ql,rgs]
  repeat' first | done | (((with_reducible show zT _ _ _ _ _ _);refine zA rfl fun _ => ?_) <;> simp [-qt,-qd,-ql,rgs]) | ((with_reducible refine zC ?_ ?_) <;> intro qb <;> (have qp:=qb;try simp only [psq] at qp) <;> simp [-qt,-qd,-ql,rgs,qb])
  all_goals first | (exfalso;omega) | (symm;rw [beq_eq_false_iff_ne];intro e;exact hl (by rw [e])) | (intro e;exact hl (by rw [e])) | skip
theorem c_szTwigS {p:Bool} {xs:List Twg} {k:Int} (h0:0 ≤ k) (h1:k ≤ 1048576):PC ctx.P 138 [.view p 3 (xs.map zZ),.int .i64 k] (.int .i64 (szR xs.length k)):=by
 refine PC.lim (n:=xs.length) (x:=.view p 3 (xs.map zZ)) (by simp) (.here (by simp)) ⟨_,Tryz.func138,by kernel_rfl,by kernel_rfl⟩ fun hlim => ?_
 simp only [LIM] at hlim
 refine PC.o okC Tryz.func138 rfl (.int _ _) fun h nx hnx => ?_
 try simp [-qt,-qd,-ql,rgs,zE (x:=k - (xs.length:Int)) (by omega)]
 repeat' first | done | (((with_reducible show zT _ _ _ _ _ _);refine zA rfl fun _ => ?_) <;> simp [-qt,-qd,-ql,rgs,zE (x:=k - (xs.length:Int)) (by omega)]) | ((with_reducible refine zC ?_ ?_) <;> intro qb <;> (have qp:=qb;try simp only [psq] at qp) <;> simp [-qt,-qd,-ql,rgs,zE (x:=k - (xs.length:Int)) (by omega),qb])
 all_goals (clear hnx;simp only [szR];split <;> first | omega | (simp;omega))
theorem c_toTimer {x:Tmr}:PC ctx.P 289 [.agg (yN x)] (.agg (yN x)):=by
 refine PC.o okC Tryz.func289 rfl (.agg _ (uV x)) fun h nx hnx => ?_
 try simp [-qt,-qd,-ql,rgs,yN]
theorem c_eqTimer {x y:Tmr}:PC ctx.P 297 [.agg (yN x),.agg (yN y)] (.bool (x == y)):=by
 rw [tmr_beq]
 refine PC.o okC Tryz.func297 rfl (.bool _) fun h nx hnx => ?_
 try simp [-qt,-qd,-ql,rgs,yN]
 repeat' first | done | ((with_reducible refine zC ?_ ?_) <;> intro qb <;> (have qp:=qb;try simp only [psq] at qp) <;> simp [-qt,-qd,-ql,rgs,yN,qb])
 all_goals (try clear hnx)
 all_goals (simp_all [];done)
theorem c_eqTimerS {p q:Bool} {xs ys:List Tmr}:PC ctx.P 187 [.view p 5 (xs.map yN),.view q 5 (ys.map yN)] (.bool (xs == ys)):=by
 refine PC.lim (n:=xs.length) (x:=.view p 5 (xs.map yN)) (by simp) (.here (by simp)) ⟨_,Tryz.func187,by kernel_rfl,by kernel_rfl⟩ fun hlim => ?_
 by_cases hl:xs.length = ys.length
 ·refine PC.o okC Tryz.func187 rfl (.bool _) fun h nx hnx => ?_
  try simp [-qt,-qd,-ql,rgs,hl]
  repeat' first | done | (((with_reducible show zT _ _ _ _ _ _);refine zA rfl fun _ => ?_) <;> simp [-qt,-qd,-ql,rgs,hl]) | fail
  refine zR [4,5,11,12,13,14,15,16,17,18,19,20,21,22,23,24,25,26] (ys.length) (fun (i:Nat) a=>[(5,.int .i64 i)]) (fun i_ a_ h_ _=>(fun i (_:Unit) _=>(xs.drop i == ys.drop i) = (xs == ys)) i_ a_ h_) (()) (by simp) ?_ zO (Nat.le_refl _) ?_
  ·simp
  ·intro i a tm h' n' hle hJ hE hn' next hnx
   try dsimp only at hJ
   have hK:KeepB nx h' h:=KeepB.sub hE zG (by omega)
   simp [-qt,-qd,-ql]
   try simp [-qt,-qd,-ql,rgs,hl,yN]
   repeat' first | done | ((first | ((with_reducible show zT _ _ _ _ _ _);refine zA rfl fun _ => ?_) | ((with_reducible show zK _ _ _ _ _ _ _);refine zH rfl omA omA ?_) | ((with_reducible show zD _ _ _ 297 _ _);refine zB (c_eqTimer) ?_) | (with_reducible refine zP (i:=6) [(0,[],[]),(1,[],[]),(2,[],[]),(3,[],[]),(4,[],[]),(5,[],[]),(6,[],[]),(7,[],[]),(8,[],[]),(9,[],[])] (by kernel_rfl) ?_)) <;> simp [-qt,-qd,-ql,rgs,hl,yN]) | ((with_reducible refine zC ?_ ?_) <;> intro qb <;> (have qp:=qb;try simp only [psq] at qp) <;> simp [-qt,-qd,-ql,rgs,hl,yN,qb])
   all_goals first
   | (have hlt:i < xs.length:=(by first | omega | (simp at *; omega))
      rw [zQ hlt,zQ (xs:=ys) (i:=i) (by omega),List.cons_beq_cons] at hJ
      first
      | (refine hnx.go () ?_ ?_ ?_ ?_ ?_ ?_;omega;(simp [zI hlt hlim]);(simp);exact zG;(first | omega | (simp;omega));(try dsimp only);clear hnx;first | (simp_all;done) | grind)
      | (refine ⟨?_,zG⟩;clear hnx;first | (simp_all;done) | grind)
      | (clear hnx;first | (simp_all;done) | grind))
   | (obtain rfl:i = xs.length:=(by first | omega | (simp at *; omega))
      rw [List.drop_eq_nil_of_le (Nat.le_refl _),List.drop_eq_nil_of_le (by omega)] at hJ
      refine ⟨?_,zG⟩;clear hnx;first | (simp_all;done) | grind)
 ·refine PC.o okC Tryz.func187 rfl (.bool _) fun h nx hnx => ?_
  try simp [-qt,-qd,-ql,rgs]
  repeat' first | done | (((with_reducible show zT _ _ _ _ _ _);refine zA rfl fun _ => ?_) <;> simp [-qt,-qd,-ql,rgs]) | ((with_reducible refine zC ?_ ?_) <;> intro qb <;> (have qp:=qb;try simp only [psq] at qp) <;> simp [-qt,-qd,-ql,rgs,qb])
  all_goals first | (exfalso;omega) | (symm;rw [beq_eq_false_iff_ne];intro e;exact hl (by rw [e])) | (intro e;exact hl (by rw [e])) | skip
theorem c_szTimerS {p:Bool} {xs:List Tmr} {k:Int} (h0:0 ≤ k) (h1:k ≤ 1048576):PC ctx.P 139 [.view p 5 (xs.map yN),.int .i64 k] (.int .i64 (szR xs.length k)):=by
 refine PC.lim (n:=xs.length) (x:=.view p 5 (xs.map yN)) (by simp) (.here (by simp)) ⟨_,Tryz.func139,by kernel_rfl,by kernel_rfl⟩ fun hlim => ?_
 simp only [LIM] at hlim
 refine PC.o okC Tryz.func139 rfl (.int _ _) fun h nx hnx => ?_
 try simp [-qt,-qd,-ql,rgs,zE (x:=k - (xs.length:Int)) (by omega)]
 repeat' first | done | (((with_reducible show zT _ _ _ _ _ _);refine zA rfl fun _ => ?_) <;> simp [-qt,-qd,-ql,rgs,zE (x:=k - (xs.length:Int)) (by omega)]) | ((with_reducible refine zC ?_ ?_) <;> intro qb <;> (have qp:=qb;try simp only [psq] at qp) <;> simp [-qt,-qd,-ql,rgs,zE (x:=k - (xs.length:Int)) (by omega),qb])
 all_goals (clear hnx;simp only [szR];split <;> first | omega | (simp;omega))
theorem c_toAfter {x:Afr}:PC ctx.P 290 [.agg (vB x)] (.agg (vB x)):=by
 refine PC.o okC Tryz.func290 rfl (.agg _ (zA0 x)) fun h nx hnx => ?_
 try simp [-qt,-qd,-ql,rgs,vB,zG0]
 repeat' first | done | (((with_reducible show zD _ _ _ 369 _ _);refine zB (c_toHandle (x:=x.han)) ?_) <;> simp [-qt,-qd,-ql,rgs,vB,zG0]) | fail
theorem c_eqAfter {x y:Afr}:PC ctx.P 298 [.agg (vB x),.agg (vB y)] (.bool (x == y)):=by
 rw [afr_beq]
 refine PC.o okC Tryz.func298 rfl (.bool _) fun h nx hnx => ?_
 try simp [-qt,-qd,-ql,rgs,vB,zG0]
 repeat' first | done | (((with_reducible show zD _ _ _ 370 _ _);refine zB (c_eqHandle (x:=x.han) (y:=y.han)) ?_) <;> simp [-qt,-qd,-ql,rgs,vB,zG0]) | ((with_reducible refine zC ?_ ?_) <;> intro qb <;> (have qp:=qb;try simp only [psq] at qp) <;> simp [-qt,-qd,-ql,rgs,vB,zG0,qb])
 all_goals (try clear hnx)
 all_goals (simp_all [];done)
theorem c_eqAfterS {p q:Bool} {xs ys:List Afr}:PC ctx.P 189 [.view p 5 (xs.map vB),.view q 5 (ys.map vB)] (.bool (xs == ys)):=by
 refine PC.lim (n:=xs.length) (x:=.view p 5 (xs.map vB)) (by simp) (.here (by simp)) ⟨_,Tryz.func189,by kernel_rfl,by kernel_rfl⟩ fun hlim => ?_
 by_cases hl:xs.length = ys.length
 ·refine PC.o okC Tryz.func189 rfl (.bool _) fun h nx hnx => ?_
  try simp [-qt,-qd,-ql,rgs,hl]
  repeat' first | done | (((with_reducible show zT _ _ _ _ _ _);refine zA rfl fun _ => ?_) <;> simp [-qt,-qd,-ql,rgs,hl]) | fail
  refine zR [4,5,11,12,13,14,15,16,17,18,19,20,21,22,23,24,25,26] (ys.length) (fun (i:Nat) a=>[(5,.int .i64 i)]) (fun i_ a_ h_ _=>(fun i (_:Unit) _=>(xs.drop i == ys.drop i) = (xs == ys)) i_ a_ h_) (()) (by simp) ?_ zO (Nat.le_refl _) ?_
  ·simp
  ·intro i a tm h' n' hle hJ hE hn' next hnx
   try dsimp only at hJ
   have hK:KeepB nx h' h:=KeepB.sub hE zG (by omega)
   simp [-qt,-qd,-ql]
   try simp [-qt,-qd,-ql,rgs,hl,vB]
   repeat' first | done | ((first | ((with_reducible show zT _ _ _ _ _ _);refine zA rfl fun _ => ?_) | ((with_reducible show zK _ _ _ _ _ _ _);refine zH rfl omA omA ?_) | ((with_reducible show zD _ _ _ 298 _ _);refine zB (c_eqAfter) ?_) | (with_reducible refine zP (i:=6) [(0,[],[]),(1,[],[]),(2,[],[]),(3,[],[]),(4,[],[]),(5,[],[]),(6,[],[]),(7,[],[]),(8,[],[]),(9,[],[])] (by kernel_rfl) ?_)) <;> simp [-qt,-qd,-ql,rgs,hl,vB]) | ((with_reducible refine zC ?_ ?_) <;> intro qb <;> (have qp:=qb;try simp only [psq] at qp) <;> simp [-qt,-qd,-ql,rgs,hl,vB,qb])
   all_goals first
   | (have hlt:i < xs.length:=(by first | omega | (simp at *; omega))
      rw [zQ hlt,zQ (xs:=ys) (i:=i) (by omega),List.cons_beq_cons] at hJ
      first
      | (refine hnx.go () ?_ ?_ ?_ ?_ ?_ ?_;omega;(simp [zI hlt hlim]);(simp);exact zG;(first | omega | (simp;omega));(try dsimp only);clear hnx;first | (simp_all;done) | grind)
      | (refine ⟨?_,zG⟩;clear hnx;first | (simp_all;done) | grind)
      | (clear hnx;first | (simp_all;done) | grind))
   | (obtain rfl:i = xs.length:=(by first | omega | (simp at *; omega))
      rw [List.drop_eq_nil_of_le (Nat.le_refl _),List.drop_eq_nil_of_le (by omega)] at hJ
      refine ⟨?_,zG⟩;clear hnx;first | (simp_all;done) | grind)
 ·refine PC.o okC Tryz.func189 rfl (.bool _) fun h nx hnx => ?_
  try simp [-qt,-qd,-ql,rgs]
  repeat' first | done | (((with_reducible show zT _ _ _ _ _ _);refine zA rfl fun _ => ?_) <;> simp [-qt,-qd,-ql,rgs]) | ((with_reducible refine zC ?_ ?_) <;> intro qb <;> (have qp:=qb;try simp only [psq] at qp) <;> simp [-qt,-qd,-ql,rgs,qb])
  all_goals first | (exfalso;omega) | (symm;rw [beq_eq_false_iff_ne];intro e;exact hl (by rw [e])) | (intro e;exact hl (by rw [e])) | skip
theorem c_szAfterS {p:Bool} {xs:List Afr} {k:Int} (h0:0 ≤ k) (h1:k ≤ 1048576):PC ctx.P 141 [.view p 5 (xs.map vB),.int .i64 k] (.int .i64 (szR xs.length k)):=by
 refine PC.lim (n:=xs.length) (x:=.view p 5 (xs.map vB)) (by simp) (.here (by simp)) ⟨_,Tryz.func141,by kernel_rfl,by kernel_rfl⟩ fun hlim => ?_
 simp only [LIM] at hlim
 refine PC.o okC Tryz.func141 rfl (.int _ _) fun h nx hnx => ?_
 try simp [-qt,-qd,-ql,rgs,zE (x:=k - (xs.length:Int)) (by omega)]
 repeat' first | done | (((with_reducible show zT _ _ _ _ _ _);refine zA rfl fun _ => ?_) <;> simp [-qt,-qd,-ql,rgs,zE (x:=k - (xs.length:Int)) (by omega)]) | ((with_reducible refine zC ?_ ?_) <;> intro qb <;> (have qp:=qb;try simp only [psq] at qp) <;> simp [-qt,-qd,-ql,rgs,zE (x:=k - (xs.length:Int)) (by omega),qb])
 all_goals (clear hnx;simp only [szR];split <;> first | omega | (simp;omega))
theorem c_toTask {x:Tsk}:PC ctx.P 173 [.agg (yM x)] (.agg (yM x)):=by
 refine PC.o okC Tryz.func173 rfl (.agg _ (zE0 x)) fun h nx hnx => ?_
 try simp [-qt,-qd,-ql,rgs,yM]
theorem c_eqTask {x y:Tsk}:PC ctx.P 190 [.agg (yM x),.agg (yM y)] (.bool (x == y)):=by
 rw [tsk_beq]
 refine PC.o okC Tryz.func190 rfl (.bool _) fun h nx hnx => ?_
 try simp [-qt,-qd,-ql,rgs,yM]
 repeat' first | done | ((with_reducible refine zC ?_ ?_) <;> intro qb <;> (have qp:=qb;try simp only [psq] at qp) <;> simp [-qt,-qd,-ql,rgs,yM,qb])
 all_goals (try clear hnx)
 all_goals (simp_all [];done)
theorem c_eqTaskS {p q:Bool} {xs ys:List Tsk}:PC ctx.P 70 [.view p 9 (xs.map yM),.view q 9 (ys.map yM)] (.bool (xs == ys)):=by
 refine PC.lim (n:=xs.length) (x:=.view p 9 (xs.map yM)) (by simp) (.here (by simp)) ⟨_,Tryz.func70,by kernel_rfl,by kernel_rfl⟩ fun hlim => ?_
 by_cases hl:xs.length = ys.length
 ·refine PC.o okC Tryz.func70 rfl (.bool _) fun h nx hnx => ?_
  try simp [-qt,-qd,-ql,rgs,hl]
  repeat' first | done | (((with_reducible show zT _ _ _ _ _ _);refine zA rfl fun _ => ?_) <;> simp [-qt,-qd,-ql,rgs,hl]) | fail
  refine zR [4,5,11,12,13,14,15,16,17,18,19,20,21,22,23,24,25,26] (ys.length) (fun (i:Nat) a=>[(5,.int .i64 i)]) (fun i_ a_ h_ _=>(fun i (_:Unit) _=>(xs.drop i == ys.drop i) = (xs == ys)) i_ a_ h_) (()) (by simp) ?_ zO (Nat.le_refl _) ?_
  ·simp
  ·intro i a tm h' n' hle hJ hE hn' next hnx
   try dsimp only at hJ
   have hK:KeepB nx h' h:=KeepB.sub hE zG (by omega)
   simp [-qt,-qd,-ql]
   try simp [-qt,-qd,-ql,rgs,hl,yM]
   repeat' first | done | ((first | ((with_reducible show zT _ _ _ _ _ _);refine zA rfl fun _ => ?_) | ((with_reducible show zK _ _ _ _ _ _ _);refine zH rfl omA omA ?_) | ((with_reducible show zD _ _ _ 190 _ _);refine zB (c_eqTask) ?_) | (with_reducible refine zP (i:=6) [(0,[],[]),(1,[],[]),(2,[],[]),(3,[],[]),(4,[],[]),(5,[],[]),(6,[],[]),(7,[],[]),(8,[],[]),(9,[],[])] (by kernel_rfl) ?_)) <;> simp [-qt,-qd,-ql,rgs,hl,yM]) | ((with_reducible refine zC ?_ ?_) <;> intro qb <;> (have qp:=qb;try simp only [psq] at qp) <;> simp [-qt,-qd,-ql,rgs,hl,yM,qb])
   all_goals first
   | (have hlt:i < xs.length:=(by first | omega | (simp at *; omega))
      rw [zQ hlt,zQ (xs:=ys) (i:=i) (by omega),List.cons_beq_cons] at hJ
      first
      | (refine hnx.go () ?_ ?_ ?_ ?_ ?_ ?_;omega;(simp [zI hlt hlim]);(simp);exact zG;(first | omega | (simp;omega));(try dsimp only);clear hnx;first | (simp_all;done) | grind)
      | (refine ⟨?_,zG⟩;clear hnx;first | (simp_all;done) | grind)
      | (clear hnx;first | (simp_all;done) | grind))
   | (obtain rfl:i = xs.length:=(by first | omega | (simp at *; omega))
      rw [List.drop_eq_nil_of_le (Nat.le_refl _),List.drop_eq_nil_of_le (by omega)] at hJ
      refine ⟨?_,zG⟩;clear hnx;first | (simp_all;done) | grind)
 ·refine PC.o okC Tryz.func70 rfl (.bool _) fun h nx hnx => ?_
  try simp [-qt,-qd,-ql,rgs]
  repeat' first | done | (((with_reducible show zT _ _ _ _ _ _);refine zA rfl fun _ => ?_) <;> simp [-qt,-qd,-ql,rgs]) | ((with_reducible refine zC ?_ ?_) <;> intro qb <;> (have qp:=qb;try simp only [psq] at qp) <;> simp [-qt,-qd,-ql,rgs,qb])
  all_goals first | (exfalso;omega) | (symm;rw [beq_eq_false_iff_ne];intro e;exact hl (by rw [e])) | (intro e;exact hl (by rw [e])) | skip
theorem c_szTaskS {p:Bool} {xs:List Tsk} {k:Int} (h0:0 ≤ k) (h1:k ≤ 1048576):PC ctx.P 44 [.view p 9 (xs.map yM),.int .i64 k] (.int .i64 (szR xs.length k)):=by
 refine PC.lim (n:=xs.length) (x:=.view p 9 (xs.map yM)) (by simp) (.here (by simp)) ⟨_,Tryz.func44,by kernel_rfl,by kernel_rfl⟩ fun hlim => ?_
 simp only [LIM] at hlim
 refine PC.o okC Tryz.func44 rfl (.int _ _) fun h nx hnx => ?_
 try simp [-qt,-qd,-ql,rgs,zE (x:=k - (xs.length:Int)) (by omega)]
 repeat' first | done | (((with_reducible show zT _ _ _ _ _ _);refine zA rfl fun _ => ?_) <;> simp [-qt,-qd,-ql,rgs,zE (x:=k - (xs.length:Int)) (by omega)]) | ((with_reducible refine zC ?_ ?_) <;> intro qb <;> (have qp:=qb;try simp only [psq] at qp) <;> simp [-qt,-qd,-ql,rgs,zE (x:=k - (xs.length:Int)) (by omega),qb])
 all_goals (clear hnx;simp only [szR];split <;> first | omega | (simp;omega))
theorem c_toSight {x:Sgt}:PC ctx.P 175 [.agg (uU x)] (.agg (uU x)):=by
 refine PC.o okC Tryz.func175 rfl (.agg _ (sgtC_fz x)) fun h nx hnx => ?_
 try simp [-qt,-qd,-ql,rgs,uU]
theorem c_eqSight {x y:Sgt}:PC ctx.P 192 [.agg (uU x),.agg (uU y)] (.bool (x == y)):=by
 rw [sgt_beq]
 refine PC.o okC Tryz.func192 rfl (.bool _) fun h nx hnx => ?_
 try simp [-qt,-qd,-ql,rgs,uU]
 repeat' first | done | ((with_reducible refine zC ?_ ?_) <;> intro qb <;> (have qp:=qb;try simp only [psq] at qp) <;> simp [-qt,-qd,-ql,rgs,uU,qb])
 all_goals (try clear hnx)
 all_goals (simp_all [];done)
theorem c_eqSightS {p q:Bool} {xs ys:List Sgt}:PC ctx.P 72 [.view p 4 (xs.map uU),.view q 4 (ys.map uU)] (.bool (xs == ys)):=by
 refine PC.lim (n:=xs.length) (x:=.view p 4 (xs.map uU)) (by simp) (.here (by simp)) ⟨_,Tryz.func72,by kernel_rfl,by kernel_rfl⟩ fun hlim => ?_
 by_cases hl:xs.length = ys.length
 ·refine PC.o okC Tryz.func72 rfl (.bool _) fun h nx hnx => ?_
  try simp [-qt,-qd,-ql,rgs,hl]
  repeat' first | done | (((with_reducible show zT _ _ _ _ _ _);refine zA rfl fun _ => ?_) <;> simp [-qt,-qd,-ql,rgs,hl]) | fail
  refine zR [4,5,11,12,13,14,15,16,17,18,19,20,21,22,23,24,25,26] (ys.length) (fun (i:Nat) a=>[(5,.int .i64 i)]) (fun i_ a_ h_ _=>(fun i (_:Unit) _=>(xs.drop i == ys.drop i) = (xs == ys)) i_ a_ h_) (()) (by simp) ?_ zO (Nat.le_refl _) ?_
  ·simp
  ·intro i a tm h' n' hle hJ hE hn' next hnx
   try dsimp only at hJ
   have hK:KeepB nx h' h:=KeepB.sub hE zG (by omega)
   simp [-qt,-qd,-ql]
   try simp [-qt,-qd,-ql,rgs,hl,uU]
   repeat' first | done | ((first | ((with_reducible show zT _ _ _ _ _ _);refine zA rfl fun _ => ?_) | ((with_reducible show zK _ _ _ _ _ _ _);refine zH rfl omA omA ?_) | ((with_reducible show zD _ _ _ 192 _ _);refine zB (c_eqSight) ?_) | (with_reducible refine zP (i:=6) [(0,[],[]),(1,[],[]),(2,[],[]),(3,[],[]),(4,[],[]),(5,[],[]),(6,[],[]),(7,[],[]),(8,[],[]),(9,[],[])] (by kernel_rfl) ?_)) <;> simp [-qt,-qd,-ql,rgs,hl,uU]) | ((with_reducible refine zC ?_ ?_) <;> intro qb <;> (have qp:=qb;try simp only [psq] at qp) <;> simp [-qt,-qd,-ql,rgs,hl,uU,qb])
   all_goals first
   | (have hlt:i < xs.length:=(by first | omega | (simp at *; omega))
      rw [zQ hlt,zQ (xs:=ys) (i:=i) (by omega),List.cons_beq_cons] at hJ
      first
      | (refine hnx.go () ?_ ?_ ?_ ?_ ?_ ?_;omega;(simp [zI hlt hlim]);(simp);exact zG;(first | omega | (simp;omega));(try dsimp only);clear hnx;first | (simp_all;done) | grind)
      | (refine ⟨?_,zG⟩;clear hnx;first | (simp_all;done) | grind)
      | (clear hnx;first | (simp_all;done) | grind))
   | (obtain rfl:i = xs.length:=(by first | omega | (simp at *; omega))
      rw [List.drop_eq_nil_of_le (Nat.le_refl _),List.drop_eq_nil_of_le (by omega)] at hJ
      refine ⟨?_,zG⟩;clear hnx;first | (simp_all;done) | grind)
 ·refine PC.o okC Tryz.func72 rfl (.bool _) fun h nx hnx => ?_
  try simp [-qt,-qd,-ql,rgs]
  repeat' first | done | (((with_reducible show zT _ _ _ _ _ _);refine zA rfl fun _ => ?_) <;> simp [-qt,-qd,-ql,rgs]) | ((with_reducible refine zC ?_ ?_) <;> intro qb <;> (have qp:=qb;try simp only [psq] at qp) <;> simp [-qt,-qd,-ql,rgs,qb])
  all_goals first | (exfalso;omega) | (symm;rw [beq_eq_false_iff_ne];intro e;exact hl (by rw [e])) | (intro e;exact hl (by rw [e])) | skip
theorem c_szSightS {p:Bool} {xs:List Sgt} {k:Int} (h0:0 ≤ k) (h1:k ≤ 1048576):PC ctx.P 46 [.view p 4 (xs.map uU),.int .i64 k] (.int .i64 (szR xs.length k)):=by
 refine PC.lim (n:=xs.length) (x:=.view p 4 (xs.map uU)) (by simp) (.here (by simp)) ⟨_,Tryz.func46,by kernel_rfl,by kernel_rfl⟩ fun hlim => ?_
 simp only [LIM] at hlim
 refine PC.o okC Tryz.func46 rfl (.int _ _) fun h nx hnx => ?_
 try simp [-qt,-qd,-ql,rgs,zE (x:=k - (xs.length:Int)) (by omega)]
 repeat' first | done | (((with_reducible show zT _ _ _ _ _ _);refine zA rfl fun _ => ?_) <;> simp [-qt,-qd,-ql,rgs,zE (x:=k - (xs.length:Int)) (by omega)]) | ((with_reducible refine zC ?_ ?_) <;> intro qb <;> (have qp:=qb;try simp only [psq] at qp) <;> simp [-qt,-qd,-ql,rgs,zE (x:=k - (xs.length:Int)) (by omega),qb])
 all_goals (clear hnx;simp only [szR];split <;> first | omega | (simp;omega))
theorem zN6 {p q:Bool} {xs ys:List Int}:PC ctx.P 73 [.view p 1 (xs.map iv),.view q 1 (ys.map iv)] (.bool (xs == ys)):=by
 refine PC.lim (n:=xs.length) (x:=.view p 1 (xs.map iv)) (by simp) (.here (by simp)) ⟨_,Tryz.func73,by kernel_rfl,by kernel_rfl⟩ fun hlim => ?_
 by_cases hl:xs.length = ys.length
 ·refine PC.o okC Tryz.func73 rfl (.bool _) fun h nx hnx => ?_
  try simp [-qt,-qd,-ql,rgs,hl]
  repeat' first | done | (((with_reducible show zT _ _ _ _ _ _);refine zA rfl fun _ => ?_) <;> simp [-qt,-qd,-ql,rgs,hl]) | fail
  refine zR [4,5,11,12,13,14,15,16,17,18,19,20,21,22,23,24,25] (ys.length) (fun (i:Nat) a=>[(5,.int .i64 i)]) (fun i_ a_ h_ _=>(fun i (_:Unit) _=>(xs.drop i == ys.drop i) = (xs == ys)) i_ a_ h_) (()) (by simp) ?_ zO (Nat.le_refl _) ?_
  ·simp
  ·intro i a tm h' n' hle hJ hE hn' next hnx
   try dsimp only at hJ
   have hK:KeepB nx h' h:=KeepB.sub hE zG (by omega)
   simp [-qt,-qd,-ql]
   try simp [-qt,-qd,-ql,rgs,hl,iv]
   repeat' first | done | ((first | ((with_reducible show zT _ _ _ _ _ _);refine zA rfl fun _ => ?_) | ((with_reducible show zK _ _ _ _ _ _ _);refine zH rfl omA omA ?_) | (with_reducible refine zP (i:=6) [(0,[],[]),(1,[],[]),(2,[],[]),(3,[],[]),(4,[],[]),(5,[],[]),(6,[],[]),(7,[],[]),(8,[],[])] (by kernel_rfl) ?_)) <;> simp [-qt,-qd,-ql,rgs,hl,iv]) | ((with_reducible refine zC ?_ ?_) <;> intro qb <;> (have qp:=qb;try simp only [psq] at qp) <;> simp [-qt,-qd,-ql,rgs,hl,iv,qb])
   all_goals first
   | (have hlt:i < xs.length:=(by first | omega | (simp at *; omega))
      rw [zQ hlt,zQ (xs:=ys) (i:=i) (by omega),List.cons_beq_cons] at hJ
      first
      | (refine hnx.go () ?_ ?_ ?_ ?_ ?_ ?_;omega;(simp [zI hlt hlim]);(simp);exact zG;(first | omega | (simp;omega));(try dsimp only);clear hnx;first | (simp_all;done) | grind)
      | (refine ⟨?_,zG⟩;clear hnx;first | (simp_all;done) | grind)
      | (clear hnx;first | (simp_all;done) | grind))
   | (obtain rfl:i = xs.length:=(by first | omega | (simp at *; omega))
      rw [List.drop_eq_nil_of_le (Nat.le_refl _),List.drop_eq_nil_of_le (by omega)] at hJ
      refine ⟨?_,zG⟩;clear hnx;first | (simp_all;done) | grind)
 ·refine PC.o okC Tryz.func73 rfl (.bool _) fun h nx hnx => ?_
  try simp [-qt,-qd,-ql,rgs]
  repeat' first | done | (((with_reducible show zT _ _ _ _ _ _);refine zA rfl fun _ => ?_) <;> simp [-qt,-qd,-ql,rgs]) | ((with_reducible refine zC ?_ ?_) <;> intro qb <;> (have qp:=qb;try simp only [psq] at qp) <;> simp [-qt,-qd,-ql,rgs,qb])
  all_goals first | (exfalso;omega) | (symm;rw [beq_eq_false_iff_ne];intro e;exact hl (by rw [e])) | (intro e;exact hl (by rw [e])) | skip
theorem zN5 {p:Bool} {xs:List Int} {k:Int} (h0:0 ≤ k) (h1:k ≤ 1048576):PC ctx.P 47 [.view p 1 (xs.map iv),.int .i64 k] (.int .i64 (szR xs.length k)):=by
 refine PC.lim (n:=xs.length) (x:=.view p 1 (xs.map iv)) (by simp) (.here (by simp)) ⟨_,Tryz.func47,by kernel_rfl,by kernel_rfl⟩ fun hlim => ?_
 simp only [LIM] at hlim
 refine PC.o okC Tryz.func47 rfl (.int _ _) fun h nx hnx => ?_
 try simp [-qt,-qd,-ql,rgs,zE (x:=k - (xs.length:Int)) (by omega)]
 repeat' first | done | (((with_reducible show zT _ _ _ _ _ _);refine zA rfl fun _ => ?_) <;> simp [-qt,-qd,-ql,rgs,zE (x:=k - (xs.length:Int)) (by omega)]) | ((with_reducible refine zC ?_ ?_) <;> intro qb <;> (have qp:=qb;try simp only [psq] at qp) <;> simp [-qt,-qd,-ql,rgs,zE (x:=k - (xs.length:Int)) (by omega),qb])
 all_goals (clear hnx;simp only [szR];split <;> first | omega | (simp;omega))
theorem c_eqBoolS {p q:Bool} {xs ys:List Bool}:PC ctx.P 185 [.view p 1 (xs.map bv),.view q 1 (ys.map bv)] (.bool (xs == ys)):=by
 refine PC.lim (n:=xs.length) (x:=.view p 1 (xs.map bv)) (by simp) (.here (by simp)) ⟨_,Tryz.func185,by kernel_rfl,by kernel_rfl⟩ fun hlim => ?_
 by_cases hl:xs.length = ys.length
 ·refine PC.o okC Tryz.func185 rfl (.bool _) fun h nx hnx => ?_
  try simp [-qt,-qd,-ql,rgs,hl]
  repeat' first | done | (((with_reducible show zT _ _ _ _ _ _);refine zA rfl fun _ => ?_) <;> simp [-qt,-qd,-ql,rgs,hl]) | fail
  refine zR [4,5,11,12,13,14,15,16,17,18,19,20,21,22,23,24,25] (ys.length) (fun (i:Nat) a=>[(5,.int .i64 i)]) (fun i_ a_ h_ _=>(fun i (_:Unit) _=>(xs.drop i == ys.drop i) = (xs == ys)) i_ a_ h_) (()) (by simp) ?_ zO (Nat.le_refl _) ?_
  ·simp
  ·intro i a tm h' n' hle hJ hE hn' next hnx
   try dsimp only at hJ
   have hK:KeepB nx h' h:=KeepB.sub hE zG (by omega)
   simp [-qt,-qd,-ql]
   try simp [-qt,-qd,-ql,rgs,hl,bv]
   repeat' first | done | ((first | ((with_reducible show zT _ _ _ _ _ _);refine zA rfl fun _ => ?_) | ((with_reducible show zK _ _ _ _ _ _ _);refine zH rfl omA omA ?_) | (with_reducible refine zP (i:=6) [(0,[],[]),(1,[],[]),(2,[],[]),(3,[],[]),(4,[],[]),(5,[],[]),(6,[],[]),(7,[],[]),(8,[],[])] (by kernel_rfl) ?_)) <;> simp [-qt,-qd,-ql,rgs,hl,bv]) | ((with_reducible refine zC ?_ ?_) <;> intro qb <;> (have qp:=qb;try simp only [psq] at qp) <;> simp [-qt,-qd,-ql,rgs,hl,bv,qb])
   all_goals first
   | (have hlt:i < xs.length:=(by first | omega | (simp at *; omega))
      rw [zQ hlt,zQ (xs:=ys) (i:=i) (by omega),List.cons_beq_cons] at hJ
      first
      | (refine hnx.go () ?_ ?_ ?_ ?_ ?_ ?_;omega;(simp [zI hlt hlim]);(simp);exact zG;(first | omega | (simp;omega));(try dsimp only);clear hnx;first | (simp_all;done) | grind)
      | (refine ⟨?_,zG⟩;clear hnx;first | (simp_all;done) | grind)
      | (clear hnx;first | (simp_all;done) | grind))
   | (obtain rfl:i = xs.length:=(by first | omega | (simp at *; omega))
      rw [List.drop_eq_nil_of_le (Nat.le_refl _),List.drop_eq_nil_of_le (by omega)] at hJ
      refine ⟨?_,zG⟩;clear hnx;first | (simp_all;done) | grind)
 ·refine PC.o okC Tryz.func185 rfl (.bool _) fun h nx hnx => ?_
  try simp [-qt,-qd,-ql,rgs]
  repeat' first | done | (((with_reducible show zT _ _ _ _ _ _);refine zA rfl fun _ => ?_) <;> simp [-qt,-qd,-ql,rgs]) | ((with_reducible refine zC ?_ ?_) <;> intro qb <;> (have qp:=qb;try simp only [psq] at qp) <;> simp [-qt,-qd,-ql,rgs,qb])
  all_goals first | (exfalso;omega) | (symm;rw [beq_eq_false_iff_ne];intro e;exact hl (by rw [e])) | (intro e;exact hl (by rw [e])) | skip
theorem c_szBoolS {p:Bool} {xs:List Bool} {k:Int} (h0:0 ≤ k) (h1:k ≤ 1048576):PC ctx.P 137 [.view p 1 (xs.map bv),.int .i64 k] (.int .i64 (szR xs.length k)):=by
 refine PC.lim (n:=xs.length) (x:=.view p 1 (xs.map bv)) (by simp) (.here (by simp)) ⟨_,Tryz.func137,by kernel_rfl,by kernel_rfl⟩ fun hlim => ?_
 simp only [LIM] at hlim
 refine PC.o okC Tryz.func137 rfl (.int _ _) fun h nx hnx => ?_
 try simp [-qt,-qd,-ql,rgs,zE (x:=k - (xs.length:Int)) (by omega)]
 repeat' first | done | (((with_reducible show zT _ _ _ _ _ _);refine zA rfl fun _ => ?_) <;> simp [-qt,-qd,-ql,rgs,zE (x:=k - (xs.length:Int)) (by omega)]) | ((with_reducible refine zC ?_ ?_) <;> intro qb <;> (have qp:=qb;try simp only [psq] at qp) <;> simp [-qt,-qd,-ql,rgs,zE (x:=k - (xs.length:Int)) (by omega),qb])
 all_goals (clear hnx;simp only [szR];split <;> first | omega | (simp;omega))
end Go.AE.Tryz
end
section
/- Contracts of the laws' helpers: worlds. -/
set_option maxRecDepth 8000
set_option maxHeartbeats 4000000
namespace Go.AE.Tryz
open Go.Proofs
open List renaming map_take → qt,map_drop → qd,map_tail → ql
theorem c_eqInsSS {p q p2 q2:Bool} {xs ys:List (List Inn)}:PC ctx.P 64 [.view p 1 (xs.map (zD7 p2)),.view q 1 (ys.map (zD7 q2))] (.bool (xs == ys)):=by
 refine PC.lim (n:=xs.length) (x:=.view p 1 (xs.map (zD7 p2))) (by simp) (.here (by simp)) ⟨_,Tryz.func64,by kernel_rfl,by kernel_rfl⟩ fun hlim => ?_
 by_cases hl:xs.length = ys.length
 ·refine PC.o okC Tryz.func64 rfl (.bool _) fun h nx hnx => ?_
  try simp [-qt,-qd,-ql,rgs,hl]
  repeat' first | done | (((with_reducible show zT _ _ _ _ _ _);refine zA rfl fun _ => ?_) <;> simp [-qt,-qd,-ql,rgs,hl]) | fail
  refine zR [4,5,11,12,13,14,15,16,17,18,19,20,21,22,23,24,25,26] (ys.length) (fun (i:Nat) a=>[(5,.int .i64 i)]) (fun i_ a_ h_ _=>(fun i (_:Unit) _=>(xs.drop i == ys.drop i) = (xs == ys)) i_ a_ h_) (()) (by simp) ?_ zO (Nat.le_refl _) ?_
  ·simp
  ·intro i a tm h' n' hle hJ hE hn' next hnx
   try dsimp only at hJ
   have hK:KeepB nx h' h:=KeepB.sub hE zG (by omega)
   simp [-qt,-qd,-ql]
   try simp [-qt,-qd,-ql,rgs,hl,zD7]
   repeat' first | done | ((first | ((with_reducible show zT _ _ _ _ _ _);refine zA rfl fun _ => ?_) | ((with_reducible show zK _ _ _ _ _ _ _);refine zH rfl omA omA ?_) | ((with_reducible show zD _ _ _ 182 _ _);refine zB (c_eqInsS) ?_) | (with_reducible refine zP (i:=6) [(0,[],[]),(1,[],[]),(2,[],[]),(3,[],[]),(4,[],[]),(5,[],[]),(6,[],[]),(7,[],[]),(8,[],[]),(9,[],[])] (by kernel_rfl) ?_)) <;> simp [-qt,-qd,-ql,rgs,hl,zD7]) | ((with_reducible refine zC ?_ ?_) <;> intro qb <;> (have qp:=qb;try simp only [psq] at qp) <;> simp [-qt,-qd,-ql,rgs,hl,zD7,qb])
   all_goals first
   | (have hlt:i < xs.length:=(by first | omega | (simp at *; omega))
      rw [zQ hlt,zQ (xs:=ys) (i:=i) (by omega),List.cons_beq_cons] at hJ
      first
      | (refine hnx.go () ?_ ?_ ?_ ?_ ?_ ?_;omega;(simp [zI hlt hlim]);(simp);exact zG;(first | omega | (simp;omega));(try dsimp only);clear hnx;first | (simp_all;done) | grind)
      | (refine ⟨?_,zG⟩;clear hnx;first | (simp_all;done) | grind)
      | (clear hnx;first | (simp_all;done) | grind))
   | (obtain rfl:i = xs.length:=(by first | omega | (simp at *; omega))
      rw [List.drop_eq_nil_of_le (Nat.le_refl _),List.drop_eq_nil_of_le (by omega)] at hJ
      refine ⟨?_,zG⟩;clear hnx;first | (simp_all;done) | grind)
 ·refine PC.o okC Tryz.func64 rfl (.bool _) fun h nx hnx => ?_
  try simp [-qt,-qd,-ql,rgs]
  repeat' first | done | (((with_reducible show zT _ _ _ _ _ _);refine zA rfl fun _ => ?_) <;> simp [-qt,-qd,-ql,rgs]) | ((with_reducible refine zC ?_ ?_) <;> intro qb <;> (have qp:=qb;try simp only [psq] at qp) <;> simp [-qt,-qd,-ql,rgs,qb])
  all_goals first | (exfalso;omega) | (symm;rw [beq_eq_false_iff_ne];intro e;exact hl (by rw [e])) | (intro e;exact hl (by rw [e])) | skip
theorem c_szInsSS {p r:Bool} {xs:List (List Inn)} {k:Int} (h0:0 ≤ k) (h1:k ≤ 1048576):PC ctx.P 38 [.view p 1 (xs.map (zD7 r)),.int .i64 k] (.int .i64 (szR (xs.length + uS (·.length) xs) k)):=by
 refine PC.lim (n:=xs.length) (x:=.view p 1 (xs.map (zD7 r))) (by simp) (.here (by simp)) ⟨_,Tryz.func38,by kernel_rfl,by kernel_rfl⟩ fun hlim => ?_
 have hlim':=hlim
 simp only [LIM] at hlim
 refine PC.o okC Tryz.func38 rfl (.int _ _) fun h nx hnx => ?_
 try simp [-qt,-qd,-ql,rgs,zE (x:=k - (xs.length:Int)) (by omega)]
 repeat' first | done | (((with_reducible show zT _ _ _ _ _ _);refine zA rfl fun _ => ?_) <;> simp [-qt,-qd,-ql,rgs,zE (x:=k - (xs.length:Int)) (by omega)]) | ((with_reducible refine zC ?_ ?_) <;> intro qb <;> (have qp:=qb;try simp only [psq] at qp) <;> simp [-qt,-qd,-ql,rgs,zE (x:=k - (xs.length:Int)) (by omega),qb])
 all_goals first | (clear hnx;rcases uM (xs.length + uS (·.length) xs) k with q | q <;> omega) | skip
 refine zR [1,4,5,12,13,14,15,16,17,18,19,20,21,22,23,24,25] (xs.length) (fun (i:Nat) a=>[(5,.int .i64 i),(1,.int .i64 a)]) (fun i_ a_ h_ _=>(fun i (a:Int) _=>0 ≤ a ∧ a ≤ 1048576 ∧ szR (uS (·.length) (xs.drop i)) a = szR (xs.length + uS (·.length) xs) k) i_ a_ h_) (k - xs.length) (by simp) ?_ zO (Nat.le_refl _) ?_
 ·rcases uM (xs.length + uS (·.length) xs) k with q | q <;> rcases uM (uS (·.length) xs) (k - xs.length) with q' | q' <;> simp <;> omega
 ·intro i a tm h' n' hle hJ hE hn' next hnx
  try dsimp only at hJ
  have hK:KeepB nx h' h:=KeepB.sub hE zG (by omega)
  simp [-qt,-qd,-ql]
  repeat' first | done | ((first | ((with_reducible show zT _ _ _ _ _ _);refine zA rfl fun _ => ?_) | ((with_reducible show zK _ _ _ _ _ _ _);refine zH rfl omA omA ?_) | ((with_reducible show zD _ _ _ 136 _ _);refine zB (c_szInsS hJ.1 hJ.2.1) ?_)) <;> simp [-qt,-qd,-ql,rgs,zD7]) | ((with_reducible refine zC ?_ ?_) <;> intro qb <;> (have qp:=qb;try simp only [psq] at qp) <;> simp [-qt,-qd,-ql,rgs,zD7,qb])
  ·refine ⟨?_,zG⟩
   obtain ⟨j0,j1,j2⟩:=hJ
   rw [zQ (by omega)] at j2
   rw [← j2]
   simp only [uS]
   rcases uM ((gt xs (i:Int)).length) a with q | q <;> rcases uM ((gt xs (i:Int)).length + uS (·.length) (xs.drop (i + 1))) a with q' | q' <;> omega
  ·obtain ⟨j0,j1,j2⟩:=hJ
   rw [zQ (by omega)] at j2
   refine hnx.go (szR (gt xs (i:Int)).length a) ?_ ?_ ?_ ?_ ?_ ?_
   ·omega
   ·simp [zI (show i < xs.length by omega) hlim']
   ·simp
   ·exact zG
   ·first | omega | (simp;omega)
   dsimp only
   rcases uM ((gt xs (i:Int)).length) a with q | q
   ·omega
   refine ⟨by omega,by omega,?_⟩
   rw [← j2]
   simp only [uS]
   rcases uM (uS (·.length) (xs.drop (i + 1))) (szR ((gt xs (i:Int)).length) a) with q1 | q1 <;> rcases uM ((gt xs (i:Int)).length + uS (·.length) (xs.drop (i + 1))) a with q' | q' <;> omega
  ·refine ⟨?_,zG⟩
   obtain ⟨j0,j1,j2⟩:=hJ
   rw [List.drop_eq_nil_of_le (by omega)] at j2
   rw [← j2]
   simp only [uS]
   rcases uM 0 a with q | q <;> omega
theorem c_eqGroup {p q:Bool} {x y:Grp}:PC ctx.P 191 [.agg (vJ p x),.agg (vJ q y)] (.bool (x == y)):=by
 rw [grp_beq]
 refine PC.o okC Tryz.func191 rfl (.bool _) fun h nx hnx => ?_
 try simp [-qt,-qd,-ql,rgs,vJ]
 repeat' first | done | (((with_reducible show zD _ _ _ 73 _ _);refine zB (zN6) ?_) <;> simp [-qt,-qd,-ql,rgs,vJ]) | ((with_reducible refine zC ?_ ?_) <;> intro qb <;> (have qp:=qb;try simp only [psq] at qp) <;> simp [-qt,-qd,-ql,rgs,vJ,qb])
 all_goals (try clear hnx)
 all_goals (simp_all [];done)
theorem c_eqGroupS {p q p2 q2:Bool} {xs ys:List Grp}:PC ctx.P 71 [.view p 5 (xs.map (vJ p2)),.view q 5 (ys.map (vJ q2))] (.bool (xs == ys)):=by
 refine PC.lim (n:=xs.length) (x:=.view p 5 (xs.map (vJ p2))) (by simp) (.here (by simp)) ⟨_,Tryz.func71,by kernel_rfl,by kernel_rfl⟩ fun hlim => ?_
 by_cases hl:xs.length = ys.length
 ·refine PC.o okC Tryz.func71 rfl (.bool _) fun h nx hnx => ?_
  try simp [-qt,-qd,-ql,rgs,hl]
  repeat' first | done | (((with_reducible show zT _ _ _ _ _ _);refine zA rfl fun _ => ?_) <;> simp [-qt,-qd,-ql,rgs,hl]) | fail
  refine zR [4,5,11,12,13,14,15,16,17,18,19,20,21,22,23,24,25,26] (ys.length) (fun (i:Nat) a=>[(5,.int .i64 i)]) (fun i_ a_ h_ _=>(fun i (_:Unit) _=>(xs.drop i == ys.drop i) = (xs == ys)) i_ a_ h_) (()) (by simp) ?_ zO (Nat.le_refl _) ?_
  ·simp
  ·intro i a tm h' n' hle hJ hE hn' next hnx
   try dsimp only at hJ
   have hK:KeepB nx h' h:=KeepB.sub hE zG (by omega)
   simp [-qt,-qd,-ql]
   try simp [-qt,-qd,-ql,rgs,hl]
   repeat' first | done | ((first | ((with_reducible show zT _ _ _ _ _ _);refine zA rfl fun _ => ?_) | ((with_reducible show zK _ _ _ _ _ _ _);refine zH rfl omA omA ?_) | ((with_reducible show zD _ _ _ 191 _ _);refine zB (c_eqGroup) ?_) | (with_reducible refine zP (i:=6) [(0,[],[]),(1,[],[]),(2,[],[]),(3,[],[]),(4,[],[]),(5,[],[]),(6,[],[]),(7,[],[]),(8,[],[]),(9,[],[])] (by kernel_rfl) ?_)) <;> simp [-qt,-qd,-ql,rgs,hl]) | ((with_reducible refine zC ?_ ?_) <;> intro qb <;> (have qp:=qb;try simp only [psq] at qp) <;> simp [-qt,-qd,-ql,rgs,hl,qb])
   all_goals first
   | (have hlt:i < xs.length:=(by first | omega | (simp at *; omega))
      rw [zQ hlt,zQ (xs:=ys) (i:=i) (by omega),List.cons_beq_cons] at hJ
      first
      | (refine hnx.go () ?_ ?_ ?_ ?_ ?_ ?_;omega;(simp [zI hlt hlim]);(simp);exact zG;(first | omega | (simp;omega));(try dsimp only);clear hnx;first | (simp_all;done) | grind)
      | (refine ⟨?_,zG⟩;clear hnx;first | (simp_all;done) | grind)
      | (clear hnx;first | (simp_all;done) | grind))
   | (obtain rfl:i = xs.length:=(by first | omega | (simp at *; omega))
      rw [List.drop_eq_nil_of_le (Nat.le_refl _),List.drop_eq_nil_of_le (by omega)] at hJ
      refine ⟨?_,zG⟩;clear hnx;first | (simp_all;done) | grind)
 ·refine PC.o okC Tryz.func71 rfl (.bool _) fun h nx hnx => ?_
  try simp [-qt,-qd,-ql,rgs]
  repeat' first | done | (((with_reducible show zT _ _ _ _ _ _);refine zA rfl fun _ => ?_) <;> simp [-qt,-qd,-ql,rgs]) | ((with_reducible refine zC ?_ ?_) <;> intro qb <;> (have qp:=qb;try simp only [psq] at qp) <;> simp [-qt,-qd,-ql,rgs,qb])
  all_goals first | (exfalso;omega) | (symm;rw [beq_eq_false_iff_ne];intro e;exact hl (by rw [e])) | (intro e;exact hl (by rw [e])) | skip
theorem c_szGroup {p:Bool} {x:Grp} {k:Int} (h0:0 ≤ k) (h1:k ≤ 1048576):PC ctx.P 142 [.agg (vJ p x),.int .i64 k] (.int .i64 (szR x.waits.length k)):=by
 refine PC.o okC Tryz.func142 rfl (.int _ _) fun h nx hnx => ?_
 try simp [-qt,-qd,-ql,rgs,vJ]
 repeat' first | done | (((with_reducible show zD _ _ _ 47 _ _);refine zB (zN5 h0 h1) ?_) <;> simp [-qt,-qd,-ql,rgs,vJ]) | ((with_reducible refine zC ?_ ?_) <;> intro qb <;> (have qp:=qb;try simp only [psq] at qp) <;> simp [-qt,-qd,-ql,rgs,vJ,qb])
 all_goals (clear hnx;rcases uM x.waits.length k with q | q <;> omega)
theorem c_szGroupS {p r:Bool} {xs:List Grp} {k:Int} (h0:0 ≤ k) (h1:k ≤ 1048576):PC ctx.P 45 [.view p 5 (xs.map (vJ r)),.int .i64 k] (.int .i64 (szR (xs.length + uS (·.waits.length) xs) k)):=by
 refine PC.lim (n:=xs.length) (x:=.view p 5 (xs.map (vJ r))) (by simp) (.here (by simp)) ⟨_,Tryz.func45,by kernel_rfl,by kernel_rfl⟩ fun hlim => ?_
 have hlim':=hlim
 simp only [LIM] at hlim
 refine PC.o okC Tryz.func45 rfl (.int _ _) fun h nx hnx => ?_
 try simp [-qt,-qd,-ql,rgs,zE (x:=k - (xs.length:Int)) (by omega)]
 repeat' first | done | (((with_reducible show zT _ _ _ _ _ _);refine zA rfl fun _ => ?_) <;> simp [-qt,-qd,-ql,rgs,zE (x:=k - (xs.length:Int)) (by omega)]) | ((with_reducible refine zC ?_ ?_) <;> intro qb <;> (have qp:=qb;try simp only [psq] at qp) <;> simp [-qt,-qd,-ql,rgs,zE (x:=k - (xs.length:Int)) (by omega),qb])
 all_goals first | (clear hnx;rcases uM (xs.length + uS (·.waits.length) xs) k with q | q <;> omega) | skip
 refine zR [1,4,5,12,13,14,15,16,17,18,19,20,21,22,23,24,25] (xs.length) (fun (i:Nat) a=>[(5,.int .i64 i),(1,.int .i64 a)]) (fun i_ a_ h_ _=>(fun i (a:Int) _=>0 ≤ a ∧ a ≤ 1048576 ∧ szR (uS (·.waits.length) (xs.drop i)) a = szR (xs.length + uS (·.waits.length) xs) k) i_ a_ h_) (k - xs.length) (by simp) ?_ zO (Nat.le_refl _) ?_
 ·rcases uM (xs.length + uS (·.waits.length) xs) k with q | q <;> rcases uM (uS (·.waits.length) xs) (k - xs.length) with q' | q' <;> simp <;> omega
 ·intro i a tm h' n' hle hJ hE hn' next hnx
  try dsimp only at hJ
  have hK:KeepB nx h' h:=KeepB.sub hE zG (by omega)
  simp [-qt,-qd,-ql]
  repeat' first | done | ((first | ((with_reducible show zT _ _ _ _ _ _);refine zA rfl fun _ => ?_) | ((with_reducible show zK _ _ _ _ _ _ _);refine zH rfl omA omA ?_) | ((with_reducible show zD _ _ _ 142 _ _);refine zB (c_szGroup hJ.1 hJ.2.1) ?_)) <;> simp [-qt,-qd,-ql,rgs]) | ((with_reducible refine zC ?_ ?_) <;> intro qb <;> (have qp:=qb;try simp only [psq] at qp) <;> simp [-qt,-qd,-ql,rgs,qb])
  ·refine ⟨?_,zG⟩
   obtain ⟨j0,j1,j2⟩:=hJ
   rw [zQ (by omega)] at j2
   rw [← j2]
   simp only [uS]
   rcases uM ((gt xs (i:Int)).waits.length) a with q | q <;> rcases uM ((gt xs (i:Int)).waits.length + uS (·.waits.length) (xs.drop (i + 1))) a with q' | q' <;> omega
  ·obtain ⟨j0,j1,j2⟩:=hJ
   rw [zQ (by omega)] at j2
   refine hnx.go (szR (gt xs (i:Int)).waits.length a) ?_ ?_ ?_ ?_ ?_ ?_
   ·omega
   ·simp [zI (show i < xs.length by omega) hlim']
   ·simp
   ·exact zG
   ·first | omega | (simp;omega)
   dsimp only
   rcases uM ((gt xs (i:Int)).waits.length) a with q | q
   ·omega
   refine ⟨by omega,by omega,?_⟩
   rw [← j2]
   simp only [uS]
   rcases uM (uS (·.waits.length) (xs.drop (i + 1))) (szR ((gt xs (i:Int)).waits.length) a) with q1 | q1 <;> rcases uM ((gt xs (i:Int)).waits.length + uS (·.waits.length) (xs.drop (i + 1))) a with q' | q' <;> omega
  ·refine ⟨?_,zG⟩
   obtain ⟨j0,j1,j2⟩:=hJ
   rw [List.drop_eq_nil_of_le (by omega)] at j2
   rw [← j2]
   simp only [uS]
   rcases uM 0 a with q | q <;> omega
end Go.AE.Tryz
end
section
/- Contracts of the laws' helpers: worlds. -/
set_option maxRecDepth 8000
set_option maxHeartbeats 4000000
namespace Go.AE.Tryz
open Go.Proofs
open List renaming map_take → qt,map_drop → qd,map_tail → ql
theorem c_eqSlots {F1 F2:Nat → Bool} {x y:Slt}:PC ctx.P 188 [.agg (uD F1 x),.agg (uD F2 y)] (.bool (x == y)):=by
 rw [slt_beq]
 refine PC.o okC Tryz.func188 rfl (.bool _) fun h nx hnx => ?_
 try simp [-qt,-qd,-ql,rgs,uD]
 repeat' first | done | ((first | ((with_reducible show zD _ _ _ 73 _ _);refine zB (zN6) ?_) | ((with_reducible show zD _ _ _ 185 _ _);refine zB (c_eqBoolS) ?_)) <;> simp [-qt,-qd,-ql,rgs,uD]) | ((with_reducible refine zC ?_ ?_) <;> intro qb <;> (have qp:=qb;try simp only [psq] at qp) <;> simp [-qt,-qd,-ql,rgs,uD,qb])
 all_goals (try clear hnx)
 all_goals (simp_all [];done)
theorem c_szSlots {F:Nat → Bool} {s:Slt} {k:Int} (h0:0 ≤ k) (h1:k ≤ 1048576):PC ctx.P 140 [.agg (uD F s),.int .i64 k] (.int .i64 (szR (sltsz s) k)):=by
 rw [slt_szN s h0]
 refine PC.o okC Tryz.func140 rfl (.int _ _) fun h nx hnx => ?_
 try simp [-qt,-qd,-ql,rgs,uD]
 repeat' first | done | ((first | ((with_reducible show zD _ _ _ 47 _ _);refine zB (zN5 (by first | assumption | omega) (by repeat (first | assumption | apply zD8))) ?_) | ((with_reducible show zD _ _ _ 137 _ _);refine zB (c_szBoolS (by first | assumption | omega) (by repeat (first | assumption | apply zD8))) ?_)) <;> simp [-qt,-qd,-ql,rgs,uD]) | ((with_reducible refine zC ?_ ?_) <;> intro qb <;> (have qp:=qb;try simp only [psq] at qp) <;> simp [-qt,-qd,-ql,rgs,uD,qb])
 all_goals (clear hnx;simp only [szN];repeat (first | rw [if_pos (by omega)] | rw [if_neg (by omega)]))
theorem c_eqSpread {F1 F2:Nat → Bool} {x y:Spr}:PC ctx.P 67 [.agg (uK F1 x),.agg (uK F2 y)] (.bool (x == y)):=by
 rw [spr_beq]
 refine PC.o okC Tryz.func67 rfl (.bool _) fun h nx hnx => ?_
 try simp [-qt,-qd,-ql,rgs,uK]
 repeat' first | done | ((first | ((with_reducible show zD _ _ _ 185 _ _);refine zB (c_eqBoolS) ?_) | ((with_reducible show zD _ _ _ 73 _ _);refine zB (zN6) ?_)) <;> simp [-qt,-qd,-ql,rgs,uK]) | ((with_reducible refine zC ?_ ?_) <;> intro qb <;> (have qp:=qb;try simp only [psq] at qp) <;> simp [-qt,-qd,-ql,rgs,uK,qb])
 all_goals (try clear hnx)
 all_goals (simp_all [];done)
theorem c_szSpread {F:Nat → Bool} {s:Spr} {k:Int} (h0:0 ≤ k) (h1:k ≤ 1048576):PC ctx.P 41 [.agg (uK F s),.int .i64 k] (.int .i64 (szR (sprsz s) k)):=by
 rw [spr_szN s h0]
 refine PC.o okC Tryz.func41 rfl (.int _ _) fun h nx hnx => ?_
 try simp [-qt,-qd,-ql,rgs,uK]
 repeat' first | done | ((first | ((with_reducible show zD _ _ _ 137 _ _);refine zB (c_szBoolS (by first | assumption | omega) (by repeat (first | assumption | apply zD8))) ?_) | ((with_reducible show zD _ _ _ 47 _ _);refine zB (zN5 (by first | assumption | omega) (by repeat (first | assumption | apply zD8))) ?_)) <;> simp [-qt,-qd,-ql,rgs,uK]) | ((with_reducible refine zC ?_ ?_) <;> intro qb <;> (have qp:=qb;try simp only [psq] at qp) <;> simp [-qt,-qd,-ql,rgs,uK,qb])
 all_goals (clear hnx;simp only [szN];repeat (first | rw [if_pos (by omega)] | rw [if_neg (by omega)]))
theorem c_eqTimers {F1 F2:Nat → Bool} {x y:Tms}:PC ctx.P 68 [.agg (vM F1 x),.agg (vM F2 y)] (.bool (x == y)):=by
 rw [tms_beq]
 refine PC.o okC Tryz.func68 rfl (.bool _) fun h nx hnx => ?_
 try simp [-qt,-qd,-ql,rgs,vM]
 repeat' first | done | ((first | ((with_reducible show zD _ _ _ 186 _ _);refine zB (c_eqTwigS) ?_) | ((with_reducible show zD _ _ _ 187 _ _);refine zB (c_eqTimerS) ?_)) <;> simp [-qt,-qd,-ql,rgs,vM]) | ((with_reducible refine zC ?_ ?_) <;> intro qb <;> (have qp:=qb;try simp only [psq] at qp) <;> simp [-qt,-qd,-ql,rgs,vM,qb])
 all_goals (try clear hnx)
 all_goals (simp_all [];done)
theorem c_szTimers {F:Nat → Bool} {s:Tms} {k:Int} (h0:0 ≤ k) (h1:k ≤ 1048576):PC ctx.P 42 [.agg (vM F s),.int .i64 k] (.int .i64 (szR (tmssz s) k)):=by
 rw [tms_szN s h0]
 refine PC.o okC Tryz.func42 rfl (.int _ _) fun h nx hnx => ?_
 try simp [-qt,-qd,-ql,rgs,vM]
 repeat' first | done | ((first | ((with_reducible show zD _ _ _ 138 _ _);refine zB (c_szTwigS (by first | assumption | omega) (by repeat (first | assumption | apply zD8))) ?_) | ((with_reducible show zD _ _ _ 139 _ _);refine zB (c_szTimerS (by first | assumption | omega) (by repeat (first | assumption | apply zD8))) ?_)) <;> simp [-qt,-qd,-ql,rgs,vM]) | ((with_reducible refine zC ?_ ?_) <;> intro qb <;> (have qp:=qb;try simp only [psq] at qp) <;> simp [-qt,-qd,-ql,rgs,vM,qb])
 all_goals (clear hnx;simp only [szN];repeat (first | rw [if_pos (by omega)] | rw [if_neg (by omega)]))
theorem c_eqAfters {F1 F2:Nat → Bool} {x y:Afs}:PC ctx.P 69 [.agg (uZ F1 x),.agg (uZ F2 y)] (.bool (x == y)):=by
 rw [afs_beq]
 refine PC.o okC Tryz.func69 rfl (.bool _) fun h nx hnx => ?_
 try simp [-qt,-qd,-ql,rgs,uZ,uD]
 repeat' first | done | ((first | ((with_reducible show zD _ _ _ 188 _ _);refine zB (c_eqSlots (x:=x.slots) (y:=y.slots) (F1:=F1) (F2:=F2)) ?_) | ((with_reducible show zD _ _ _ 189 _ _);refine zB (c_eqAfterS) ?_)) <;> simp [-qt,-qd,-ql,rgs,uZ,uD]) | ((with_reducible refine zC ?_ ?_) <;> intro qb <;> (have qp:=qb;try simp only [psq] at qp) <;> simp [-qt,-qd,-ql,rgs,uZ,uD,qb])
 all_goals (try clear hnx)
 all_goals (simp_all [];done)
theorem c_szAfters {F:Nat → Bool} {s:Afs} {k:Int} (h0:0 ≤ k) (h1:k ≤ 1048576):PC ctx.P 43 [.agg (uZ F s),.int .i64 k] (.int .i64 (szR (afssz s) k)):=by
 rw [afs_szN s h0]
 refine PC.o okC Tryz.func43 rfl (.int _ _) fun h nx hnx => ?_
 try simp [-qt,-qd,-ql,rgs,uZ,uD]
 repeat' first | done | ((first | ((with_reducible show zD _ _ _ 140 _ _);refine zB (c_szSlots (s:=s.slots) (F:=F) (by first | assumption | omega) (by repeat (first | assumption | apply zD8))) ?_) | ((with_reducible show zD _ _ _ 141 _ _);refine zB (c_szAfterS (by first | assumption | omega) (by repeat (first | assumption | apply zD8))) ?_)) <;> simp [-qt,-qd,-ql,rgs,uZ,uD]) | ((with_reducible refine zC ?_ ?_) <;> intro qb <;> (have qp:=qb;try simp only [psq] at qp) <;> simp [-qt,-qd,-ql,rgs,uZ,uD,qb])
 all_goals (clear hnx;simp only [szN];repeat (first | rw [if_pos (by omega)] | rw [if_neg (by omega)]))
theorem zS3 {F1 F2:Nat → Bool} {x y:Wld}:PC ctx.P 21 [.agg (wldV F1 x),.agg (wldV F2 y)] (.bool (x == y)):=by
 rw [wld_beq]
 refine PC.o okC Tryz.func21 rfl (.bool _) fun h nx hnx => ?_
 try simp [-qt,-qd,-ql,rgs,wldV,uD,uK,vM,uZ]
 repeat' first | done | ((first | ((with_reducible show zD _ _ _ 64 _ _);refine zB (c_eqInsSS) ?_) | ((with_reducible show zD _ _ _ 65 _ _);refine zB (c_eqNodeS) ?_) | ((with_reducible show zD _ _ _ 66 _ _);refine zB (c_eqEventS) ?_) | ((with_reducible show zD _ _ _ 67 _ _);refine zB (c_eqSpread (x:=x.spread) (y:=y.spread) (F1:=F1) (F2:=F2)) ?_) | ((with_reducible show zD _ _ _ 68 _ _);refine zB (c_eqTimers (x:=x.timers) (y:=y.timers) (F1:=F1) (F2:=F2)) ?_) | ((with_reducible show zD _ _ _ 69 _ _);refine zB (c_eqAfters (x:=x.afters) (y:=y.afters) (F1:=F1) (F2:=F2)) ?_) | ((with_reducible show zD _ _ _ 70 _ _);refine zB (c_eqTaskS) ?_) | ((with_reducible show zD _ _ _ 71 _ _);refine zB (c_eqGroupS) ?_) | ((with_reducible show zD _ _ _ 72 _ _);refine zB (c_eqSightS) ?_) | ((with_reducible show zD _ _ _ 73 _ _);refine zB (zN6) ?_)) <;> simp [-qt,-qd,-ql,rgs,wldV,uD,uK,vM,uZ]) | ((with_reducible refine zC ?_ ?_) <;> intro qb <;> (have qp:=qb;try simp only [psq] at qp) <;> simp [-qt,-qd,-ql,rgs,wldV,uD,uK,vM,uZ,qb])
 all_goals (try clear hnx)
 all_goals (simp_all [];done)
theorem c_szWorld {F:Nat → Bool} {s:Wld} {k:Int} (h0:0 ≤ k) (h1:k ≤ 1048576):PC ctx.P 17 [.agg (wldV F s),.int .i64 k] (.int .i64 (szR (zB8 s) k)):=by
 rw [wld_szN s h0]
 refine PC.o okC Tryz.func17 rfl (.int _ _) fun h nx hnx => ?_
 try simp [-qt,-qd,-ql,rgs,wldV,uD,uK,vM,uZ]
 repeat' first | done | ((first | ((with_reducible show zD _ _ _ 38 _ _);refine zB (c_szInsSS (by first | assumption | omega) (by repeat (first | assumption | apply zD8))) ?_) | ((with_reducible show zD _ _ _ 39 _ _);refine zB (c_szNodeS (by first | assumption | omega) (by repeat (first | assumption | apply zD8))) ?_) | ((with_reducible show zD _ _ _ 40 _ _);refine zB (c_szEventS (by first | assumption | omega) (by repeat (first | assumption | apply zD8))) ?_) | ((with_reducible show zD _ _ _ 41 _ _);refine zB (c_szSpread (s:=s.spread) (F:=F) (by first | assumption | omega) (by repeat (first | assumption | apply zD8))) ?_) | ((with_reducible show zD _ _ _ 42 _ _);refine zB (c_szTimers (s:=s.timers) (F:=F) (by first | assumption | omega) (by repeat (first | assumption | apply zD8))) ?_) | ((with_reducible show zD _ _ _ 43 _ _);refine zB (c_szAfters (s:=s.afters) (F:=F) (by first | assumption | omega) (by repeat (first | assumption | apply zD8))) ?_) | ((with_reducible show zD _ _ _ 44 _ _);refine zB (c_szTaskS (by first | assumption | omega) (by repeat (first | assumption | apply zD8))) ?_) | ((with_reducible show zD _ _ _ 45 _ _);refine zB (c_szGroupS (by first | assumption | omega) (by repeat (first | assumption | apply zD8))) ?_) | ((with_reducible show zD _ _ _ 46 _ _);refine zB (c_szSightS (by first | assumption | omega) (by repeat (first | assumption | apply zD8))) ?_) | ((with_reducible show zD _ _ _ 47 _ _);refine zB (zN5 (by first | assumption | omega) (by repeat (first | assumption | apply zD8))) ?_)) <;> simp [-qt,-qd,-ql,rgs,wldV,uD,uK,vM,uZ]) | ((with_reducible refine zC ?_ ?_) <;> intro qb <;> (have qp:=qb;try simp only [psq] at qp) <;> simp [-qt,-qd,-ql,rgs,wldV,uD,uK,vM,uZ,qb])
 all_goals (clear hnx;simp only [szN];repeat (first | rw [if_pos (by omega)] | rw [if_neg (by omega)]))
end Go.AE.Tryz
end
section
/- Contracts of the laws' copies as new rows. -/
set_option maxRecDepth 8000
set_option maxHeartbeats 2000000
namespace Go.AE.Tryz
open Go.Proofs
open List renaming map_take → qt,map_drop → qd,map_tail → ql
theorem f_toInsS {p:Bool} {xs:List Inn} (hm:xs.length ≤ yW):FC ctx.P 165 [.view p 3 (xs.map vY)] (.ref 0 3 0 (xs.map vY).length) [.row 3 (xs.map vY)]:=by
 have hlim:xs.length ≤ LIM:=by simp only [yW,LIM] at *; omega
 refine FC.o1 okC Tryz.func165 rfl (zM innC_fz xs) fun h nx hnx => ?_
 try simp [-qt,-qd,-ql,rgs,hm]
 repeat' first | done | (((with_reducible show zT _ _ _ _ _ _);refine zA rfl fun _ => ?_) <;> simp [-qt,-qd,-ql,rgs,hm]) | fail
 refine zR (h0:=h) (nx0:=nx) [4,8,9,10,11,12,13,14,15,16,17,18,19,20,21] (xs.length) (fun (i:Nat) a=>[(4,.int .i64 i)]) (fun i (_:Unit) h' n'=>h' (nx + 3) = some (.row 3 (zG5 vY [.int .i64 0,.int .i64 0,.int .i64 0] xs i)) ∧ nx + 4 ≤ n') (()) (by simp) ?_ zG (by omega) ?_
 ·simp [zI2]
 ·intro i a tm h' n' hle hJ hE hn' next hnx
  try dsimp only at hJ
  have hK:KeepB nx h' h:=KeepB.sub hE zG (by omega)
  simp [-qt,-qd,-ql]
  obtain ⟨hJ,hJn⟩:=hJ
  repeat' first | done | ((first | ((with_reducible show zT _ _ _ _ _ _);refine zA rfl fun _ => ?_) | ((with_reducible show zK _ _ _ _ _ _ _);refine zH rfl omA omA ?_) | ((with_reducible show zD _ _ _ 287 _ _);refine zB (c_toIns) ?_) | ((with_reducible show zK _ _ _ _ (.ref _ _ _ _) _ _);refine zV rfl omA omA ?_) | ((with_reducible show vP _ _ _ _ _ _ _ _ _);refine uH hJ (by first | rfl | (simp;done)) (by simp) (by rfl) (by rfl) (by rfl) (by omega) ?_)) <;> simp [-qt,-qd,-ql,rgs,hJ]) | ((with_reducible refine zC ?_ ?_) <;> intro qb <;> (have qp:=qb;try simp only [psq] at qp) <;> simp [-qt,-qd,-ql,rgs,hJ,qb])
  all_goals first
   | (have hlt:i < xs.length:=(by first | omega | (simp at *; omega));refine hnx.go () (by omega) (by simp [zI hlt hlim]) (by simp) zG (by first | omega | (simp;omega)) ?_;(try dsimp only);refine ⟨by simp,by first | omega | (simp;omega)⟩)
   | (rw [zE1 (by first | omega | (simp at *; omega))] at hJ;exact yI zG (by first | omega | (simp;omega)) (by omega) (by simp [hJ]) rfl (by simp))
theorem f_toNodeS {p:Bool} {xs:List Nod} (hm:xs.length ≤ yW):FC ctx.P 54 [.view p 5 (xs.map yS)] (.ref 0 5 0 (xs.map yS).length) [.row 5 (xs.map yS)]:=by
 have hlim:xs.length ≤ LIM:=by simp only [yW,LIM] at *; omega
 refine FC.o1 okC Tryz.func54 rfl (zM nodC_fz xs) fun h nx hnx => ?_
 try simp [-qt,-qd,-ql,rgs,hm]
 repeat' first | done | (((with_reducible show zT _ _ _ _ _ _);refine zA rfl fun _ => ?_) <;> simp [-qt,-qd,-ql,rgs,hm]) | fail
 refine zR (h0:=h) (nx0:=nx) [4,8,9,10,11,12,13,14,15,16,17,18,19,20,21] (xs.length) (fun (i:Nat) a=>[(4,.int .i64 i)]) (fun i (_:Unit) h' n'=>h' (nx + 3) = some (.row 5 (zG5 yS [.int .i64 0,.int .i64 0,.int .i64 0,.int .i64 0,.int .i64 0] xs i)) ∧ nx + 4 ≤ n') (()) (by simp) ?_ zG (by omega) ?_
 ·simp [zI2]
 ·intro i a tm h' n' hle hJ hE hn' next hnx
  try dsimp only at hJ
  have hK:KeepB nx h' h:=KeepB.sub hE zG (by omega)
  simp [-qt,-qd,-ql]
  obtain ⟨hJ,hJn⟩:=hJ
  repeat' first | done | ((first | ((with_reducible show zT _ _ _ _ _ _);refine zA rfl fun _ => ?_) | ((with_reducible show zK _ _ _ _ _ _ _);refine zH rfl omA omA ?_) | ((with_reducible show zD _ _ _ 166 _ _);refine zB (c_toNode) ?_) | ((with_reducible show zK _ _ _ _ (.ref _ _ _ _) _ _);refine zV rfl omA omA ?_) | ((with_reducible show vP _ _ _ _ _ _ _ _ _);refine uH hJ (by first | rfl | (simp;done)) (by simp) (by rfl) (by rfl) (by rfl) (by omega) ?_)) <;> simp [-qt,-qd,-ql,rgs,hJ]) | ((with_reducible refine zC ?_ ?_) <;> intro qb <;> (have qp:=qb;try simp only [psq] at qp) <;> simp [-qt,-qd,-ql,rgs,hJ,qb])
  all_goals first
   | (have hlt:i < xs.length:=(by first | omega | (simp at *; omega));refine hnx.go () (by omega) (by simp [zI hlt hlim]) (by simp) zG (by first | omega | (simp;omega)) ?_;(try dsimp only);refine ⟨by simp,by first | omega | (simp;omega)⟩)
   | (rw [zE1 (by first | omega | (simp at *; omega))] at hJ;exact yI zG (by first | omega | (simp;omega)) (by omega) (by simp [hJ]) rfl (by simp))
theorem f_toEventS {p:Bool} {xs:List Evt} (hm:xs.length ≤ yW):FC ctx.P 55 [.view p 4 (xs.map vD)] (.ref 0 4 0 (xs.map vD).length) [.row 4 (xs.map vD)]:=by
 have hlim:xs.length ≤ LIM:=by simp only [yW,LIM] at *; omega
 refine FC.o1 okC Tryz.func55 rfl (zM zQ2 xs) fun h nx hnx => ?_
 try simp [-qt,-qd,-ql,rgs,hm]
 repeat' first | done | (((with_reducible show zT _ _ _ _ _ _);refine zA rfl fun _ => ?_) <;> simp [-qt,-qd,-ql,rgs,hm]) | fail
 refine zR (h0:=h) (nx0:=nx) [4,8,9,10,11,12,13,14,15,16,17,18,19,20,21] (xs.length) (fun (i:Nat) a=>[(4,.int .i64 i)]) (fun i (_:Unit) h' n'=>h' (nx + 3) = some (.row 4 (zG5 vD [.int .i64 0,.int .i64 0,.int .i64 0,.int .i64 0] xs i)) ∧ nx + 4 ≤ n') (()) (by simp) ?_ zG (by omega) ?_
 ·simp [zI2]
 ·intro i a tm h' n' hle hJ hE hn' next hnx
  try dsimp only at hJ
  have hK:KeepB nx h' h:=KeepB.sub hE zG (by omega)
  simp [-qt,-qd,-ql]
  obtain ⟨hJ,hJn⟩:=hJ
  repeat' first | done | ((first | ((with_reducible show zT _ _ _ _ _ _);refine zA rfl fun _ => ?_) | ((with_reducible show zK _ _ _ _ _ _ _);refine zH rfl omA omA ?_) | ((with_reducible show zD _ _ _ 167 _ _);refine zB (c_toEvent) ?_) | ((with_reducible show zK _ _ _ _ (.ref _ _ _ _) _ _);refine zV rfl omA omA ?_) | ((with_reducible show vP _ _ _ _ _ _ _ _ _);refine uH hJ (by first | rfl | (simp;done)) (by simp) (by rfl) (by rfl) (by rfl) (by omega) ?_)) <;> simp [-qt,-qd,-ql,rgs,hJ]) | ((with_reducible refine zC ?_ ?_) <;> intro qb <;> (have qp:=qb;try simp only [psq] at qp) <;> simp [-qt,-qd,-ql,rgs,hJ,qb])
  all_goals first
   | (have hlt:i < xs.length:=(by first | omega | (simp at *; omega));refine hnx.go () (by omega) (by simp [zI hlt hlim]) (by simp) zG (by first | omega | (simp;omega)) ?_;(try dsimp only);refine ⟨by simp,by first | omega | (simp;omega)⟩)
   | (rw [zE1 (by first | omega | (simp at *; omega))] at hJ;exact yI zG (by first | omega | (simp;omega)) (by omega) (by simp [hJ]) rfl (by simp))
theorem f_toTwigS {p:Bool} {xs:List Twg} (hm:xs.length ≤ yW):FC ctx.P 169 [.view p 3 (xs.map zZ)] (.ref 0 3 0 (xs.map zZ).length) [.row 3 (xs.map zZ)]:=by
 have hlim:xs.length ≤ LIM:=by simp only [yW,LIM] at *; omega
 refine FC.o1 okC Tryz.func169 rfl (zM yJ xs) fun h nx hnx => ?_
 try simp [-qt,-qd,-ql,rgs,hm]
 repeat' first | done | (((with_reducible show zT _ _ _ _ _ _);refine zA rfl fun _ => ?_) <;> simp [-qt,-qd,-ql,rgs,hm]) | fail
 refine zR (h0:=h) (nx0:=nx) [4,8,9,10,11,12,13,14,15,16,17,18,19,20,21] (xs.length) (fun (i:Nat) a=>[(4,.int .i64 i)]) (fun i (_:Unit) h' n'=>h' (nx + 3) = some (.row 3 (zG5 zZ [.int .i64 0,.int .i64 0,.int .i64 0] xs i)) ∧ nx + 4 ≤ n') (()) (by simp) ?_ zG (by omega) ?_
 ·simp [zI2]
 ·intro i a tm h' n' hle hJ hE hn' next hnx
  try dsimp only at hJ
  have hK:KeepB nx h' h:=KeepB.sub hE zG (by omega)
  simp [-qt,-qd,-ql]
  obtain ⟨hJ,hJn⟩:=hJ
  repeat' first | done | ((first | ((with_reducible show zT _ _ _ _ _ _);refine zA rfl fun _ => ?_) | ((with_reducible show zK _ _ _ _ _ _ _);refine zH rfl omA omA ?_) | ((with_reducible show zD _ _ _ 288 _ _);refine zB (c_toTwig) ?_) | ((with_reducible show zK _ _ _ _ (.ref _ _ _ _) _ _);refine zV rfl omA omA ?_) | ((with_reducible show vP _ _ _ _ _ _ _ _ _);refine uH hJ (by first | rfl | (simp;done)) (by simp) (by rfl) (by rfl) (by rfl) (by omega) ?_)) <;> simp [-qt,-qd,-ql,rgs,hJ]) | ((with_reducible refine zC ?_ ?_) <;> intro qb <;> (have qp:=qb;try simp only [psq] at qp) <;> simp [-qt,-qd,-ql,rgs,hJ,qb])
  all_goals first
   | (have hlt:i < xs.length:=(by first | omega | (simp at *; omega));refine hnx.go () (by omega) (by simp [zI hlt hlim]) (by simp) zG (by first | omega | (simp;omega)) ?_;(try dsimp only);refine ⟨by simp,by first | omega | (simp;omega)⟩)
   | (rw [zE1 (by first | omega | (simp at *; omega))] at hJ;exact yI zG (by first | omega | (simp;omega)) (by omega) (by simp [hJ]) rfl (by simp))
theorem f_toTimerS {p:Bool} {xs:List Tmr} (hm:xs.length ≤ yW):FC ctx.P 170 [.view p 5 (xs.map yN)] (.ref 0 5 0 (xs.map yN).length) [.row 5 (xs.map yN)]:=by
 have hlim:xs.length ≤ LIM:=by simp only [yW,LIM] at *; omega
 refine FC.o1 okC Tryz.func170 rfl (zM uV xs) fun h nx hnx => ?_
 try simp [-qt,-qd,-ql,rgs,hm]
 repeat' first | done | (((with_reducible show zT _ _ _ _ _ _);refine zA rfl fun _ => ?_) <;> simp [-qt,-qd,-ql,rgs,hm]) | fail
 refine zR (h0:=h) (nx0:=nx) [4,8,9,10,11,12,13,14,15,16,17,18,19,20,21] (xs.length) (fun (i:Nat) a=>[(4,.int .i64 i)]) (fun i (_:Unit) h' n'=>h' (nx + 3) = some (.row 5 (zG5 yN [.int .i64 0,.int .i64 0,.int .i64 0,.int .i64 0,.bool false] xs i)) ∧ nx + 4 ≤ n') (()) (by simp) ?_ zG (by omega) ?_
 ·simp [zI2]
 ·intro i a tm h' n' hle hJ hE hn' next hnx
  try dsimp only at hJ
  have hK:KeepB nx h' h:=KeepB.sub hE zG (by omega)
  simp [-qt,-qd,-ql]
  obtain ⟨hJ,hJn⟩:=hJ
  repeat' first | done | ((first | ((with_reducible show zT _ _ _ _ _ _);refine zA rfl fun _ => ?_) | ((with_reducible show zK _ _ _ _ _ _ _);refine zH rfl omA omA ?_) | ((with_reducible show zD _ _ _ 289 _ _);refine zB (c_toTimer) ?_) | ((with_reducible show zK _ _ _ _ (.ref _ _ _ _) _ _);refine zV rfl omA omA ?_) | ((with_reducible show vP _ _ _ _ _ _ _ _ _);refine uH hJ (by first | rfl | (simp;done)) (by simp) (by rfl) (by rfl) (by rfl) (by omega) ?_)) <;> simp [-qt,-qd,-ql,rgs,hJ]) | ((with_reducible refine zC ?_ ?_) <;> intro qb <;> (have qp:=qb;try simp only [psq] at qp) <;> simp [-qt,-qd,-ql,rgs,hJ,qb])
  all_goals first
   | (have hlt:i < xs.length:=(by first | omega | (simp at *; omega));refine hnx.go () (by omega) (by simp [zI hlt hlim]) (by simp) zG (by first | omega | (simp;omega)) ?_;(try dsimp only);refine ⟨by simp,by first | omega | (simp;omega)⟩)
   | (rw [zE1 (by first | omega | (simp at *; omega))] at hJ;exact yI zG (by first | omega | (simp;omega)) (by omega) (by simp [hJ]) rfl (by simp))
theorem f_toAfterS {p:Bool} {xs:List Afr} (hm:xs.length ≤ yW):FC ctx.P 172 [.view p 5 (xs.map vB)] (.ref 0 5 0 (xs.map vB).length) [.row 5 (xs.map vB)]:=by
 have hlim:xs.length ≤ LIM:=by simp only [yW,LIM] at *; omega
 refine FC.o1 okC Tryz.func172 rfl (zM zA0 xs) fun h nx hnx => ?_
 try simp [-qt,-qd,-ql,rgs,hm]
 repeat' first | done | (((with_reducible show zT _ _ _ _ _ _);refine zA rfl fun _ => ?_) <;> simp [-qt,-qd,-ql,rgs,hm]) | fail
 refine zR (h0:=h) (nx0:=nx) [4,8,9,10,11,12,13,14,15,16,17,18,19,20,21] (xs.length) (fun (i:Nat) a=>[(4,.int .i64 i)]) (fun i (_:Unit) h' n'=>h' (nx + 3) = some (.row 5 (zG5 vB [.int .i64 0,.int .i64 0,.int .i64 0,.int .i64 0,.bool false] xs i)) ∧ nx + 4 ≤ n') (()) (by simp) ?_ zG (by omega) ?_
 ·simp [zI2]
 ·intro i a tm h' n' hle hJ hE hn' next hnx
  try dsimp only at hJ
  have hK:KeepB nx h' h:=KeepB.sub hE zG (by omega)
  simp [-qt,-qd,-ql]
  obtain ⟨hJ,hJn⟩:=hJ
  repeat' first | done | ((first | ((with_reducible show zT _ _ _ _ _ _);refine zA rfl fun _ => ?_) | ((with_reducible show zK _ _ _ _ _ _ _);refine zH rfl omA omA ?_) | ((with_reducible show zD _ _ _ 290 _ _);refine zB (c_toAfter) ?_) | ((with_reducible show zK _ _ _ _ (.ref _ _ _ _) _ _);refine zV rfl omA omA ?_) | ((with_reducible show vP _ _ _ _ _ _ _ _ _);refine uH hJ (by first | rfl | (simp;done)) (by simp) (by rfl) (by rfl) (by rfl) (by omega) ?_)) <;> simp [-qt,-qd,-ql,rgs,hJ]) | ((with_reducible refine zC ?_ ?_) <;> intro qb <;> (have qp:=qb;try simp only [psq] at qp) <;> simp [-qt,-qd,-ql,rgs,hJ,qb])
  all_goals first
   | (have hlt:i < xs.length:=(by first | omega | (simp at *; omega));refine hnx.go () (by omega) (by simp [zI hlt hlim]) (by simp) zG (by first | omega | (simp;omega)) ?_;(try dsimp only);refine ⟨by simp,by first | omega | (simp;omega)⟩)
   | (rw [zE1 (by first | omega | (simp at *; omega))] at hJ;exact yI zG (by first | omega | (simp;omega)) (by omega) (by simp [hJ]) rfl (by simp))
theorem f_toTaskS {p:Bool} {xs:List Tsk} (hm:xs.length ≤ yW):FC ctx.P 59 [.view p 9 (xs.map yM)] (.ref 0 9 0 (xs.map yM).length) [.row 9 (xs.map yM)]:=by
 have hlim:xs.length ≤ LIM:=by simp only [yW,LIM] at *; omega
 refine FC.o1 okC Tryz.func59 rfl (zM zE0 xs) fun h nx hnx => ?_
 try simp [-qt,-qd,-ql,rgs,hm]
 repeat' first | done | (((with_reducible show zT _ _ _ _ _ _);refine zA rfl fun _ => ?_) <;> simp [-qt,-qd,-ql,rgs,hm]) | fail
 refine zR (h0:=h) (nx0:=nx) [4,8,9,10,11,12,13,14,15,16,17,18,19,20,21] (xs.length) (fun (i:Nat) a=>[(4,.int .i64 i)]) (fun i (_:Unit) h' n'=>h' (nx + 3) = some (.row 9 (zG5 yM [.int .i64 0,.int .i64 0,.int .i64 0,.int .i64 0,.int .i64 0,.int .i64 0,.int .i64 0,.int .i64 0,.int .i64 0] xs i)) ∧ nx + 4 ≤ n') (()) (by simp) ?_ zG (by omega) ?_
 ·simp [zI2]
 ·intro i a tm h' n' hle hJ hE hn' next hnx
  try dsimp only at hJ
  have hK:KeepB nx h' h:=KeepB.sub hE zG (by omega)
  simp [-qt,-qd,-ql]
  obtain ⟨hJ,hJn⟩:=hJ
  repeat' first | done | ((first | ((with_reducible show zT _ _ _ _ _ _);refine zA rfl fun _ => ?_) | ((with_reducible show zK _ _ _ _ _ _ _);refine zH rfl omA omA ?_) | ((with_reducible show zD _ _ _ 173 _ _);refine zB (c_toTask) ?_) | ((with_reducible show zK _ _ _ _ (.ref _ _ _ _) _ _);refine zV rfl omA omA ?_) | ((with_reducible show vP _ _ _ _ _ _ _ _ _);refine uH hJ (by first | rfl | (simp;done)) (by simp) (by rfl) (by rfl) (by rfl) (by omega) ?_)) <;> simp [-qt,-qd,-ql,rgs,hJ]) | ((with_reducible refine zC ?_ ?_) <;> intro qb <;> (have qp:=qb;try simp only [psq] at qp) <;> simp [-qt,-qd,-ql,rgs,hJ,qb])
  all_goals first
   | (have hlt:i < xs.length:=(by first | omega | (simp at *; omega));refine hnx.go () (by omega) (by simp [zI hlt hlim]) (by simp) zG (by first | omega | (simp;omega)) ?_;(try dsimp only);refine ⟨by simp,by first | omega | (simp;omega)⟩)
   | (rw [zE1 (by first | omega | (simp at *; omega))] at hJ;exact yI zG (by first | omega | (simp;omega)) (by omega) (by simp [hJ]) rfl (by simp))
theorem f_toSightS {p:Bool} {xs:List Sgt} (hm:xs.length ≤ yW):FC ctx.P 61 [.view p 4 (xs.map uU)] (.ref 0 4 0 (xs.map uU).length) [.row 4 (xs.map uU)]:=by
 have hlim:xs.length ≤ LIM:=by simp only [yW,LIM] at *; omega
 refine FC.o1 okC Tryz.func61 rfl (zM sgtC_fz xs) fun h nx hnx => ?_
 try simp [-qt,-qd,-ql,rgs,hm]
 repeat' first | done | (((with_reducible show zT _ _ _ _ _ _);refine zA rfl fun _ => ?_) <;> simp [-qt,-qd,-ql,rgs,hm]) | fail
 refine zR (h0:=h) (nx0:=nx) [4,8,9,10,11,12,13,14,15,16,17,18,19,20,21] (xs.length) (fun (i:Nat) a=>[(4,.int .i64 i)]) (fun i (_:Unit) h' n'=>h' (nx + 3) = some (.row 4 (zG5 uU [.int .i64 0,.int .i64 0,.int .i64 0,.int .i64 0] xs i)) ∧ nx + 4 ≤ n') (()) (by simp) ?_ zG (by omega) ?_
 ·simp [zI2]
 ·intro i a tm h' n' hle hJ hE hn' next hnx
  try dsimp only at hJ
  have hK:KeepB nx h' h:=KeepB.sub hE zG (by omega)
  simp [-qt,-qd,-ql]
  obtain ⟨hJ,hJn⟩:=hJ
  repeat' first | done | ((first | ((with_reducible show zT _ _ _ _ _ _);refine zA rfl fun _ => ?_) | ((with_reducible show zK _ _ _ _ _ _ _);refine zH rfl omA omA ?_) | ((with_reducible show zD _ _ _ 175 _ _);refine zB (c_toSight) ?_) | ((with_reducible show zK _ _ _ _ (.ref _ _ _ _) _ _);refine zV rfl omA omA ?_) | ((with_reducible show vP _ _ _ _ _ _ _ _ _);refine uH hJ (by first | rfl | (simp;done)) (by simp) (by rfl) (by rfl) (by rfl) (by omega) ?_)) <;> simp [-qt,-qd,-ql,rgs,hJ]) | ((with_reducible refine zC ?_ ?_) <;> intro qb <;> (have qp:=qb;try simp only [psq] at qp) <;> simp [-qt,-qd,-ql,rgs,hJ,qb])
  all_goals first
   | (have hlt:i < xs.length:=(by first | omega | (simp at *; omega));refine hnx.go () (by omega) (by simp [zI hlt hlim]) (by simp) zG (by first | omega | (simp;omega)) ?_;(try dsimp only);refine ⟨by simp,by first | omega | (simp;omega)⟩)
   | (rw [zE1 (by first | omega | (simp at *; omega))] at hJ;exact yI zG (by first | omega | (simp;omega)) (by omega) (by simp [hJ]) rfl (by simp))
theorem zO0 {p:Bool} {xs:List Int} (hm:xs.length ≤ yW):FC ctx.P 62 [.view p 1 (xs.map iv)] (.ref 0 1 0 (xs.map iv).length) [.row 1 (xs.map iv)]:=by
 have hlim:xs.length ≤ LIM:=by simp only [yW,LIM] at *; omega
 refine FC.o1 okC Tryz.func62 rfl (zM zA5 xs) fun h nx hnx => ?_
 try simp [-qt,-qd,-ql,rgs,hm]
 repeat' first | done | (((with_reducible show zT _ _ _ _ _ _);refine zA rfl fun _ => ?_) <;> simp [-qt,-qd,-ql,rgs,hm]) | fail
 refine zR (h0:=h) (nx0:=nx) [4,8,9,10,11,12,13,14,15,16,17,18,19,20] (xs.length) (fun (i:Nat) a=>[(4,.int .i64 i)]) (fun i (_:Unit) h' n'=>h' (nx + 3) = some (.row 1 (zG5 iv [.int .i64 0] xs i)) ∧ nx + 4 ≤ n') (()) (by simp) ?_ zG (by omega) ?_
 ·simp [zI2]
 ·intro i a tm h' n' hle hJ hE hn' next hnx
  try dsimp only at hJ
  have hK:KeepB nx h' h:=KeepB.sub hE zG (by omega)
  simp [-qt,-qd,-ql]
  obtain ⟨hJ,hJn⟩:=hJ
  repeat' first | done | ((first | ((with_reducible show zT _ _ _ _ _ _);refine zA rfl fun _ => ?_) | ((with_reducible show zK _ _ _ _ _ _ _);refine zH rfl omA omA ?_) | ((with_reducible show zK _ _ _ _ (.ref _ _ _ _) _ _);refine zV rfl omA omA ?_) | ((with_reducible show vP _ _ _ _ _ _ _ _ _);refine uH hJ (by first | rfl | (simp;done)) (by simp) (by rfl) (by rfl) (by rfl) (by omega) ?_)) <;> simp [-qt,-qd,-ql,rgs,hJ,iv]) | ((with_reducible refine zC ?_ ?_) <;> intro qb <;> (have qp:=qb;try simp only [psq] at qp) <;> simp [-qt,-qd,-ql,rgs,hJ,iv,qb])
  all_goals first
   | (have hlt:i < xs.length:=(by first | omega | (simp at *; omega));refine hnx.go () (by omega) (by simp [zI hlt hlim]) (by simp) zG (by first | omega | (simp;omega)) ?_;(try dsimp only);refine ⟨by simp,by first | omega | (simp;omega)⟩)
   | (rw [zE1 (by first | omega | (simp at *; omega))] at hJ;exact yI zG (by first | omega | (simp;omega)) (by omega) (by simp [hJ]) rfl (by simp))
theorem f_toBoolS {p:Bool} {xs:List Bool} (hm:xs.length ≤ yW):FC ctx.P 168 [.view p 1 (xs.map bv)] (.ref 0 1 0 (xs.map bv).length) [.row 1 (xs.map bv)]:=by
 have hlim:xs.length ≤ LIM:=by simp only [yW,LIM] at *; omega
 refine FC.o1 okC Tryz.func168 rfl (zM zJ0 xs) fun h nx hnx => ?_
 try simp [-qt,-qd,-ql,rgs,hm]
 repeat' first | done | (((with_reducible show zT _ _ _ _ _ _);refine zA rfl fun _ => ?_) <;> simp [-qt,-qd,-ql,rgs,hm]) | fail
 refine zR (h0:=h) (nx0:=nx) [4,8,9,10,11,12,13,14,15,16,17,18,19,20] (xs.length) (fun (i:Nat) a=>[(4,.int .i64 i)]) (fun i (_:Unit) h' n'=>h' (nx + 3) = some (.row 1 (zG5 bv [.bool false] xs i)) ∧ nx + 4 ≤ n') (()) (by simp) ?_ zG (by omega) ?_
 ·simp [zI2]
 ·intro i a tm h' n' hle hJ hE hn' next hnx
  try dsimp only at hJ
  have hK:KeepB nx h' h:=KeepB.sub hE zG (by omega)
  simp [-qt,-qd,-ql]
  obtain ⟨hJ,hJn⟩:=hJ
  repeat' first | done | ((first | ((with_reducible show zT _ _ _ _ _ _);refine zA rfl fun _ => ?_) | ((with_reducible show zK _ _ _ _ _ _ _);refine zH rfl omA omA ?_) | ((with_reducible show zK _ _ _ _ (.ref _ _ _ _) _ _);refine zV rfl omA omA ?_) | ((with_reducible show vP _ _ _ _ _ _ _ _ _);refine uH hJ (by first | rfl | (simp;done)) (by simp) (by rfl) (by rfl) (by rfl) (by omega) ?_)) <;> simp [-qt,-qd,-ql,rgs,hJ,bv]) | ((with_reducible refine zC ?_ ?_) <;> intro qb <;> (have qp:=qb;try simp only [psq] at qp) <;> simp [-qt,-qd,-ql,rgs,hJ,bv,qb])
  all_goals first
   | (have hlt:i < xs.length:=(by first | omega | (simp at *; omega));refine hnx.go () (by omega) (by simp [zI hlt hlim]) (by simp) zG (by first | omega | (simp;omega)) ?_;(try dsimp only);refine ⟨by simp,by first | omega | (simp;omega)⟩)
   | (rw [zE1 (by first | omega | (simp at *; omega))] at hJ;exact yI zG (by first | omega | (simp;omega)) (by omega) (by simp [hJ]) rfl (by simp))
end Go.AE.Tryz
end
section
/- Contracts of the laws' copies of worlds as new rows. -/
set_option maxRecDepth 8000
set_option maxHeartbeats 2000000
namespace Go.AE.Tryz
open Go.Proofs
open List renaming map_take → qt,map_drop → qd,map_tail → ql
theorem w_toInsSS {p r:Bool} {xs:List (List Inn)} (hm:xs.length ≤ yW) (hi:∀ x ∈ xs,x.length ≤ yW):AC ctx.P 53 [.view p 1 (xs.map (zD7 r))] (fun _ _=>True)
 (fun h nx v h' nx'=>KeepB nx h' h ∧ ∃ id is,v = .ref id 1 0 xs.length ∧ h' id = some (.row 1 (List.zipWith prgR xs is)) ∧ is.length = xs.length ∧ nx ≤ id ∧ id < nx' ∧ Subs h' 3 (fun x:List Inn=>x.map vY) xs is (id + 1) nx'):=by
 have hlim:xs.length ≤ LIM:=by simp only [yW,LIM] at *; omega
 refine AC.o okC Tryz.func53 rfl fun h nx hfr hnx hpre => ?_
 try simp [-qt,-qd,-ql,rgs,hm]
 repeat' first | done | (((with_reducible show zT _ _ _ _ _ _);refine zA rfl fun _ => ?_) <;> simp [-qt,-qd,-ql,rgs,hm]) | fail
 refine zR (h0:=h) (nx0:=nx) [4,8,9,10,11,12,13,14,15,16,17,18,19,20,21] (xs.length) (fun (i:Nat) a=>[(4,.int .i64 i)]) (fun i (a:List Nat) h' n'=>a.length = i ∧ h' (nx + 3) = some (.row 1 (fillZ prgR [.nil] xs a)) ∧ Subs h' 3 (fun x:List Inn=>x.map vY) xs a (nx + 4) n' ∧ nx + 4 ≤ n') ([]) (by simp) ?_ zG (by omega) ?_
 ·simp [fillZ_0,Subs.nil]
 ·intro i a tm h' n' hle hJ hE hn' next hnx
  try dsimp only at hJ
  have hK:KeepB nx h' h:=KeepB.sub hE zG (by omega)
  simp [-qt,-qd,-ql]
  obtain ⟨hJa,hJ,hS,hJn⟩:=hJ
  have k1:∀ k,(nx + 3 = n' + k) = False:=fun k=>by simp only [eq_iff_iff,iff_false];omega
  subst hJa
  by_cases hlt:a.length < xs.length
  ·skip
   repeat' first | done | ((first | ((with_reducible show zT _ _ _ _ _ _);refine zA rfl fun _ => ?_) | ((with_reducible show zK _ _ _ _ _ _ _);refine zH rfl omA omA ?_) | ((with_reducible show zD _ _ _ 165 _ _);refine zU (f_toInsS (hi _ (vR (by omega) (by omega)))) ?_) | (((with_reducible show zK _ _ _ _ (.ref _ _ _ _) _ _);refine zV rfl (by omega) (by omega) ?_)) | (((with_reducible show vP _ _ _ _ _ _ _ _ _);refine zN8 (sz:=1) (xs:=fillZ prgR [.nil] xs a) (cells:=[.nil]) (by simp [hJ];omega) rfl rfl rfl (fillZ_get hlt) rfl ?_))) <;> simp [-qt,-qd,-ql,rgs,hJ,zD7,k1]) | ((with_reducible refine zC ?_ ?_) <;> intro qb <;> (have qp:=qb;try simp only [psq] at qp) <;> simp [-qt,-qd,-ql,rgs,hJ,zD7,k1,qb])
   all_goals first
   | omega
   | (refine hnx.go (a ++ [n' + 13]) (by omega) (by simp [zI hlt hlim]) (by simp) zG (by first | omega | (simp;omega)) ?_
      try dsimp only
      refine ⟨by simp,?_,hS.snoc (fun k hk => ?_) ?_ (by omega) (by omega) (by omega),by omega⟩
      ·simpa [prgR] using fillZ_set (f:=prgR) (z:=[.nil]) (xs:=xs) (is:=a) (by omega) (n' + 13)
      ·have:=hS.lo k hk
       have:=hS.hi k hk
       rw [zF _ _ _ _ (by omega),zF _ _ _ _ (by omega)]
      ·simp;omega)
  ·skip
   repeat' first | done | (((with_reducible show zT _ _ _ _ _ _);refine zA rfl fun _ => ?_) <;> simp [-qt,-qd,-ql,rgs,hJ,hlt]) | fail
   exact ⟨zG,a,by rw [fillZ_end (by omega)],by omega,by omega,hS.keep (fun _ _=>rfl) (by omega) (by omega)⟩
theorem f_toGroup {r:Bool} {g:Grp} (hm:g.waits.length ≤ yW):FC ctx.P 174 [.agg (vJ r g)] (.agg (zD9 g 0)) [.row 1 (g.waits.map iv)]:=by
 refine FC.o okC Tryz.func174 rfl ((by simp only [zD9];exact .one _ (.agg _ fun c hc=>by simp at hc;rcases hc with rfl | rfl | rfl | rfl | rfl <;> first | exact .ref _ _ _ _ (by simp) | exact .fz _ (.int _ _)))) ((fun e he=>by simp at he;subst he;exact zM zA5 _)) fun h nx hnx => ?_
 try simp [-qt,-qd,-ql,rgs,vJ]
 repeat' first | done | (((with_reducible show zD _ _ _ 62 _ _);refine zU (zO0 hm) ?_) <;> simp [-qt,-qd,-ql,rgs,vJ]) | fail
 exact finF1 (i:=nx + 20) zG (by omega) (by simp) (by simp [zD9])
theorem w_toGroupS {p r:Bool} {xs:List Grp} (hm:xs.length ≤ yW) (hi:∀ x ∈ xs,x.waits.length ≤ yW):AC ctx.P 60 [.view p 5 (xs.map (vJ r))] (fun _ _=>True)
 (fun h nx v h' nx'=>KeepB nx h' h ∧ ∃ id is,v = .ref id 5 0 xs.length ∧ h' id = some (.row 5 (List.zipWith zD9 xs is)) ∧ is.length = xs.length ∧ nx ≤ id ∧ id < nx' ∧ Subs h' 1 (fun x:Grp=>x.waits.map iv) xs is (id + 1) nx'):=by
 have hlim:xs.length ≤ LIM:=by simp only [yW,LIM] at *; omega
 refine AC.o okC Tryz.func60 rfl fun h nx hfr hnx hpre => ?_
 try simp [-qt,-qd,-ql,rgs,hm]
 repeat' first | done | (((with_reducible show zT _ _ _ _ _ _);refine zA rfl fun _ => ?_) <;> simp [-qt,-qd,-ql,rgs,hm]) | fail
 refine zR (h0:=h) (nx0:=nx) [4,8,9,10,11,12,13,14,15,16,17,18,19,20,21] (xs.length) (fun (i:Nat) a=>[(4,.int .i64 i)]) (fun i (a:List Nat) h' n'=>a.length = i ∧ h' (nx + 3) = some (.row 5 (fillZ zD9 [.int .i64 0,.int .i64 0,.int .i64 0,.nil,.int .i64 0] xs a)) ∧ Subs h' 1 (fun x:Grp=>x.waits.map iv) xs a (nx + 4) n' ∧ nx + 4 ≤ n') ([]) (by simp) ?_ zG (by omega) ?_
 ·simp [fillZ_0,Subs.nil]
 ·intro i a tm h' n' hle hJ hE hn' next hnx
  try dsimp only at hJ
  have hK:KeepB nx h' h:=KeepB.sub hE zG (by omega)
  simp [-qt,-qd,-ql]
  obtain ⟨hJa,hJ,hS,hJn⟩:=hJ
  subst hJa
  by_cases hlt:a.length < xs.length
  ·skip
   repeat' first | done | ((first | ((with_reducible show zT _ _ _ _ _ _);refine zA rfl fun _ => ?_) | ((with_reducible show zK _ _ _ _ _ _ _);refine zH rfl omA omA ?_) | ((with_reducible show zD _ _ _ 174 _ _);refine zU (f_toGroup (hi _ (vR (by omega) (by omega)))) ?_) | (((with_reducible show zK _ _ _ _ (.ref _ _ _ _) _ _);refine zV rfl (by omega) (by omega) ?_)) | (((with_reducible show vP _ _ _ _ _ _ _ _ _);refine zN8 (sz:=5) (xs:=fillZ zD9 [.int .i64 0,.int .i64 0,.int .i64 0,.nil,.int .i64 0] xs a) (cells:=[.int .i64 0,.int .i64 0,.int .i64 0,.nil,.int .i64 0]) (by simp [hJ];omega) rfl rfl rfl (fillZ_get hlt) rfl ?_))) <;> simp [-qt,-qd,-ql,rgs,hJ,vJ,zD9]) | ((with_reducible refine zC ?_ ?_) <;> intro qb <;> (have qp:=qb;try simp only [psq] at qp) <;> simp [-qt,-qd,-ql,rgs,hJ,vJ,zD9,qb])
   all_goals first
   | omega
   | (refine hnx.go (a ++ [n' + 13]) (by omega) (by simp [zI hlt hlim]) (by simp) zG (by first | omega | (simp;omega)) ?_
      try dsimp only
      refine ⟨by simp,?_,hS.snoc (fun k hk => ?_) ?_ (by omega) (by omega) (by omega),by omega⟩
      ·simpa [zD9] using fillZ_set (f:=zD9) (z:=[.int .i64 0,.int .i64 0,.int .i64 0,.nil,.int .i64 0]) (xs:=xs) (is:=a) (by omega) (n' + 13)
      ·have:=hS.lo k hk
       have:=hS.hi k hk
       rw [zF _ _ _ _ (by omega),zF _ _ _ _ (by omega)]
      ·simp;omega)
  ·skip
   repeat' first | done | (((with_reducible show zT _ _ _ _ _ _);refine zA rfl fun _ => ?_) <;> simp [-qt,-qd,-ql,rgs,hJ,hlt]) | fail
   exact ⟨zG,a,by rw [fillZ_end (by omega)],by omega,by omega,hS.keep (fun _ _=>rfl) (by omega) (by omega)⟩
theorem f_toSlots {F:Nat → Bool} {s:Slt} (h1:s.ages.length ≤ yW) (h2:s.used.length ≤ yW):FC ctx.P 171 [.agg (uD F s)] (.agg [.ref 0 1 0 s.ages.length,.ref 1 1 0 s.used.length]) [.row 1 (s.ages.map iv),.row 1 (s.used.map bv)]:=by
 refine FC.o okC Tryz.func171 rfl ((.one _ (.agg _ fun c hc=>by simp at hc;rcases hc with rfl | rfl <;> first | exact .ref _ _ _ _ (by simp) | exact .fz _ (.int _ _)))) ((fun e he=>by simp at he;rcases he with rfl | rfl <;> first | exact zM zA5 _ | exact zM zJ0 _ | exact zM yJ _ | exact zM uV _ | exact zM zA0 _)) fun h nx hnx => ?_
 try simp [-qt,-qd,-ql,rgs,uD]
 repeat' first | done | ((first | ((with_reducible show zD _ _ _ 62 _ _);refine zU (zO0 h1) ?_) | ((with_reducible show zD _ _ _ 168 _ _);refine zU (f_toBoolS h2) ?_)) <;> simp [-qt,-qd,-ql,rgs,uD]) | fail
 exact finF2 (i:=nx + 8) (j:=nx + 14) zG (by omega) (by omega) (by omega) (by simp) (by simp) (by simp)
theorem f_toSpread {F:Nat → Bool} {s:Spr} (h1:s.told.length ≤ yW) (h2:s.work.length ≤ yW):FC ctx.P 56 [.agg (uK F s)] (.agg [.ref 0 1 0 s.told.length,.ref 1 1 0 s.work.length]) [.row 1 (s.told.map bv),.row 1 (s.work.map iv)]:=by
 refine FC.o okC Tryz.func56 rfl ((.one _ (.agg _ fun c hc=>by simp at hc;rcases hc with rfl | rfl <;> first | exact .ref _ _ _ _ (by simp) | exact .fz _ (.int _ _)))) ((fun e he=>by simp at he;rcases he with rfl | rfl <;> first | exact zM zA5 _ | exact zM zJ0 _ | exact zM yJ _ | exact zM uV _ | exact zM zA0 _)) fun h nx hnx => ?_
 try simp [-qt,-qd,-ql,rgs,uK]
 repeat' first | done | ((first | ((with_reducible show zD _ _ _ 168 _ _);refine zU (f_toBoolS h1) ?_) | ((with_reducible show zD _ _ _ 62 _ _);refine zU (zO0 h2) ?_)) <;> simp [-qt,-qd,-ql,rgs,uK]) | fail
 exact finF2 (i:=nx + 8) (j:=nx + 14) zG (by omega) (by omega) (by omega) (by simp) (by simp) (by simp)
theorem f_toTimers {F:Nat → Bool} {s:Tms} (h1:s.heap.length ≤ yW) (h2:s.list.length ≤ yW):FC ctx.P 57 [.agg (vM F s)] (.agg [.ref 0 3 0 s.heap.length,.ref 1 5 0 s.list.length,.int .i64 s.next]) [.row 3 (s.heap.map zZ),.row 5 (s.list.map yN)]:=by
 refine FC.o okC Tryz.func57 rfl ((.one _ (.agg _ fun c hc=>by simp at hc;rcases hc with rfl | rfl | rfl <;> first | exact .ref _ _ _ _ (by simp) | exact .fz _ (.int _ _)))) ((fun e he=>by simp at he;rcases he with rfl | rfl <;> first | exact zM zA5 _ | exact zM zJ0 _ | exact zM yJ _ | exact zM uV _ | exact zM zA0 _)) fun h nx hnx => ?_
 try simp [-qt,-qd,-ql,rgs,vM]
 repeat' first | done | ((first | ((with_reducible show zD _ _ _ 169 _ _);refine zU (f_toTwigS h1) ?_) | ((with_reducible show zD _ _ _ 170 _ _);refine zU (f_toTimerS h2) ?_)) <;> simp [-qt,-qd,-ql,rgs,vM]) | fail
 exact finF2 (i:=nx + 8) (j:=nx + 14) zG (by omega) (by omega) (by omega) (by simp) (by simp) (by simp)
theorem f_toAfters {F:Nat → Bool} {s:Afs} (h1:s.slots.ages.length ≤ yW) (h2:s.slots.used.length ≤ yW) (h3:s.list.length ≤ yW):FC ctx.P 58 [.agg (uZ F s)] (.agg [.ref 0 1 0 s.slots.ages.length,.ref 1 1 0 s.slots.used.length,.ref 2 5 0 s.list.length]) [.row 1 (s.slots.ages.map iv),.row 1 (s.slots.used.map bv),.row 5 (s.list.map vB)]:=by
 refine FC.o okC Tryz.func58 rfl ((.one _ (.agg _ fun c hc=>by simp at hc;rcases hc with rfl | rfl | rfl <;> first | exact .ref _ _ _ _ (by simp) | exact .fz _ (.int _ _)))) ((fun e he=>by simp at he;rcases he with rfl | rfl | rfl <;> first | exact zM zA5 _ | exact zM zJ0 _ | exact zM yJ _ | exact zM uV _ | exact zM zA0 _)) fun h nx hnx => ?_
 try simp [-qt,-qd,-ql,rgs,uZ,uD]
 repeat' first | done | ((first | ((with_reducible show zD _ _ _ 171 _ _);refine zU (f_toSlots (s:=s.slots) (F:=F) h1 h2) ?_) | ((with_reducible show zD _ _ _ 172 _ _);refine zU (f_toAfterS h3) ?_)) <;> simp [-qt,-qd,-ql,rgs,uZ,uD]) | fail
 exact finF3 (i:=nx + 8) (j:=nx + 9) (l:=nx + 15) zG (by omega) (by omega) (by omega) (by omega) (by omega) (by omega) (by simp) (by simp) (by simp) (by simp)
end Go.AE.Tryz
end
section
/- Contracts of the laws' copies of worlds as new rows. -/
set_option maxRecDepth 8000
set_option maxHeartbeats 2000000
namespace Go.AE.Tryz
open Go.Proofs
open List renaming map_take → qt,map_drop → qd,map_tail → ql
theorem w_toWorld {F:Nat → Bool} {s:Wld} (hs:zB8 s ≤ 1048576):AC ctx.P 19 [.agg (wldV F s)] (fun _ _=>True)
 (fun h nx v h' nx'=>KeepB nx h' h ∧ ∃ X,v = .agg (zB7 X s) ∧ WV h' X s ∧ ∀ id ∈ X.ids,nx ≤ id ∧ id < nx'):=by
 simp only [zB8,afssz,tmssz,sprsz,sltsz] at hs
 have hm:yW = 1099511627776:=rfl
 refine AC.o okC Tryz.func19 rfl fun h nx hfr hnx hpre => ?_
 try simp [-qt,-qd,-ql,rgs,wldV]
 refine yP (w_toInsSS (by omega) (fun x hx=>by have:=zB0 (·.length) hx;omega)) trivial ?_
 rintro r h1 n1 ⟨hK1,ip,isp,rfl,hrow1,hlen1,hlo1,hhi1,hS1⟩ hle1 hfr1
 dsimp only at hK1 hlo1 hle1
 have g0:=hK1 nx (by omega)
 have g1:=hK1 (nx + 1) (by omega)
 have g2:=hK1 (nx + 2) (by omega)
 simp at g0 g1 g2
 have k0:∀ k,(nx = n1 + k) = False:=fun k=>by simp only [eq_iff_iff,iff_false];omega
 have k2:∀ k,(nx + 2 = n1 + k) = False:=fun k=>by simp only [eq_iff_iff,iff_false];omega
 have k1:∀ k,(nx + 1 = n1 + k) = False:=fun k=>by simp only [eq_iff_iff,iff_false];omega
 have k5:(nx + 1 = n1) = False:=by simp only [eq_iff_iff,iff_false];omega
 have k3:(nx = n1) = False:=by simp only [eq_iff_iff,iff_false];omega
 have k4:(nx + 2 = n1) = False:=by simp only [eq_iff_iff,iff_false];omega
 try simp [-qt,-qd,-ql,rgs,wldV,g0,g2,k0,k2,k3,k4]
 repeat' first | done | ((first | ((with_reducible show zD _ _ _ 54 _ _);refine zU (f_toNodeS (by omega)) ?_) | ((with_reducible show zD _ _ _ 55 _ _);refine zU (f_toEventS (by omega)) ?_) | ((with_reducible show zD _ _ _ 56 _ _);refine zU (f_toSpread (s:=s.spread) (F:=F) (by omega) (by omega)) ?_) | ((with_reducible show zD _ _ _ 57 _ _);refine zU (f_toTimers (s:=s.timers) (F:=F) (by omega) (by omega)) ?_) | ((with_reducible show zD _ _ _ 58 _ _);refine zU (f_toAfters (s:=s.afters) (F:=F) (by omega) (by omega) (by omega)) ?_) | ((with_reducible show zD _ _ _ 59 _ _);refine zU (f_toTaskS (by omega)) ?_)) <;> simp [-qt,-qd,-ql,rgs,wldV,g0,g2,k0,k2,k3,k4]) | fail
 refine yP (w_toGroupS (by omega) (fun x hx=>by have:=zB0 (·.waits.length) hx;omega)) trivial ?_
 rintro r h2 n2 ⟨hK2,ig,isg,rfl,hrow2,hlen2,hlo2,hhi2,hS2⟩ hle2 hfr2
 dsimp only at hK2 hlo2 hle2
 have m0:=hK2 nx (by omega)
 have m1:=hK2 (nx + 1) (by omega)
 have m2:=hK2 (nx + 2) (by omega)
 simp [k0,k2,k3,k4,g0,g1,k1,k5] at m0 m1 m2
 have j0:∀ k,(nx = n2 + k) = False:=fun k=>by simp only [eq_iff_iff,iff_false];omega
 have j2:∀ k,(nx + 2 = n2 + k) = False:=fun k=>by simp only [eq_iff_iff,iff_false];omega
 have j1:∀ k,(nx + 1 = n2 + k) = False:=fun k=>by simp only [eq_iff_iff,iff_false];omega
 have j5:(nx + 1 = n2) = False:=by simp only [eq_iff_iff,iff_false];omega
 have j3:(nx = n2) = False:=by simp only [eq_iff_iff,iff_false];omega
 have j4:(nx + 2 = n2) = False:=by simp only [eq_iff_iff,iff_false];omega
 try simp [-qt,-qd,-ql,rgs,wldV,m0,m1,m2,j0,j1,j2,j3,j4,j5]
 repeat' first | done | ((first | ((with_reducible show zD _ _ _ 61 _ _);refine zU (f_toSightS (by omega)) ?_) | ((with_reducible show zD _ _ _ 62 _ _);refine zU (zO0 (by omega)) ?_)) <;> simp [-qt,-qd,-ql,rgs,wldV,m0,m1,m2,j0,j1,j2,j3,j4,j5]) | fail
 have hE:KeepB nx h1 h:=KeepB.sub hK1 zG (by omega)
 have hK:KeepB nx h2 h:=KeepB.sub hK2 zG (by omega)
 have up:∀ i,ip ≤ i → i < n1 → h2 i = h1 i:=fun i _ _=>by
  rw [hK2 i (by omega)]
  repeat rw [zF _ _ _ _ (by omega)]
 have q0:=up ip (by omega) hhi1
 rw [hrow1] at q0
 have q1:=hK2 (n1 + 5) (by omega)
 have q2:=hK2 (n1 + 11) (by omega)
 have q3:=hK2 (n1 + 17) (by omega)
 have q4:=hK2 (n1 + 18) (by omega)
 have q5:=hK2 (n1 + 24) (by omega)
 have q6:=hK2 (n1 + 25) (by omega)
 have q7:=hK2 (n1 + 31) (by omega)
 have q8:=hK2 (n1 + 32) (by omega)
 have q9:=hK2 (n1 + 33) (by omega)
 have q10:=hK2 (n1 + 39) (by omega)
 have l0:∀ k,(n1 + k = nx) = False:=fun k=>by simp only [eq_iff_iff,iff_false];omega
 have l2:∀ k,(n1 + k = nx + 2) = False:=fun k=>by simp only [eq_iff_iff,iff_false];omega
 simp [l0,l2] at q1 q2 q3 q4 q5 q6 q7 q8 q9 q10
 refine ⟨zG,WI.ofL [ip,n1 + 5,n1 + 11,n1 + 17,n1 + 18,n1 + 24,n1 + 25,n1 + 31,n1 + 32,n1 + 33,n1 + 39,ig,n2 + 5,n2 + 11,n2 + 17] isp isg,rfl,WV.ofL (a:=ip + 1) (b:=n1) (c:=ig + 1) (d:=n2) ?_ ?_ ?_ ?_ ?_ ?_ ?_ ?_ ?_ ?_ ?_ ?_ ?_ ?_ ?_ hlen1 hlen2 ?_ ?_ (by omega) ?_ ?_,?_⟩
 ·repeat rw [zF _ _ _ _ (by omega)]
  exact q0
 ·repeat rw [zF _ _ _ _ (by omega)]
  exact q1
 ·repeat rw [zF _ _ _ _ (by omega)]
  exact q2
 ·repeat rw [zF _ _ _ _ (by omega)]
  exact q3
 ·repeat rw [zF _ _ _ _ (by omega)]
  exact q4
 ·repeat rw [zF _ _ _ _ (by omega)]
  exact q5
 ·repeat rw [zF _ _ _ _ (by omega)]
  exact q6
 ·repeat rw [zF _ _ _ _ (by omega)]
  exact q7
 ·repeat rw [zF _ _ _ _ (by omega)]
  exact q8
 ·repeat rw [zF _ _ _ _ (by omega)]
  exact q9
 ·repeat rw [zF _ _ _ _ (by omega)]
  exact q10
 ·repeat rw [zF _ _ _ _ (by omega)]
  exact hrow2
 ·repeat rw [zF _ _ _ _ (by omega)]
  rw [zJ]
 ·repeat rw [zF _ _ _ _ (by omega)]
  rw [zJ]
 ·repeat rw [zF _ _ _ _ (by omega)]
  rw [zJ]
 ·refine hS1.keep (fun i hi => ?_) (Nat.le_refl _) (Nat.le_refl _)
  have:=hS1.lo i hi
  have:=hS1.hi i hi
  repeat rw [zF _ _ _ _ (by omega)]
  exact up i (by omega) (by omega)
 ·refine hS2.keep (fun i hi => ?_) (Nat.le_refl _) (Nat.le_refl _)
  have:=hS2.lo i hi
  have:=hS2.hi i hi
  repeat rw [zF _ _ _ _ (by omega)]
 ·simp only [List.nodup_cons,List.mem_cons,List.not_mem_nil,or_false,not_or,List.nodup_nil,and_true,not_false_eq_true]
  omega
 ·intro t ht
  simp only [List.mem_cons,List.not_mem_nil,or_false] at ht
  omega
 ·intro id hid
  rw [WI.ofL_ids] at hid
  rcases List.mem_append.1 hid with hid | hid
  ·simp only [List.mem_cons,List.not_mem_nil,or_false] at hid
   omega
  ·rcases List.mem_append.1 hid with hid | hid
   ·have:=hS1.lo id hid
    have:=hS1.hi id hid
    omega
   ·have:=hS2.lo id hid
    have:=hS2.hi id hid
    omega
end Go.AE.Tryz
end
section
/- Contracts of the laws' marks. -/
set_option maxRecDepth 8000
set_option maxHeartbeats 4000000
namespace Go.AE.Tryz
open Go.Proofs
open List renaming map_take → qt,map_drop → qd,map_tail → ql
def mkNod (k:Int):Nod:=⟨k,k + 1,k + 2,k + 3,k + 4⟩
theorem m_markNodeS {id:Nat} {xs:List Nod} {k:Int} (hlim:xs.length ≤ LIM) (h0:0 ≤ k) (h1:k ≤ 1152921504606846976):AC ctx.P 75 [.ref id 5 0 xs.length,.int .i64 k] (fun h _=>h id = some (.row 5 (xs.map yS)))
 (fun h nx v h' nx'=>v = .int .i64 (k + (5:Nat) * xs.length) ∧ h' id = some (.row 5 ((yD mkNod 5 k xs.length).map yS)) ∧ ∀ j,j < nx → j ≠ id → h' j = h j):=by
 refine AC.o okC Tryz.func75 rfl fun h nx hfr hnx hpre => ?_
 have hid:id < nx:=hnx id (by rw [hpre];simp)
 try simp [-qt,-qd,-ql,rgs]
 refine zR (h0:=h) (nx0:=0) [1,5,6,7,8,9,10,11,12,13,14,15,16,17,18,19,20,21,22,23,24,25,26,27,28,29,30,31,32,33,34,35,36,37,38,39,40,41,42,43,44,45,46] (xs.length) (fun (i:Nat) a=>[(5,.int .i64 i),(1,.int .i64 (k + (5:Nat) * i))]) (fun i (_:Unit) h' n'=>h' id = some (.row 5 (uI yS mkNod 5 k xs i)) ∧ (∀ j,j < nx → j ≠ id → h' j = h j) ∧ nx ≤ n') (()) (by simp) ?_ (fun j hj=>absurd hj (by omega)) (Nat.zero_le _) ?_
 ·simp [zI0,hpre]
 ·intro i a tm h' n' hle hJ hE hn' next hnx
  try dsimp only at hJ
  simp [-qt,-qd,-ql]
  obtain ⟨hJ,hJf,hJn⟩:=hJ
  by_cases hlt:i < xs.length
  ·have hl:(uI yS mkNod 5 k xs i).length = xs.length:=zA8 (by omega)
   rw [uY hlt] at hJ
   have hlim0:=hlim
   simp only [LIM] at hlim
   repeat' first | done | ((first | ((with_reducible show zT _ _ _ _ _ _);refine zA rfl fun _ => ?_) | (((with_reducible show zK _ _ _ _ (.ref _ _ _ _) _ _);refine zV rfl (by omega) (by omega) ?_)) | (((with_reducible show vP _ _ _ _ _ _ _ _ _);refine uC (xs:=uI yS mkNod 5 k xs i) (by first | exact hJ | exact zJ _ _ _) (by omega) rfl rfl (by omega) ?_))) <;> simp [-qt,-qd,-ql,rgs,hJ,yS,zE (x:=k + 5 * (i:Int) + 1) (by omega),zE (x:=k + 5 * (i:Int) + 1 + 1) (by omega),zE (x:=k + 5 * (i:Int) + 1 + 1 + 1) (by omega),zE (x:=k + 5 * (i:Int) + 1 + 1 + 1 + 1) (by omega),zE (x:=k + 5 * (i:Int) + 1 + 1 + 1 + 1 + 1) (by omega)]) | ((with_reducible refine zC ?_ ?_) <;> intro qb <;> (have qp:=qb;try simp only [psq] at qp) <;> simp [-qt,-qd,-ql,rgs,hJ,yS,zE (x:=k + 5 * (i:Int) + 1) (by omega),zE (x:=k + 5 * (i:Int) + 1 + 1) (by omega),zE (x:=k + 5 * (i:Int) + 1 + 1 + 1) (by omega),zE (x:=k + 5 * (i:Int) + 1 + 1 + 1 + 1) (by omega),zE (x:=k + 5 * (i:Int) + 1 + 1 + 1 + 1 + 1) (by omega),qb])
   all_goals first
   | omega
   | (refine hnx.go () ?_ ?_ ?_ ?_ ?_ ?_
      ·omega
      ·simp [zI hlt hlim0] <;> omega
      ·simp
      ·exact fun j hj=>absurd hj (by omega)
      ·exact Nat.zero_le _
      try dsimp only
      refine ⟨?_,fun j hj hji => ?_,by omega⟩
      ·rw [← zB9 hlt]
       simp [mkNod,yS,Int.add_assoc]
      ·simp [hji]
       exact hJf j hj hji)
  ·skip
   repeat' first | done | (((with_reducible show zT _ _ _ _ _ _);refine zA rfl fun _ => ?_) <;> simp [-qt,-qd,-ql,rgs,hJ,hlt]) | fail
   refine ⟨by omega,?_,hJf⟩
   have:i = xs.length:=by omega
   subst this
   exact zC0 (Nat.le_refl _)
def mkEvt (k:Int):Evt:=⟨k,k + 1,k + 2,k + 3⟩
theorem m_markEventS {id:Nat} {xs:List Evt} {k:Int} (hlim:xs.length ≤ LIM) (h0:0 ≤ k) (h1:k ≤ 1152921504606846976):AC ctx.P 76 [.ref id 4 0 xs.length,.int .i64 k] (fun h _=>h id = some (.row 4 (xs.map vD)))
 (fun h nx v h' nx'=>v = .int .i64 (k + (4:Nat) * xs.length) ∧ h' id = some (.row 4 ((yD mkEvt 4 k xs.length).map vD)) ∧ ∀ j,j < nx → j ≠ id → h' j = h j):=by
 refine AC.o okC Tryz.func76 rfl fun h nx hfr hnx hpre => ?_
 have hid:id < nx:=hnx id (by rw [hpre];simp)
 try simp [-qt,-qd,-ql,rgs]
 refine zR (h0:=h) (nx0:=0) [1,5,6,7,8,9,10,11,12,13,14,15,16,17,18,19,20,21,22,23,24,25,26,27,28,29,30,31,32,33,34,35,36,37,38,39] (xs.length) (fun (i:Nat) a=>[(5,.int .i64 i),(1,.int .i64 (k + (4:Nat) * i))]) (fun i (_:Unit) h' n'=>h' id = some (.row 4 (uI vD mkEvt 4 k xs i)) ∧ (∀ j,j < nx → j ≠ id → h' j = h j) ∧ nx ≤ n') (()) (by simp) ?_ (fun j hj=>absurd hj (by omega)) (Nat.zero_le _) ?_
 ·simp [zI0,hpre]
 ·intro i a tm h' n' hle hJ hE hn' next hnx
  try dsimp only at hJ
  simp [-qt,-qd,-ql]
  obtain ⟨hJ,hJf,hJn⟩:=hJ
  by_cases hlt:i < xs.length
  ·have hl:(uI vD mkEvt 4 k xs i).length = xs.length:=zA8 (by omega)
   rw [uY hlt] at hJ
   have hlim0:=hlim
   simp only [LIM] at hlim
   repeat' first | done | ((first | ((with_reducible show zT _ _ _ _ _ _);refine zA rfl fun _ => ?_) | (((with_reducible show zK _ _ _ _ (.ref _ _ _ _) _ _);refine zV rfl (by omega) (by omega) ?_)) | (((with_reducible show vP _ _ _ _ _ _ _ _ _);refine uC (xs:=uI vD mkEvt 4 k xs i) (by first | exact hJ | exact zJ _ _ _) (by omega) rfl rfl (by omega) ?_))) <;> simp [-qt,-qd,-ql,rgs,hJ,vD,zE (x:=k + 4 * (i:Int) + 1) (by omega),zE (x:=k + 4 * (i:Int) + 1 + 1) (by omega),zE (x:=k + 4 * (i:Int) + 1 + 1 + 1) (by omega),zE (x:=k + 4 * (i:Int) + 1 + 1 + 1 + 1) (by omega)]) | ((with_reducible refine zC ?_ ?_) <;> intro qb <;> (have qp:=qb;try simp only [psq] at qp) <;> simp [-qt,-qd,-ql,rgs,hJ,vD,zE (x:=k + 4 * (i:Int) + 1) (by omega),zE (x:=k + 4 * (i:Int) + 1 + 1) (by omega),zE (x:=k + 4 * (i:Int) + 1 + 1 + 1) (by omega),zE (x:=k + 4 * (i:Int) + 1 + 1 + 1 + 1) (by omega),qb])
   all_goals first
   | omega
   | (refine hnx.go () ?_ ?_ ?_ ?_ ?_ ?_
      ·omega
      ·simp [zI hlt hlim0] <;> omega
      ·simp
      ·exact fun j hj=>absurd hj (by omega)
      ·exact Nat.zero_le _
      try dsimp only
      refine ⟨?_,fun j hj hji => ?_,by omega⟩
      ·rw [← zB9 hlt]
       simp [mkEvt,vD,Int.add_assoc]
      ·simp [hji]
       exact hJf j hj hji)
  ·skip
   repeat' first | done | (((with_reducible show zT _ _ _ _ _ _);refine zA rfl fun _ => ?_) <;> simp [-qt,-qd,-ql,rgs,hJ,hlt]) | fail
   refine ⟨by omega,?_,hJf⟩
   have:i = xs.length:=by omega
   subst this
   exact zC0 (Nat.le_refl _)
def zO5 (k:Int):Twg:=⟨k,k + 1,k + 2⟩
theorem m_markTwigS {id:Nat} {xs:List Twg} {k:Int} (hlim:xs.length ≤ LIM) (h0:0 ≤ k) (h1:k ≤ 1152921504606846976):AC ctx.P 195 [.ref id 3 0 xs.length,.int .i64 k] (fun h _=>h id = some (.row 3 (xs.map zZ)))
 (fun h nx v h' nx'=>v = .int .i64 (k + (3:Nat) * xs.length) ∧ h' id = some (.row 3 ((yD zO5 3 k xs.length).map zZ)) ∧ ∀ j,j < nx → j ≠ id → h' j = h j):=by
 refine AC.o okC Tryz.func195 rfl fun h nx hfr hnx hpre => ?_
 have hid:id < nx:=hnx id (by rw [hpre];simp)
 try simp [-qt,-qd,-ql,rgs]
 refine zR (h0:=h) (nx0:=0) [1,5,6,7,8,9,10,11,12,13,14,15,16,17,18,19,20,21,22,23,24,25,26,27,28,29,30,31,32] (xs.length) (fun (i:Nat) a=>[(5,.int .i64 i),(1,.int .i64 (k + (3:Nat) * i))]) (fun i (_:Unit) h' n'=>h' id = some (.row 3 (uI zZ zO5 3 k xs i)) ∧ (∀ j,j < nx → j ≠ id → h' j = h j) ∧ nx ≤ n') (()) (by simp) ?_ (fun j hj=>absurd hj (by omega)) (Nat.zero_le _) ?_
 ·simp [zI0,hpre]
 ·intro i a tm h' n' hle hJ hE hn' next hnx
  try dsimp only at hJ
  simp [-qt,-qd,-ql]
  obtain ⟨hJ,hJf,hJn⟩:=hJ
  by_cases hlt:i < xs.length
  ·have hl:(uI zZ zO5 3 k xs i).length = xs.length:=zA8 (by omega)
   rw [uY hlt] at hJ
   have hlim0:=hlim
   simp only [LIM] at hlim
   repeat' first | done | ((first | ((with_reducible show zT _ _ _ _ _ _);refine zA rfl fun _ => ?_) | (((with_reducible show zK _ _ _ _ (.ref _ _ _ _) _ _);refine zV rfl (by omega) (by omega) ?_)) | (((with_reducible show vP _ _ _ _ _ _ _ _ _);refine uC (xs:=uI zZ zO5 3 k xs i) (by first | exact hJ | exact zJ _ _ _) (by omega) rfl rfl (by omega) ?_))) <;> simp [-qt,-qd,-ql,rgs,hJ,zZ,zE (x:=k + 3 * (i:Int) + 1) (by omega),zE (x:=k + 3 * (i:Int) + 1 + 1) (by omega),zE (x:=k + 3 * (i:Int) + 1 + 1 + 1) (by omega)]) | ((with_reducible refine zC ?_ ?_) <;> intro qb <;> (have qp:=qb;try simp only [psq] at qp) <;> simp [-qt,-qd,-ql,rgs,hJ,zZ,zE (x:=k + 3 * (i:Int) + 1) (by omega),zE (x:=k + 3 * (i:Int) + 1 + 1) (by omega),zE (x:=k + 3 * (i:Int) + 1 + 1 + 1) (by omega),qb])
   all_goals first
   | omega
   | (refine hnx.go () ?_ ?_ ?_ ?_ ?_ ?_
      ·omega
      ·simp [zI hlt hlim0] <;> omega
      ·simp
      ·exact fun j hj=>absurd hj (by omega)
      ·exact Nat.zero_le _
      try dsimp only
      refine ⟨?_,fun j hj hji => ?_,by omega⟩
      ·rw [← zB9 hlt]
       simp [zO5,zZ,Int.add_assoc]
      ·simp [hji]
       exact hJf j hj hji)
  ·skip
   repeat' first | done | (((with_reducible show zT _ _ _ _ _ _);refine zA rfl fun _ => ?_) <;> simp [-qt,-qd,-ql,rgs,hJ,hlt]) | fail
   refine ⟨by omega,?_,hJf⟩
   have:i = xs.length:=by omega
   subst this
   exact zC0 (Nat.le_refl _)
def zO9 (k:Int):Tmr:=⟨k,k + 1,k + 2,k + 3,(k + 4).tmod 3 == 0⟩
theorem m_markTimerS {id:Nat} {xs:List Tmr} {k:Int} (hlim:xs.length ≤ LIM) (h0:0 ≤ k) (h1:k ≤ 1152921504606846976):AC ctx.P 196 [.ref id 5 0 xs.length,.int .i64 k] (fun h _=>h id = some (.row 5 (xs.map yN)))
 (fun h nx v h' nx'=>v = .int .i64 (k + (5:Nat) * xs.length) ∧ h' id = some (.row 5 ((yD zO9 5 k xs.length).map yN)) ∧ ∀ j,j < nx → j ≠ id → h' j = h j):=by
 refine AC.o okC Tryz.func196 rfl fun h nx hfr hnx hpre => ?_
 have hid:id < nx:=hnx id (by rw [hpre];simp)
 try simp [-qt,-qd,-ql,rgs]
 refine zR (h0:=h) (nx0:=0) [1,5,6,7,8,9,10,11,12,13,14,15,16,17,18,19,20,21,22,23,24,25,26,27,28,29,30,31,32,33,34,35,36,37,38,39,40,41,42,43,44,45,46,47,48] (xs.length) (fun (i:Nat) a=>[(5,.int .i64 i),(1,.int .i64 (k + (5:Nat) * i))]) (fun i (_:Unit) h' n'=>h' id = some (.row 5 (uI yN zO9 5 k xs i)) ∧ (∀ j,j < nx → j ≠ id → h' j = h j) ∧ nx ≤ n') (()) (by simp) ?_ (fun j hj=>absurd hj (by omega)) (Nat.zero_le _) ?_
 ·simp [zI0,hpre]
 ·intro i a tm h' n' hle hJ hE hn' next hnx
  try dsimp only at hJ
  simp [-qt,-qd,-ql]
  obtain ⟨hJ,hJf,hJn⟩:=hJ
  by_cases hlt:i < xs.length
  ·have hl:(uI yN zO9 5 k xs i).length = xs.length:=zA8 (by omega)
   rw [uY hlt] at hJ
   have hlim0:=hlim
   simp only [LIM] at hlim
   repeat' first | done | ((first | ((with_reducible show zT _ _ _ _ _ _);refine zA rfl fun _ => ?_) | (((with_reducible show zK _ _ _ _ (.ref _ _ _ _) _ _);refine zV rfl (by omega) (by omega) ?_)) | (((with_reducible show vP _ _ _ _ _ _ _ _ _);refine uC (xs:=uI yN zO9 5 k xs i) (by first | exact hJ | exact zJ _ _ _) (by omega) rfl rfl (by omega) ?_))) <;> simp [-qt,-qd,-ql,rgs,hJ,yN,zE (x:=k + 5 * (i:Int) + 1) (by omega),zE (x:=k + 5 * (i:Int) + 1 + 1) (by omega),zE (x:=k + 5 * (i:Int) + 1 + 1 + 1) (by omega),zE (x:=k + 5 * (i:Int) + 1 + 1 + 1 + 1) (by omega),zE (x:=k + 5 * (i:Int) + 1 + 1 + 1 + 1 + 1) (by omega)]) | ((with_reducible refine zC ?_ ?_) <;> intro qb <;> (have qp:=qb;try simp only [psq] at qp) <;> simp [-qt,-qd,-ql,rgs,hJ,yN,zE (x:=k + 5 * (i:Int) + 1) (by omega),zE (x:=k + 5 * (i:Int) + 1 + 1) (by omega),zE (x:=k + 5 * (i:Int) + 1 + 1 + 1) (by omega),zE (x:=k + 5 * (i:Int) + 1 + 1 + 1 + 1) (by omega),zE (x:=k + 5 * (i:Int) + 1 + 1 + 1 + 1 + 1) (by omega),qb])
   all_goals first
   | omega
   | (refine hnx.go () ?_ ?_ ?_ ?_ ?_ ?_
      ·omega
      ·simp [zI hlt hlim0] <;> omega
      ·simp
      ·exact fun j hj=>absurd hj (by omega)
      ·exact Nat.zero_le _
      try dsimp only
      refine ⟨?_,fun j hj hji => ?_,by omega⟩
      ·rw [← zB9 hlt]
       simp [zO9,yN,Int.add_assoc]
      ·simp [hji]
       exact hJf j hj hji)
  ·skip
   repeat' first | done | (((with_reducible show zT _ _ _ _ _ _);refine zA rfl fun _ => ?_) <;> simp [-qt,-qd,-ql,rgs,hJ,hlt]) | fail
   refine ⟨by omega,?_,hJf⟩
   have:i = xs.length:=by omega
   subst this
   exact zC0 (Nat.le_refl _)
def zO3 (k:Int):Afr:=⟨⟨k,k + 1⟩,k + 2,k + 3,(k + 4).tmod 3 == 0⟩
theorem m_markAfterS {id:Nat} {xs:List Afr} {k:Int} (hlim:xs.length ≤ LIM) (h0:0 ≤ k) (h1:k ≤ 1152921504606846976):AC ctx.P 198 [.ref id 5 0 xs.length,.int .i64 k] (fun h _=>h id = some (.row 5 (xs.map vB)))
 (fun h nx v h' nx'=>v = .int .i64 (k + (5:Nat) * xs.length) ∧ h' id = some (.row 5 ((yD zO3 5 k xs.length).map vB)) ∧ ∀ j,j < nx → j ≠ id → h' j = h j):=by
 refine AC.o okC Tryz.func198 rfl fun h nx hfr hnx hpre => ?_
 have hid:id < nx:=hnx id (by rw [hpre];simp)
 try simp [-qt,-qd,-ql,rgs]
 refine zR (h0:=h) (nx0:=0) [1,5,6,7,8,9,10,11,12,13,14,15,16,17,18,19,20,21,22,23,24,25,26,27,28,29,30,31,32,33,34,35,36,37,38,39,40,41,42,43,44,45,46,47,48,49,50] (xs.length) (fun (i:Nat) a=>[(5,.int .i64 i),(1,.int .i64 (k + (5:Nat) * i))]) (fun i (_:Unit) h' n'=>h' id = some (.row 5 (uI vB zO3 5 k xs i)) ∧ (∀ j,j < nx → j ≠ id → h' j = h j) ∧ nx ≤ n') (()) (by simp) ?_ (fun j hj=>absurd hj (by omega)) (Nat.zero_le _) ?_
 ·simp [zI0,hpre]
 ·intro i a tm h' n' hle hJ hE hn' next hnx
  try dsimp only at hJ
  simp [-qt,-qd,-ql]
  obtain ⟨hJ,hJf,hJn⟩:=hJ
  by_cases hlt:i < xs.length
  ·have hl:(uI vB zO3 5 k xs i).length = xs.length:=zA8 (by omega)
   rw [uY hlt] at hJ
   have hlim0:=hlim
   simp only [LIM] at hlim
   repeat' first | done | ((first | ((with_reducible show zT _ _ _ _ _ _);refine zA rfl fun _ => ?_) | (((with_reducible show zK _ _ _ _ (.ref _ _ _ _) _ _);refine zV rfl (by omega) (by omega) ?_)) | (((with_reducible show vP _ _ _ _ _ _ _ _ _);refine uC (xs:=uI vB zO3 5 k xs i) (by first | exact hJ | exact zJ _ _ _) (by omega) rfl rfl (by omega) ?_))) <;> simp [-qt,-qd,-ql,rgs,hJ,vB,zE (x:=k + 5 * (i:Int) + 1) (by omega),zE (x:=k + 5 * (i:Int) + 1 + 1) (by omega),zE (x:=k + 5 * (i:Int) + 1 + 1 + 1) (by omega),zE (x:=k + 5 * (i:Int) + 1 + 1 + 1 + 1) (by omega),zE (x:=k + 5 * (i:Int) + 1 + 1 + 1 + 1 + 1) (by omega)]) | ((with_reducible refine zC ?_ ?_) <;> intro qb <;> (have qp:=qb;try simp only [psq] at qp) <;> simp [-qt,-qd,-ql,rgs,hJ,vB,zE (x:=k + 5 * (i:Int) + 1) (by omega),zE (x:=k + 5 * (i:Int) + 1 + 1) (by omega),zE (x:=k + 5 * (i:Int) + 1 + 1 + 1) (by omega),zE (x:=k + 5 * (i:Int) + 1 + 1 + 1 + 1) (by omega),zE (x:=k + 5 * (i:Int) + 1 + 1 + 1 + 1 + 1) (by omega),qb])
   all_goals first
   | omega
   | (refine hnx.go () ?_ ?_ ?_ ?_ ?_ ?_
      ·omega
      ·simp [zI hlt hlim0] <;> omega
      ·simp
      ·exact fun j hj=>absurd hj (by omega)
      ·exact Nat.zero_le _
      try dsimp only
      refine ⟨?_,fun j hj hji => ?_,by omega⟩
      ·rw [← zB9 hlt]
       simp [zO3,vB,Int.add_assoc]
      ·simp [hji]
       exact hJf j hj hji)
  ·skip
   repeat' first | done | (((with_reducible show zT _ _ _ _ _ _);refine zA rfl fun _ => ?_) <;> simp [-qt,-qd,-ql,rgs,hJ,hlt]) | fail
   refine ⟨by omega,?_,hJf⟩
   have:i = xs.length:=by omega
   subst this
   exact zC0 (Nat.le_refl _)
def mkTsk (k:Int):Tsk:=⟨k,k + 1,k + 2,k + 3,k + 4,k + 5,k + 6,k + 7,k + 8⟩
theorem m_markTaskS {id:Nat} {xs:List Tsk} {k:Int} (hlim:xs.length ≤ LIM) (h0:0 ≤ k) (h1:k ≤ 1152921504606846976):AC ctx.P 80 [.ref id 9 0 xs.length,.int .i64 k] (fun h _=>h id = some (.row 9 (xs.map yM)))
 (fun h nx v h' nx'=>v = .int .i64 (k + (9:Nat) * xs.length) ∧ h' id = some (.row 9 ((yD mkTsk 9 k xs.length).map yM)) ∧ ∀ j,j < nx → j ≠ id → h' j = h j):=by
 refine AC.o okC Tryz.func80 rfl fun h nx hfr hnx hpre => ?_
 have hid:id < nx:=hnx id (by rw [hpre];simp)
 try simp [-qt,-qd,-ql,rgs]
 refine zR (h0:=h) (nx0:=0) (1 :: 5 :: 6 :: 7 :: 8 :: 9 :: 10 :: 11 :: 12 :: 13 :: 14 :: 15 :: 16 :: 17 :: 18 :: 19 :: 20 :: 21 :: 22 :: 23 :: 24 :: 25 :: 26 :: 27 :: 28 :: 29 :: 30 :: 31 :: 32 :: 33 :: 34 :: 35 :: 36 :: 37 :: 38 :: 39 :: 40 :: 41 :: 42 :: 43 :: 44 :: 45 :: 46 :: 47 :: 48 :: 49 :: 50 :: 51 :: 52 :: 53 :: 54 :: 55 :: 56 :: 57 :: 58 :: 59 :: 60 :: 61 :: 62 :: 63 :: 64 :: 65 :: 66 :: 67 :: 68 :: 69 :: 70 :: 71 :: 72 :: 73 :: 74 :: []) (xs.length) (fun (i:Nat) a=>[(5,.int .i64 i),(1,.int .i64 (k + (9:Nat) * i))]) (fun i (_:Unit) h' n'=>h' id = some (.row 9 (uI yM mkTsk 9 k xs i)) ∧ (∀ j,j < nx → j ≠ id → h' j = h j) ∧ nx ≤ n') (()) (by simp) ?_ (fun j hj=>absurd hj (by omega)) (Nat.zero_le _) ?_
 ·simp [zI0,hpre]
 ·intro i a tm h' n' hle hJ hE hn' next hnx
  try dsimp only at hJ
  simp [-qt,-qd,-ql]
  obtain ⟨hJ,hJf,hJn⟩:=hJ
  by_cases hlt:i < xs.length
  ·have hl:(uI yM mkTsk 9 k xs i).length = xs.length:=zA8 (by omega)
   rw [uY hlt] at hJ
   have hlim0:=hlim
   simp only [LIM] at hlim
   repeat' first | done | ((first | ((with_reducible show zT _ _ _ _ _ _);refine zA rfl fun _ => ?_) | (((with_reducible show zK _ _ _ _ (.ref _ _ _ _) _ _);refine zV rfl (by omega) (by omega) ?_)) | (((with_reducible show vP _ _ _ _ _ _ _ _ _);refine uC (xs:=uI yM mkTsk 9 k xs i) (by first | exact hJ | exact zJ _ _ _) (by omega) rfl rfl (by omega) ?_))) <;> simp [-qt,-qd,-ql,rgs,hJ,yM,zE (x:=k + 9 * (i:Int) + 1) (by omega),zE (x:=k + 9 * (i:Int) + 1 + 1) (by omega),zE (x:=k + 9 * (i:Int) + 1 + 1 + 1) (by omega),zE (x:=k + 9 * (i:Int) + 1 + 1 + 1 + 1) (by omega),zE (x:=k + 9 * (i:Int) + 1 + 1 + 1 + 1 + 1) (by omega),zE (x:=k + 9 * (i:Int) + 1 + 1 + 1 + 1 + 1 + 1) (by omega),zE (x:=k + 9 * (i:Int) + 1 + 1 + 1 + 1 + 1 + 1 + 1) (by omega),zE (x:=k + 9 * (i:Int) + 1 + 1 + 1 + 1 + 1 + 1 + 1 + 1) (by omega),zE (x:=k + 9 * (i:Int) + 1 + 1 + 1 + 1 + 1 + 1 + 1 + 1 + 1) (by omega)]) | ((with_reducible refine zC ?_ ?_) <;> intro qb <;> (have qp:=qb;try simp only [psq] at qp) <;> simp [-qt,-qd,-ql,rgs,hJ,yM,zE (x:=k + 9 * (i:Int) + 1) (by omega),zE (x:=k + 9 * (i:Int) + 1 + 1) (by omega),zE (x:=k + 9 * (i:Int) + 1 + 1 + 1) (by omega),zE (x:=k + 9 * (i:Int) + 1 + 1 + 1 + 1) (by omega),zE (x:=k + 9 * (i:Int) + 1 + 1 + 1 + 1 + 1) (by omega),zE (x:=k + 9 * (i:Int) + 1 + 1 + 1 + 1 + 1 + 1) (by omega),zE (x:=k + 9 * (i:Int) + 1 + 1 + 1 + 1 + 1 + 1 + 1) (by omega),zE (x:=k + 9 * (i:Int) + 1 + 1 + 1 + 1 + 1 + 1 + 1 + 1) (by omega),zE (x:=k + 9 * (i:Int) + 1 + 1 + 1 + 1 + 1 + 1 + 1 + 1 + 1) (by omega),qb])
   all_goals first
   | omega
   | (refine hnx.go () ?_ ?_ ?_ ?_ ?_ ?_
      ·omega
      ·simp [zI hlt hlim0] <;> omega
      ·simp
      ·exact fun j hj=>absurd hj (by omega)
      ·exact Nat.zero_le _
      try dsimp only
      refine ⟨?_,fun j hj hji => ?_,by omega⟩
      ·rw [← zB9 hlt]
       simp [mkTsk,yM,Int.add_assoc]
      ·simp [hji]
       exact hJf j hj hji)
  ·skip
   repeat' first | done | (((with_reducible show zT _ _ _ _ _ _);refine zA rfl fun _ => ?_) <;> simp [-qt,-qd,-ql,rgs,hJ,hlt]) | fail
   refine ⟨by omega,?_,hJf⟩
   have:i = xs.length:=by omega
   subst this
   exact zC0 (Nat.le_refl _)
def mkSgt (k:Int):Sgt:=⟨k,k + 1,k + 2,k + 3⟩
theorem m_markSightS {id:Nat} {xs:List Sgt} {k:Int} (hlim:xs.length ≤ LIM) (h0:0 ≤ k) (h1:k ≤ 1152921504606846976):AC ctx.P 82 [.ref id 4 0 xs.length,.int .i64 k] (fun h _=>h id = some (.row 4 (xs.map uU)))
 (fun h nx v h' nx'=>v = .int .i64 (k + (4:Nat) * xs.length) ∧ h' id = some (.row 4 ((yD mkSgt 4 k xs.length).map uU)) ∧ ∀ j,j < nx → j ≠ id → h' j = h j):=by
 refine AC.o okC Tryz.func82 rfl fun h nx hfr hnx hpre => ?_
 have hid:id < nx:=hnx id (by rw [hpre];simp)
 try simp [-qt,-qd,-ql,rgs]
 refine zR (h0:=h) (nx0:=0) [1,5,6,7,8,9,10,11,12,13,14,15,16,17,18,19,20,21,22,23,24,25,26,27,28,29,30,31,32,33,34,35,36,37,38,39] (xs.length) (fun (i:Nat) a=>[(5,.int .i64 i),(1,.int .i64 (k + (4:Nat) * i))]) (fun i (_:Unit) h' n'=>h' id = some (.row 4 (uI uU mkSgt 4 k xs i)) ∧ (∀ j,j < nx → j ≠ id → h' j = h j) ∧ nx ≤ n') (()) (by simp) ?_ (fun j hj=>absurd hj (by omega)) (Nat.zero_le _) ?_
 ·simp [zI0,hpre]
 ·intro i a tm h' n' hle hJ hE hn' next hnx
  try dsimp only at hJ
  simp [-qt,-qd,-ql]
  obtain ⟨hJ,hJf,hJn⟩:=hJ
  by_cases hlt:i < xs.length
  ·have hl:(uI uU mkSgt 4 k xs i).length = xs.length:=zA8 (by omega)
   rw [uY hlt] at hJ
   have hlim0:=hlim
   simp only [LIM] at hlim
   repeat' first | done | ((first | ((with_reducible show zT _ _ _ _ _ _);refine zA rfl fun _ => ?_) | (((with_reducible show zK _ _ _ _ (.ref _ _ _ _) _ _);refine zV rfl (by omega) (by omega) ?_)) | (((with_reducible show vP _ _ _ _ _ _ _ _ _);refine uC (xs:=uI uU mkSgt 4 k xs i) (by first | exact hJ | exact zJ _ _ _) (by omega) rfl rfl (by omega) ?_))) <;> simp [-qt,-qd,-ql,rgs,hJ,uU,zE (x:=k + 4 * (i:Int) + 1) (by omega),zE (x:=k + 4 * (i:Int) + 1 + 1) (by omega),zE (x:=k + 4 * (i:Int) + 1 + 1 + 1) (by omega),zE (x:=k + 4 * (i:Int) + 1 + 1 + 1 + 1) (by omega)]) | ((with_reducible refine zC ?_ ?_) <;> intro qb <;> (have qp:=qb;try simp only [psq] at qp) <;> simp [-qt,-qd,-ql,rgs,hJ,uU,zE (x:=k + 4 * (i:Int) + 1) (by omega),zE (x:=k + 4 * (i:Int) + 1 + 1) (by omega),zE (x:=k + 4 * (i:Int) + 1 + 1 + 1) (by omega),zE (x:=k + 4 * (i:Int) + 1 + 1 + 1 + 1) (by omega),qb])
   all_goals first
   | omega
   | (refine hnx.go () ?_ ?_ ?_ ?_ ?_ ?_
      ·omega
      ·simp [zI hlt hlim0] <;> omega
      ·simp
      ·exact fun j hj=>absurd hj (by omega)
      ·exact Nat.zero_le _
      try dsimp only
      refine ⟨?_,fun j hj hji => ?_,by omega⟩
      ·rw [← zB9 hlt]
       simp [mkSgt,uU,Int.add_assoc]
      ·simp [hji]
       exact hJf j hj hji)
  ·skip
   repeat' first | done | (((with_reducible show zT _ _ _ _ _ _);refine zA rfl fun _ => ?_) <;> simp [-qt,-qd,-ql,rgs,hJ,hlt]) | fail
   refine ⟨by omega,?_,hJf⟩
   have:i = xs.length:=by omega
   subst this
   exact zC0 (Nat.le_refl _)
def mkInn (k:Int):Inn:=⟨k,k + 1,k + 2⟩
theorem m_markInsS {id:Nat} {xs:List Inn} {k:Int} (hlim:xs.length ≤ LIM) (h0:0 ≤ k) (h1:k ≤ 1152921504606846976):AC ctx.P 193 [.ref id 3 0 xs.length,.int .i64 k] (fun h _=>h id = some (.row 3 (xs.map vY)))
 (fun h nx v h' nx'=>v = .int .i64 (k + (3:Nat) * xs.length) ∧ h' id = some (.row 3 ((yD mkInn 3 k xs.length).map vY)) ∧ ∀ j,j < nx → j ≠ id → h' j = h j):=by
 refine AC.o okC Tryz.func193 rfl fun h nx hfr hnx hpre => ?_
 have hid:id < nx:=hnx id (by rw [hpre];simp)
 try simp [-qt,-qd,-ql,rgs]
 refine zR (h0:=h) (nx0:=0) [1,5,6,7,8,9,10,11,12,13,14,15,16,17,18,19,20,21,22,23,24,25,26,27,28,29,30,31,32] (xs.length) (fun (i:Nat) a=>[(5,.int .i64 i),(1,.int .i64 (k + (3:Nat) * i))]) (fun i (_:Unit) h' n'=>h' id = some (.row 3 (uI vY mkInn 3 k xs i)) ∧ (∀ j,j < nx → j ≠ id → h' j = h j) ∧ nx ≤ n') (()) (by simp) ?_ (fun j hj=>absurd hj (by omega)) (Nat.zero_le _) ?_
 ·simp [zI0,hpre]
 ·intro i a tm h' n' hle hJ hE hn' next hnx
  try dsimp only at hJ
  simp [-qt,-qd,-ql]
  obtain ⟨hJ,hJf,hJn⟩:=hJ
  by_cases hlt:i < xs.length
  ·have hl:(uI vY mkInn 3 k xs i).length = xs.length:=zA8 (by omega)
   rw [uY hlt] at hJ
   have hlim0:=hlim
   simp only [LIM] at hlim
   repeat' first | done | ((first | ((with_reducible show zT _ _ _ _ _ _);refine zA rfl fun _ => ?_) | (((with_reducible show zK _ _ _ _ (.ref _ _ _ _) _ _);refine zV rfl (by omega) (by omega) ?_)) | (((with_reducible show vP _ _ _ _ _ _ _ _ _);refine uC (xs:=uI vY mkInn 3 k xs i) (by first | exact hJ | exact zJ _ _ _) (by omega) rfl rfl (by omega) ?_))) <;> simp [-qt,-qd,-ql,rgs,hJ,vY,zE (x:=k + 3 * (i:Int) + 1) (by omega),zE (x:=k + 3 * (i:Int) + 1 + 1) (by omega),zE (x:=k + 3 * (i:Int) + 1 + 1 + 1) (by omega)]) | ((with_reducible refine zC ?_ ?_) <;> intro qb <;> (have qp:=qb;try simp only [psq] at qp) <;> simp [-qt,-qd,-ql,rgs,hJ,vY,zE (x:=k + 3 * (i:Int) + 1) (by omega),zE (x:=k + 3 * (i:Int) + 1 + 1) (by omega),zE (x:=k + 3 * (i:Int) + 1 + 1 + 1) (by omega),qb])
   all_goals first
   | omega
   | (refine hnx.go () ?_ ?_ ?_ ?_ ?_ ?_
      ·omega
      ·simp [zI hlt hlim0] <;> omega
      ·simp
      ·exact fun j hj=>absurd hj (by omega)
      ·exact Nat.zero_le _
      try dsimp only
      refine ⟨?_,fun j hj hji => ?_,by omega⟩
      ·rw [← zB9 hlt]
       simp [mkInn,vY,Int.add_assoc]
      ·simp [hji]
       exact hJf j hj hji)
  ·skip
   repeat' first | done | (((with_reducible show zT _ _ _ _ _ _);refine zA rfl fun _ => ?_) <;> simp [-qt,-qd,-ql,rgs,hJ,hlt]) | fail
   refine ⟨by omega,?_,hJf⟩
   have:i = xs.length:=by omega
   subst this
   exact zC0 (Nat.le_refl _)
def zD5 (k:Int):Int:=k
theorem zE9 {id:Nat} {xs:List Int} {k:Int} (hlim:xs.length ≤ LIM) (h0:0 ≤ k) (h1:k ≤ 1152921504606846976):AC ctx.P 83 [.ref id 1 0 xs.length,.int .i64 k] (fun h _=>h id = some (.row 1 (xs.map iv)))
 (fun h nx v h' nx'=>v = .int .i64 (k + (1:Nat) * xs.length) ∧ h' id = some (.row 1 ((yD zD5 1 k xs.length).map iv)) ∧ ∀ j,j < nx → j ≠ id → h' j = h j):=by
 refine AC.o okC Tryz.func83 rfl fun h nx hfr hnx hpre => ?_
 have hid:id < nx:=hnx id (by rw [hpre];simp)
 try simp [-qt,-qd,-ql,rgs]
 refine zR (h0:=h) (nx0:=0) [1,5,6,7,8,9,10,11,12,13,14,15,16,17] (xs.length) (fun (i:Nat) a=>[(5,.int .i64 i),(1,.int .i64 (k + (1:Nat) * i))]) (fun i (_:Unit) h' n'=>h' id = some (.row 1 (uI iv zD5 1 k xs i)) ∧ (∀ j,j < nx → j ≠ id → h' j = h j) ∧ nx ≤ n') (()) (by simp) ?_ (fun j hj=>absurd hj (by omega)) (Nat.zero_le _) ?_
 ·simp [zI0,hpre]
 ·intro i a tm h' n' hle hJ hE hn' next hnx
  try dsimp only at hJ
  simp [-qt,-qd,-ql]
  obtain ⟨hJ,hJf,hJn⟩:=hJ
  by_cases hlt:i < xs.length
  ·have hl:(uI iv zD5 1 k xs i).length = xs.length:=zA8 (by omega)
   rw [uY hlt] at hJ
   have hlim0:=hlim
   simp only [LIM] at hlim
   repeat' first | done | ((first | ((with_reducible show zT _ _ _ _ _ _);refine zA rfl fun _ => ?_) | (((with_reducible show zK _ _ _ _ (.ref _ _ _ _) _ _);refine zV rfl (by omega) (by omega) ?_)) | (((with_reducible show vP _ _ _ _ _ _ _ _ _);refine uC (xs:=uI iv zD5 1 k xs i) (by first | exact hJ | exact zJ _ _ _) (by omega) rfl rfl (by omega) ?_))) <;> simp [-qt,-qd,-ql,rgs,hJ,iv,zE (x:=k + (i:Int) + 1) (by omega)]) | ((with_reducible refine zC ?_ ?_) <;> intro qb <;> (have qp:=qb;try simp only [psq] at qp) <;> simp [-qt,-qd,-ql,rgs,hJ,iv,zE (x:=k + (i:Int) + 1) (by omega),qb])
   all_goals first
   | omega
   | (refine hnx.go () ?_ ?_ ?_ ?_ ?_ ?_
      ·omega
      ·simp [zI hlt hlim0] <;> omega
      ·simp
      ·exact fun j hj=>absurd hj (by omega)
      ·exact Nat.zero_le _
      try dsimp only
      refine ⟨?_,fun j hj hji => ?_,by omega⟩
      ·rw [← zB9 hlt]
       simp [zD5,iv,Int.add_assoc]
      ·simp [hji]
       exact hJf j hj hji)
  ·skip
   repeat' first | done | (((with_reducible show zT _ _ _ _ _ _);refine zA rfl fun _ => ?_) <;> simp [-qt,-qd,-ql,rgs,hJ,hlt]) | fail
   refine ⟨by omega,?_,hJf⟩
   have:i = xs.length:=by omega
   subst this
   exact zC0 (Nat.le_refl _)
def zA3 (k:Int):Bool:=k.tmod 3 == 0
theorem m_markBoolS {id:Nat} {xs:List Bool} {k:Int} (hlim:xs.length ≤ LIM) (h0:0 ≤ k) (h1:k ≤ 1152921504606846976):AC ctx.P 194 [.ref id 1 0 xs.length,.int .i64 k] (fun h _=>h id = some (.row 1 (xs.map bv)))
 (fun h nx v h' nx'=>v = .int .i64 (k + (1:Nat) * xs.length) ∧ h' id = some (.row 1 ((yD zA3 1 k xs.length).map bv)) ∧ ∀ j,j < nx → j ≠ id → h' j = h j):=by
 refine AC.o okC Tryz.func194 rfl fun h nx hfr hnx hpre => ?_
 have hid:id < nx:=hnx id (by rw [hpre];simp)
 try simp [-qt,-qd,-ql,rgs]
 refine zR (h0:=h) (nx0:=0) [1,5,6,7,8,9,10,11,12,13,14,15,16,17,18,19] (xs.length) (fun (i:Nat) a=>[(5,.int .i64 i),(1,.int .i64 (k + (1:Nat) * i))]) (fun i (_:Unit) h' n'=>h' id = some (.row 1 (uI bv zA3 1 k xs i)) ∧ (∀ j,j < nx → j ≠ id → h' j = h j) ∧ nx ≤ n') (()) (by simp) ?_ (fun j hj=>absurd hj (by omega)) (Nat.zero_le _) ?_
 ·simp [zI0,hpre]
 ·intro i a tm h' n' hle hJ hE hn' next hnx
  try dsimp only at hJ
  simp [-qt,-qd,-ql]
  obtain ⟨hJ,hJf,hJn⟩:=hJ
  by_cases hlt:i < xs.length
  ·have hl:(uI bv zA3 1 k xs i).length = xs.length:=zA8 (by omega)
   rw [uY hlt] at hJ
   have hlim0:=hlim
   simp only [LIM] at hlim
   repeat' first | done | ((first | ((with_reducible show zT _ _ _ _ _ _);refine zA rfl fun _ => ?_) | (((with_reducible show zK _ _ _ _ (.ref _ _ _ _) _ _);refine zV rfl (by omega) (by omega) ?_)) | (((with_reducible show vP _ _ _ _ _ _ _ _ _);refine uC (xs:=uI bv zA3 1 k xs i) (by first | exact hJ | exact zJ _ _ _) (by omega) rfl rfl (by omega) ?_))) <;> simp [-qt,-qd,-ql,rgs,hJ,bv,zE (x:=k + (i:Int) + 1) (by omega)]) | ((with_reducible refine zC ?_ ?_) <;> intro qb <;> (have qp:=qb;try simp only [psq] at qp) <;> simp [-qt,-qd,-ql,rgs,hJ,bv,zE (x:=k + (i:Int) + 1) (by omega),qb])
   all_goals first
   | omega
   | (refine hnx.go () ?_ ?_ ?_ ?_ ?_ ?_
      ·omega
      ·simp [zI hlt hlim0] <;> omega
      ·simp
      ·exact fun j hj=>absurd hj (by omega)
      ·exact Nat.zero_le _
      try dsimp only
      refine ⟨?_,fun j hj hji => ?_,by omega⟩
      ·rw [← zB9 hlt]
       simp [zA3,bv,Int.add_assoc]
      ·simp [hji]
       exact hJf j hj hji)
  ·skip
   repeat' first | done | (((with_reducible show zT _ _ _ _ _ _);refine zA rfl fun _ => ?_) <;> simp [-qt,-qd,-ql,rgs,hJ,hlt]) | fail
   refine ⟨by omega,?_,hJf⟩
   have:i = xs.length:=by omega
   subst this
   exact zC0 (Nat.le_refl _)
end Go.AE.Tryz
end
section
/- Contracts of the laws' readings of marks. -/
set_option maxRecDepth 8000
set_option maxHeartbeats 4000000
namespace Go.AE.Tryz
open Go.Proofs
open List renaming map_take → qt,map_drop → qd,map_tail → ql
theorem h_heldNodeS {p:Bool} {n:Nat} {k:Int} (hlim:n ≤ LIM) (h0:0 ≤ k) (h1:k ≤ 1152921504606846976):PC ctx.P 85 [.view p 5 ((yD mkNod 5 k n).map yS),.int .i64 k] (.int .i64 (k + (5:Nat) * n)):=by
 refine PC.o okC Tryz.func85 rfl (.int _ _) fun h nx hnx => ?_
 try simp [-qt,-qd,-ql,rgs]
 refine zR [1,4,5,6,7,8,9,10,11,12,13,14,15,16,17,18,19,20,21,22,23,24,25,26,27,28,29,30,31,32,33,34,35,36,37,38,39,40,41,42,43,44,45,46,47,48,49,50,51,52,53,54,55,56] (n) (fun (i:Nat) a=>[(5,.int .i64 i),(1,.int .i64 (k + (5:Nat) * i))]) (fun i_ a_ h_ _=>(fun i (_:Unit) _=>True) i_ a_ h_) (()) (by simp) ?_ zO (Nat.le_refl _) ?_
 ·trivial
 ·intro i a tm h' n' hle hJ hE hn' next hnx
  try dsimp only at hJ
  have hK:KeepB nx h' h:=KeepB.sub hE zG (by omega)
  simp [-qt,-qd,-ql]
  have hlim0:=hlim
  simp only [LIM] at hlim
  by_cases hlt:i < n
  ·have hg:gt (yD mkNod 5 k n) (i:Int) = mkNod (k + (5:Nat) * i):=zE2 hlt
   repeat' first | done | ((first | ((with_reducible show zT _ _ _ _ _ _);refine zA rfl fun _ => ?_) | ((with_reducible show zK _ _ _ _ _ _ _);refine zH rfl omA omA ?_)) <;> simp [-qt,-qd,-ql,rgs,hg,yS,mkNod,zE (x:=k + (5 * (i:Int) + 1)) (by omega),zE (x:=k + (5 * (i:Int) + 2)) (by omega),zE (x:=k + (5 * (i:Int) + 3)) (by omega),zE (x:=k + (5 * (i:Int) + 4)) (by omega),zE (x:=k + (5 * (i:Int) + 5)) (by omega),Int.add_assoc]) | ((with_reducible refine zC ?_ ?_) <;> intro qb <;> (have qp:=qb;try simp only [psq] at qp) <;> simp [-qt,-qd,-ql,rgs,hg,yS,mkNod,zE (x:=k + (5 * (i:Int) + 1)) (by omega),zE (x:=k + (5 * (i:Int) + 2)) (by omega),zE (x:=k + (5 * (i:Int) + 3)) (by omega),zE (x:=k + (5 * (i:Int) + 4)) (by omega),zE (x:=k + (5 * (i:Int) + 5)) (by omega),Int.add_assoc,qb])
   all_goals first
   | omega
   | (refine hnx.go () ?_ ?_ ?_ ?_ ?_ ?_
      ·omega
      ·simp [zI hlt hlim0] <;> omega
      ·simp
      ·exact zG
      ·first | omega | (simp;omega)
      trivial)
   | trace_state
  ·have:i = n:=by omega
   subst this
   repeat' first | done | (((with_reducible show zT _ _ _ _ _ _);refine zA rfl fun _ => ?_) <;> simp [-qt,-qd,-ql,rgs,hlt]) | fail
   all_goals (try clear hnx)
   all_goals (simp_all [];done)
theorem h_heldEventS {p:Bool} {n:Nat} {k:Int} (hlim:n ≤ LIM) (h0:0 ≤ k) (h1:k ≤ 1152921504606846976):PC ctx.P 86 [.view p 4 ((yD mkEvt 4 k n).map vD),.int .i64 k] (.int .i64 (k + (4:Nat) * n)):=by
 refine PC.o okC Tryz.func86 rfl (.int _ _) fun h nx hnx => ?_
 try simp [-qt,-qd,-ql,rgs]
 refine zR [1,4,5,6,7,8,9,10,11,12,13,14,15,16,17,18,19,20,21,22,23,24,25,26,27,28,29,30,31,32,33,34,35,36,37,38,39,40,41,42,43,44,45,46,47] (n) (fun (i:Nat) a=>[(5,.int .i64 i),(1,.int .i64 (k + (4:Nat) * i))]) (fun i_ a_ h_ _=>(fun i (_:Unit) _=>True) i_ a_ h_) (()) (by simp) ?_ zO (Nat.le_refl _) ?_
 ·trivial
 ·intro i a tm h' n' hle hJ hE hn' next hnx
  try dsimp only at hJ
  have hK:KeepB nx h' h:=KeepB.sub hE zG (by omega)
  simp [-qt,-qd,-ql]
  have hlim0:=hlim
  simp only [LIM] at hlim
  by_cases hlt:i < n
  ·have hg:gt (yD mkEvt 4 k n) (i:Int) = mkEvt (k + (4:Nat) * i):=zE2 hlt
   repeat' first | done | ((first | ((with_reducible show zT _ _ _ _ _ _);refine zA rfl fun _ => ?_) | ((with_reducible show zK _ _ _ _ _ _ _);refine zH rfl omA omA ?_)) <;> simp [-qt,-qd,-ql,rgs,hg,vD,mkEvt,zE (x:=k + (4 * (i:Int) + 1)) (by omega),zE (x:=k + (4 * (i:Int) + 2)) (by omega),zE (x:=k + (4 * (i:Int) + 3)) (by omega),zE (x:=k + (4 * (i:Int) + 4)) (by omega),Int.add_assoc]) | ((with_reducible refine zC ?_ ?_) <;> intro qb <;> (have qp:=qb;try simp only [psq] at qp) <;> simp [-qt,-qd,-ql,rgs,hg,vD,mkEvt,zE (x:=k + (4 * (i:Int) + 1)) (by omega),zE (x:=k + (4 * (i:Int) + 2)) (by omega),zE (x:=k + (4 * (i:Int) + 3)) (by omega),zE (x:=k + (4 * (i:Int) + 4)) (by omega),Int.add_assoc,qb])
   all_goals first
   | omega
   | (refine hnx.go () ?_ ?_ ?_ ?_ ?_ ?_
      ·omega
      ·simp [zI hlt hlim0] <;> omega
      ·simp
      ·exact zG
      ·first | omega | (simp;omega)
      trivial)
   | trace_state
  ·have:i = n:=by omega
   subst this
   repeat' first | done | (((with_reducible show zT _ _ _ _ _ _);refine zA rfl fun _ => ?_) <;> simp [-qt,-qd,-ql,rgs,hlt]) | fail
   all_goals (try clear hnx)
   all_goals (simp_all [];done)
theorem h_heldTwigS {p:Bool} {n:Nat} {k:Int} (hlim:n ≤ LIM) (h0:0 ≤ k) (h1:k ≤ 1152921504606846976):PC ctx.P 201 [.view p 3 ((yD zO5 3 k n).map zZ),.int .i64 k] (.int .i64 (k + (3:Nat) * n)):=by
 refine PC.o okC Tryz.func201 rfl (.int _ _) fun h nx hnx => ?_
 try simp [-qt,-qd,-ql,rgs]
 refine zR [1,4,5,6,7,8,9,10,11,12,13,14,15,16,17,18,19,20,21,22,23,24,25,26,27,28,29,30,31,32,33,34,35,36,37,38] (n) (fun (i:Nat) a=>[(5,.int .i64 i),(1,.int .i64 (k + (3:Nat) * i))]) (fun i_ a_ h_ _=>(fun i (_:Unit) _=>True) i_ a_ h_) (()) (by simp) ?_ zO (Nat.le_refl _) ?_
 ·trivial
 ·intro i a tm h' n' hle hJ hE hn' next hnx
  try dsimp only at hJ
  have hK:KeepB nx h' h:=KeepB.sub hE zG (by omega)
  simp [-qt,-qd,-ql]
  have hlim0:=hlim
  simp only [LIM] at hlim
  by_cases hlt:i < n
  ·have hg:gt (yD zO5 3 k n) (i:Int) = zO5 (k + (3:Nat) * i):=zE2 hlt
   repeat' first | done | ((first | ((with_reducible show zT _ _ _ _ _ _);refine zA rfl fun _ => ?_) | ((with_reducible show zK _ _ _ _ _ _ _);refine zH rfl omA omA ?_)) <;> simp [-qt,-qd,-ql,rgs,hg,zZ,zO5,zE (x:=k + (3 * (i:Int) + 1)) (by omega),zE (x:=k + (3 * (i:Int) + 2)) (by omega),zE (x:=k + (3 * (i:Int) + 3)) (by omega),Int.add_assoc]) | ((with_reducible refine zC ?_ ?_) <;> intro qb <;> (have qp:=qb;try simp only [psq] at qp) <;> simp [-qt,-qd,-ql,rgs,hg,zZ,zO5,zE (x:=k + (3 * (i:Int) + 1)) (by omega),zE (x:=k + (3 * (i:Int) + 2)) (by omega),zE (x:=k + (3 * (i:Int) + 3)) (by omega),Int.add_assoc,qb])
   all_goals first
   | omega
   | (refine hnx.go () ?_ ?_ ?_ ?_ ?_ ?_
      ·omega
      ·simp [zI hlt hlim0] <;> omega
      ·simp
      ·exact zG
      ·first | omega | (simp;omega)
      trivial)
   | trace_state
  ·have:i = n:=by omega
   subst this
   repeat' first | done | (((with_reducible show zT _ _ _ _ _ _);refine zA rfl fun _ => ?_) <;> simp [-qt,-qd,-ql,rgs,hlt]) | fail
   all_goals (try clear hnx)
   all_goals (simp_all [];done)
theorem h_heldTimerS {p:Bool} {n:Nat} {k:Int} (hlim:n ≤ LIM) (h0:0 ≤ k) (h1:k ≤ 1152921504606846976):PC ctx.P 202 [.view p 5 ((yD zO9 5 k n).map yN),.int .i64 k] (.int .i64 (k + (5:Nat) * n)):=by
 refine PC.o okC Tryz.func202 rfl (.int _ _) fun h nx hnx => ?_
 try simp [-qt,-qd,-ql,rgs]
 refine zR [1,4,5,6,7,8,9,10,11,12,13,14,15,16,17,18,19,20,21,22,23,24,25,26,27,28,29,30,31,32,33,34,35,36,37,38,39,40,41,42,43,44,45,46,47,48,49,50,51,52,53,54,55,56,57,58] (n) (fun (i:Nat) a=>[(5,.int .i64 i),(1,.int .i64 (k + (5:Nat) * i))]) (fun i_ a_ h_ _=>(fun i (_:Unit) _=>True) i_ a_ h_) (()) (by simp) ?_ zO (Nat.le_refl _) ?_
 ·trivial
 ·intro i a tm h' n' hle hJ hE hn' next hnx
  try dsimp only at hJ
  have hK:KeepB nx h' h:=KeepB.sub hE zG (by omega)
  simp [-qt,-qd,-ql]
  have hlim0:=hlim
  simp only [LIM] at hlim
  by_cases hlt:i < n
  ·have hg:gt (yD zO9 5 k n) (i:Int) = zO9 (k + (5:Nat) * i):=zE2 hlt
   repeat' first | done | ((first | ((with_reducible show zT _ _ _ _ _ _);refine zA rfl fun _ => ?_) | ((with_reducible show zK _ _ _ _ _ _ _);refine zH rfl omA omA ?_)) <;> simp [-qt,-qd,-ql,rgs,hg,yN,zO9,zE (x:=k + (5 * (i:Int) + 1)) (by omega),zE (x:=k + (5 * (i:Int) + 2)) (by omega),zE (x:=k + (5 * (i:Int) + 3)) (by omega),zE (x:=k + (5 * (i:Int) + 4)) (by omega),zE (x:=k + (5 * (i:Int) + 5)) (by omega),Int.add_assoc]) | ((with_reducible refine zC ?_ ?_) <;> intro qb <;> (have qp:=qb;try simp only [psq] at qp) <;> simp [-qt,-qd,-ql,rgs,hg,yN,zO9,zE (x:=k + (5 * (i:Int) + 1)) (by omega),zE (x:=k + (5 * (i:Int) + 2)) (by omega),zE (x:=k + (5 * (i:Int) + 3)) (by omega),zE (x:=k + (5 * (i:Int) + 4)) (by omega),zE (x:=k + (5 * (i:Int) + 5)) (by omega),Int.add_assoc,qb])
   all_goals first
   | omega
   | (refine hnx.go () ?_ ?_ ?_ ?_ ?_ ?_
      ·omega
      ·simp [zI hlt hlim0] <;> omega
      ·simp
      ·exact zG
      ·first | omega | (simp;omega)
      trivial)
   | trace_state
  ·have:i = n:=by omega
   subst this
   repeat' first | done | (((with_reducible show zT _ _ _ _ _ _);refine zA rfl fun _ => ?_) <;> simp [-qt,-qd,-ql,rgs,hlt]) | fail
   all_goals (try clear hnx)
   all_goals (simp_all [];done)
theorem h_heldAfterS {p:Bool} {n:Nat} {k:Int} (hlim:n ≤ LIM) (h0:0 ≤ k) (h1:k ≤ 1152921504606846976):PC ctx.P 204 [.view p 5 ((yD zO3 5 k n).map vB),.int .i64 k] (.int .i64 (k + (5:Nat) * n)):=by
 refine PC.o okC Tryz.func204 rfl (.int _ _) fun h nx hnx => ?_
 try simp [-qt,-qd,-ql,rgs]
 refine zR [1,4,5,6,7,8,9,10,11,12,13,14,15,16,17,18,19,20,21,22,23,24,25,26,27,28,29,30,31,32,33,34,35,36,37,38,39,40,41,42,43,44,45,46,47,48,49,50,51,52,53,54,55,56,57,58,59,60] (n) (fun (i:Nat) a=>[(5,.int .i64 i),(1,.int .i64 (k + (5:Nat) * i))]) (fun i_ a_ h_ _=>(fun i (_:Unit) _=>True) i_ a_ h_) (()) (by simp) ?_ zO (Nat.le_refl _) ?_
 ·trivial
 ·intro i a tm h' n' hle hJ hE hn' next hnx
  try dsimp only at hJ
  have hK:KeepB nx h' h:=KeepB.sub hE zG (by omega)
  simp [-qt,-qd,-ql]
  have hlim0:=hlim
  simp only [LIM] at hlim
  by_cases hlt:i < n
  ·have hg:gt (yD zO3 5 k n) (i:Int) = zO3 (k + (5:Nat) * i):=zE2 hlt
   repeat' first | done | ((first | ((with_reducible show zT _ _ _ _ _ _);refine zA rfl fun _ => ?_) | ((with_reducible show zK _ _ _ _ _ _ _);refine zH rfl omA omA ?_)) <;> simp [-qt,-qd,-ql,rgs,hg,vB,zO3,zE (x:=k + (5 * (i:Int) + 1)) (by omega),zE (x:=k + (5 * (i:Int) + 2)) (by omega),zE (x:=k + (5 * (i:Int) + 3)) (by omega),zE (x:=k + (5 * (i:Int) + 4)) (by omega),zE (x:=k + (5 * (i:Int) + 5)) (by omega),Int.add_assoc]) | ((with_reducible refine zC ?_ ?_) <;> intro qb <;> (have qp:=qb;try simp only [psq] at qp) <;> simp [-qt,-qd,-ql,rgs,hg,vB,zO3,zE (x:=k + (5 * (i:Int) + 1)) (by omega),zE (x:=k + (5 * (i:Int) + 2)) (by omega),zE (x:=k + (5 * (i:Int) + 3)) (by omega),zE (x:=k + (5 * (i:Int) + 4)) (by omega),zE (x:=k + (5 * (i:Int) + 5)) (by omega),Int.add_assoc,qb])
   all_goals first
   | omega
   | (refine hnx.go () ?_ ?_ ?_ ?_ ?_ ?_
      ·omega
      ·simp [zI hlt hlim0] <;> omega
      ·simp
      ·exact zG
      ·first | omega | (simp;omega)
      trivial)
   | trace_state
  ·have:i = n:=by omega
   subst this
   repeat' first | done | (((with_reducible show zT _ _ _ _ _ _);refine zA rfl fun _ => ?_) <;> simp [-qt,-qd,-ql,rgs,hlt]) | fail
   all_goals (try clear hnx)
   all_goals (simp_all [];done)
theorem h_heldTaskS {p:Bool} {n:Nat} {k:Int} (hlim:n ≤ LIM) (h0:0 ≤ k) (h1:k ≤ 1152921504606846976):PC ctx.P 90 [.view p 9 ((yD mkTsk 9 k n).map yM),.int .i64 k] (.int .i64 (k + (9:Nat) * n)):=by
 refine PC.o okC Tryz.func90 rfl (.int _ _) fun h nx hnx => ?_
 try simp [-qt,-qd,-ql,rgs]
 refine zR (1 :: 4 :: 5 :: 6 :: 7 :: 8 :: 9 :: 10 :: 11 :: 12 :: 13 :: 14 :: 15 :: 16 :: 17 :: 18 :: 19 :: 20 :: 21 :: 22 :: 23 :: 24 :: 25 :: 26 :: 27 :: 28 :: 29 :: 30 :: 31 :: 32 :: 33 :: 34 :: 35 :: 36 :: 37 :: 38 :: 39 :: 40 :: 41 :: 42 :: 43 :: 44 :: 45 :: 46 :: 47 :: 48 :: 49 :: 50 :: 51 :: 52 :: 53 :: 54 :: 55 :: 56 :: 57 :: 58 :: 59 :: 60 :: 61 :: 62 :: 63 :: 64 :: 65 :: 66 :: 67 :: 68 :: 69 :: 70 :: 71 :: 72 :: 73 :: 74 :: 75 :: 76 :: 77 :: 78 :: 79 :: 80 :: 81 :: 82 :: 83 :: 84 :: 85 :: 86 :: 87 :: 88 :: 89 :: 90 :: 91 :: 92 :: []) (n) (fun (i:Nat) a=>[(5,.int .i64 i),(1,.int .i64 (k + (9:Nat) * i))]) (fun i_ a_ h_ _=>(fun i (_:Unit) _=>True) i_ a_ h_) (()) (by simp) ?_ zO (Nat.le_refl _) ?_
 ·trivial
 ·intro i a tm h' n' hle hJ hE hn' next hnx
  try dsimp only at hJ
  have hK:KeepB nx h' h:=KeepB.sub hE zG (by omega)
  simp [-qt,-qd,-ql]
  have hlim0:=hlim
  simp only [LIM] at hlim
  by_cases hlt:i < n
  ·have hg:gt (yD mkTsk 9 k n) (i:Int) = mkTsk (k + (9:Nat) * i):=zE2 hlt
   repeat' first | done | ((first | ((with_reducible show zT _ _ _ _ _ _);refine zA rfl fun _ => ?_) | ((with_reducible show zK _ _ _ _ _ _ _);refine zH rfl omA omA ?_)) <;> simp [-qt,-qd,-ql,rgs,hg,yM,mkTsk,zE (x:=k + (9 * (i:Int) + 1)) (by omega),zE (x:=k + (9 * (i:Int) + 2)) (by omega),zE (x:=k + (9 * (i:Int) + 3)) (by omega),zE (x:=k + (9 * (i:Int) + 4)) (by omega),zE (x:=k + (9 * (i:Int) + 5)) (by omega),zE (x:=k + (9 * (i:Int) + 6)) (by omega),zE (x:=k + (9 * (i:Int) + 7)) (by omega),zE (x:=k + (9 * (i:Int) + 8)) (by omega),zE (x:=k + (9 * (i:Int) + 9)) (by omega),Int.add_assoc]) | ((with_reducible refine zC ?_ ?_) <;> intro qb <;> (have qp:=qb;try simp only [psq] at qp) <;> simp [-qt,-qd,-ql,rgs,hg,yM,mkTsk,zE (x:=k + (9 * (i:Int) + 1)) (by omega),zE (x:=k + (9 * (i:Int) + 2)) (by omega),zE (x:=k + (9 * (i:Int) + 3)) (by omega),zE (x:=k + (9 * (i:Int) + 4)) (by omega),zE (x:=k + (9 * (i:Int) + 5)) (by omega),zE (x:=k + (9 * (i:Int) + 6)) (by omega),zE (x:=k + (9 * (i:Int) + 7)) (by omega),zE (x:=k + (9 * (i:Int) + 8)) (by omega),zE (x:=k + (9 * (i:Int) + 9)) (by omega),Int.add_assoc,qb])
   all_goals first
   | omega
   | (refine hnx.go () ?_ ?_ ?_ ?_ ?_ ?_
      ·omega
      ·simp [zI hlt hlim0] <;> omega
      ·simp
      ·exact zG
      ·first | omega | (simp;omega)
      trivial)
   | trace_state
  ·have:i = n:=by omega
   subst this
   repeat' first | done | (((with_reducible show zT _ _ _ _ _ _);refine zA rfl fun _ => ?_) <;> simp [-qt,-qd,-ql,rgs,hlt]) | fail
   all_goals (try clear hnx)
   all_goals (simp_all [];done)
theorem h_heldSightS {p:Bool} {n:Nat} {k:Int} (hlim:n ≤ LIM) (h0:0 ≤ k) (h1:k ≤ 1152921504606846976):PC ctx.P 92 [.view p 4 ((yD mkSgt 4 k n).map uU),.int .i64 k] (.int .i64 (k + (4:Nat) * n)):=by
 refine PC.o okC Tryz.func92 rfl (.int _ _) fun h nx hnx => ?_
 try simp [-qt,-qd,-ql,rgs]
 refine zR [1,4,5,6,7,8,9,10,11,12,13,14,15,16,17,18,19,20,21,22,23,24,25,26,27,28,29,30,31,32,33,34,35,36,37,38,39,40,41,42,43,44,45,46,47] (n) (fun (i:Nat) a=>[(5,.int .i64 i),(1,.int .i64 (k + (4:Nat) * i))]) (fun i_ a_ h_ _=>(fun i (_:Unit) _=>True) i_ a_ h_) (()) (by simp) ?_ zO (Nat.le_refl _) ?_
 ·trivial
 ·intro i a tm h' n' hle hJ hE hn' next hnx
  try dsimp only at hJ
  have hK:KeepB nx h' h:=KeepB.sub hE zG (by omega)
  simp [-qt,-qd,-ql]
  have hlim0:=hlim
  simp only [LIM] at hlim
  by_cases hlt:i < n
  ·have hg:gt (yD mkSgt 4 k n) (i:Int) = mkSgt (k + (4:Nat) * i):=zE2 hlt
   repeat' first | done | ((first | ((with_reducible show zT _ _ _ _ _ _);refine zA rfl fun _ => ?_) | ((with_reducible show zK _ _ _ _ _ _ _);refine zH rfl omA omA ?_)) <;> simp [-qt,-qd,-ql,rgs,hg,uU,mkSgt,zE (x:=k + (4 * (i:Int) + 1)) (by omega),zE (x:=k + (4 * (i:Int) + 2)) (by omega),zE (x:=k + (4 * (i:Int) + 3)) (by omega),zE (x:=k + (4 * (i:Int) + 4)) (by omega),Int.add_assoc]) | ((with_reducible refine zC ?_ ?_) <;> intro qb <;> (have qp:=qb;try simp only [psq] at qp) <;> simp [-qt,-qd,-ql,rgs,hg,uU,mkSgt,zE (x:=k + (4 * (i:Int) + 1)) (by omega),zE (x:=k + (4 * (i:Int) + 2)) (by omega),zE (x:=k + (4 * (i:Int) + 3)) (by omega),zE (x:=k + (4 * (i:Int) + 4)) (by omega),Int.add_assoc,qb])
   all_goals first
   | omega
   | (refine hnx.go () ?_ ?_ ?_ ?_ ?_ ?_
      ·omega
      ·simp [zI hlt hlim0] <;> omega
      ·simp
      ·exact zG
      ·first | omega | (simp;omega)
      trivial)
   | trace_state
  ·have:i = n:=by omega
   subst this
   repeat' first | done | (((with_reducible show zT _ _ _ _ _ _);refine zA rfl fun _ => ?_) <;> simp [-qt,-qd,-ql,rgs,hlt]) | fail
   all_goals (try clear hnx)
   all_goals (simp_all [];done)
theorem h_heldInsS {p:Bool} {n:Nat} {k:Int} (hlim:n ≤ LIM) (h0:0 ≤ k) (h1:k ≤ 1152921504606846976):PC ctx.P 199 [.view p 3 ((yD mkInn 3 k n).map vY),.int .i64 k] (.int .i64 (k + (3:Nat) * n)):=by
 refine PC.o okC Tryz.func199 rfl (.int _ _) fun h nx hnx => ?_
 try simp [-qt,-qd,-ql,rgs]
 refine zR [1,4,5,6,7,8,9,10,11,12,13,14,15,16,17,18,19,20,21,22,23,24,25,26,27,28,29,30,31,32,33,34,35,36,37,38] (n) (fun (i:Nat) a=>[(5,.int .i64 i),(1,.int .i64 (k + (3:Nat) * i))]) (fun i_ a_ h_ _=>(fun i (_:Unit) _=>True) i_ a_ h_) (()) (by simp) ?_ zO (Nat.le_refl _) ?_
 ·trivial
 ·intro i a tm h' n' hle hJ hE hn' next hnx
  try dsimp only at hJ
  have hK:KeepB nx h' h:=KeepB.sub hE zG (by omega)
  simp [-qt,-qd,-ql]
  have hlim0:=hlim
  simp only [LIM] at hlim
  by_cases hlt:i < n
  ·have hg:gt (yD mkInn 3 k n) (i:Int) = mkInn (k + (3:Nat) * i):=zE2 hlt
   repeat' first | done | ((first | ((with_reducible show zT _ _ _ _ _ _);refine zA rfl fun _ => ?_) | ((with_reducible show zK _ _ _ _ _ _ _);refine zH rfl omA omA ?_)) <;> simp [-qt,-qd,-ql,rgs,hg,vY,mkInn,zE (x:=k + (3 * (i:Int) + 1)) (by omega),zE (x:=k + (3 * (i:Int) + 2)) (by omega),zE (x:=k + (3 * (i:Int) + 3)) (by omega),Int.add_assoc]) | ((with_reducible refine zC ?_ ?_) <;> intro qb <;> (have qp:=qb;try simp only [psq] at qp) <;> simp [-qt,-qd,-ql,rgs,hg,vY,mkInn,zE (x:=k + (3 * (i:Int) + 1)) (by omega),zE (x:=k + (3 * (i:Int) + 2)) (by omega),zE (x:=k + (3 * (i:Int) + 3)) (by omega),Int.add_assoc,qb])
   all_goals first
   | omega
   | (refine hnx.go () ?_ ?_ ?_ ?_ ?_ ?_
      ·omega
      ·simp [zI hlt hlim0] <;> omega
      ·simp
      ·exact zG
      ·first | omega | (simp;omega)
      trivial)
   | trace_state
  ·have:i = n:=by omega
   subst this
   repeat' first | done | (((with_reducible show zT _ _ _ _ _ _);refine zA rfl fun _ => ?_) <;> simp [-qt,-qd,-ql,rgs,hlt]) | fail
   all_goals (try clear hnx)
   all_goals (simp_all [];done)
theorem zE6 {p:Bool} {n:Nat} {k:Int} (hlim:n ≤ LIM) (h0:0 ≤ k) (h1:k ≤ 1152921504606846976):PC ctx.P 93 [.view p 1 ((yD zD5 1 k n).map iv),.int .i64 k] (.int .i64 (k + (1:Nat) * n)):=by
 refine PC.o okC Tryz.func93 rfl (.int _ _) fun h nx hnx => ?_
 try simp [-qt,-qd,-ql,rgs]
 refine zR [1,4,5,6,7,8,9,10,11,12,13,14,15,16,17,18,19] (n) (fun (i:Nat) a=>[(5,.int .i64 i),(1,.int .i64 (k + (1:Nat) * i))]) (fun i_ a_ h_ _=>(fun i (_:Unit) _=>True) i_ a_ h_) (()) (by simp) ?_ zO (Nat.le_refl _) ?_
 ·trivial
 ·intro i a tm h' n' hle hJ hE hn' next hnx
  try dsimp only at hJ
  have hK:KeepB nx h' h:=KeepB.sub hE zG (by omega)
  simp [-qt,-qd,-ql]
  have hlim0:=hlim
  simp only [LIM] at hlim
  by_cases hlt:i < n
  ·have hg:gt (yD zD5 1 k n) (i:Int) = zD5 (k + (1:Nat) * i):=zE2 hlt
   repeat' first | done | ((first | ((with_reducible show zT _ _ _ _ _ _);refine zA rfl fun _ => ?_) | ((with_reducible show zK _ _ _ _ _ _ _);refine zH rfl omA omA ?_)) <;> simp [-qt,-qd,-ql,rgs,hg,iv,zD5,zE (x:=k + ((i:Int) + 1)) (by omega),Int.add_assoc]) | ((with_reducible refine zC ?_ ?_) <;> intro qb <;> (have qp:=qb;try simp only [psq] at qp) <;> simp [-qt,-qd,-ql,rgs,hg,iv,zD5,zE (x:=k + ((i:Int) + 1)) (by omega),Int.add_assoc,qb])
   all_goals first
   | omega
   | (refine hnx.go () ?_ ?_ ?_ ?_ ?_ ?_
      ·omega
      ·simp [zI hlt hlim0] <;> omega
      ·simp
      ·exact zG
      ·first | omega | (simp;omega)
      trivial)
   | trace_state
  ·have:i = n:=by omega
   subst this
   repeat' first | done | (((with_reducible show zT _ _ _ _ _ _);refine zA rfl fun _ => ?_) <;> simp [-qt,-qd,-ql,rgs,hlt]) | fail
   all_goals (try clear hnx)
   all_goals (simp_all [];done)
theorem h_heldBoolS {p:Bool} {n:Nat} {k:Int} (hlim:n ≤ LIM) (h0:0 ≤ k) (h1:k ≤ 1152921504606846976):PC ctx.P 200 [.view p 1 ((yD zA3 1 k n).map bv),.int .i64 k] (.int .i64 (k + (1:Nat) * n)):=by
 refine PC.o okC Tryz.func200 rfl (.int _ _) fun h nx hnx => ?_
 try simp [-qt,-qd,-ql,rgs]
 refine zR [1,4,5,6,7,8,9,10,11,12,13,14,15,16,17,18,19,20,21] (n) (fun (i:Nat) a=>[(5,.int .i64 i),(1,.int .i64 (k + (1:Nat) * i))]) (fun i_ a_ h_ _=>(fun i (_:Unit) _=>True) i_ a_ h_) (()) (by simp) ?_ zO (Nat.le_refl _) ?_
 ·trivial
 ·intro i a tm h' n' hle hJ hE hn' next hnx
  try dsimp only at hJ
  have hK:KeepB nx h' h:=KeepB.sub hE zG (by omega)
  simp [-qt,-qd,-ql]
  have hlim0:=hlim
  simp only [LIM] at hlim
  by_cases hlt:i < n
  ·have hg:gt (yD zA3 1 k n) (i:Int) = zA3 (k + (1:Nat) * i):=zE2 hlt
   repeat' first | done | ((first | ((with_reducible show zT _ _ _ _ _ _);refine zA rfl fun _ => ?_) | ((with_reducible show zK _ _ _ _ _ _ _);refine zH rfl omA omA ?_)) <;> simp [-qt,-qd,-ql,rgs,hg,bv,zA3,zE (x:=k + ((i:Int) + 1)) (by omega),Int.add_assoc]) | ((with_reducible refine zC ?_ ?_) <;> intro qb <;> (have qp:=qb;try simp only [psq] at qp) <;> simp [-qt,-qd,-ql,rgs,hg,bv,zA3,zE (x:=k + ((i:Int) + 1)) (by omega),Int.add_assoc,qb])
   all_goals first
   | omega
   | (refine hnx.go () ?_ ?_ ?_ ?_ ?_ ?_
      ·omega
      ·simp [zI hlt hlim0] <;> omega
      ·simp
      ·exact zG
      ·first | omega | (simp;omega)
      trivial)
   | trace_state
  ·have:i = n:=by omega
   subst this
   repeat' first | done | (((with_reducible show zT _ _ _ _ _ _);refine zA rfl fun _ => ?_) <;> simp [-qt,-qd,-ql,rgs,hlt]) | fail
   all_goals (try clear hnx)
   all_goals (simp_all [];done)
end Go.AE.Tryz
end
section
/- Contracts of the laws' marks of programs and groups. -/
set_option maxRecDepth 8000
set_option maxHeartbeats 4000000
namespace Go.AE.Tryz
open Go.Proofs
open List renaming map_take → qt,map_drop → qd,map_tail → ql
theorem m_markInsSS {id lo hi:Nat} {xs:List (List Inn)} {is:List Nat} {k:Int} (hl:is.length = xs.length) (hlim:xs.length ≤ LIM) (hli:∀ x ∈ xs,x.length ≤ LIM) (h0:0 ≤ k) (h1:k + 3 * uS (·.length) xs ≤ 1152921504606846976) (hn:id ∉ is) :
 AC ctx.P 74 [.ref id 1 0 xs.length,.int .i64 k] (fun h _=>h id = some (.row 1 (List.zipWith prgR xs is)) ∧ Subs h 3 (fun x:List Inn=>x.map vY) xs is lo hi)
 (fun h nx v h' nx'=>v = .int .i64 (k + 3 * uS (·.length) xs) ∧ Subs h' 3 (fun x:List Inn=>x.map vY) (vS xs k) is lo hi ∧ ∀ j,j < nx → j ∉ is → h' j = h j):=by
 refine AC.o okC Tryz.func74 rfl fun h nx hfr hnx hpre => ?_
 obtain ⟨hp1,hp2⟩:=hpre
 have hid:id < nx:=hnx id (by rw [hp1];simp)
 have hisn:∀ j ∈ is,j < nx:=by
  intro j hj
  obtain ⟨m,hm,rfl⟩:=List.getElem_of_mem hj
  exact hnx _ (by rw [hp2.row m (xs[m]'(by omega)) is[m] (List.getElem?_eq_getElem (by omega)) (List.getElem?_eq_getElem hm)];simp)
 try simp [-qt,-qd,-ql,rgs]
 refine zR (h0:=h) (nx0:=0) [1,5,6,7,8,9,10,11,12,13,14,15,16,17] (xs.length) (fun (i:Nat) a=>[(5,.int .i64 i),(1,.int .i64 (k + 3 * uS (·.length) (xs.take i)))]) (fun i (_:Unit) h' n'=>Subs h' 3 (fun x:List Inn=>x.map vY) (zL0 xs k i) is lo hi ∧ (∀ j,j < nx → j ∉ is → h' j = h j) ∧ nx ≤ n') (()) (by simp) ?_ (fun j hj=>absurd hj (by omega)) (Nat.zero_le _) ?_
 ·simp [zL0,vS,uS,hp2]
 ·intro i a tm h' n' hle hJ hE hn' next hnx
  try dsimp only at hJ
  simp [-qt,-qd,-ql]
  obtain ⟨hJ,hJf,hJn⟩:=hJ
  have hrow:h' id = some (.row 1 (List.zipWith prgR xs is)):=by rw [hJf id hid hn];exact hp1
  by_cases hlt:i < xs.length
  ·have hz:(List.zipWith prgR xs is)[i]? = some [.ref is[i] 3 0 xs[i].length]:=by rw [List.getElem?_zipWith,List.getElem?_eq_getElem hlt,List.getElem?_eq_getElem (by omega)];rfl
   repeat' first | done | ((first | ((with_reducible show zT _ _ _ _ _ _);refine zA rfl fun _ => ?_) | (((with_reducible show zK _ _ _ _ (.ref _ _ _ _) _ _);refine zV rfl (by omega) (by omega) ?_)) | (((with_reducible show zK8 _ _ _ _ _ _ _ _);refine vT hz ?_))) <;> simp [-qt,-qd,-ql,rgs,hrow]) | ((with_reducible refine zC ?_ ?_) <;> intro qb <;> (have qp:=qb;try simp only [psq] at qp) <;> simp [-qt,-qd,-ql,rgs,hrow,qb])
   have hb:=uT (·.length) xs i
   have hb2:=zM1 (·.length) xs i hlt
   refine yP (m_markInsS (id:=is[i]) (xs:=xs[i]) (k:=k + 3 * uS (·.length) (xs.take i)) (hli _ (List.getElem_mem hlt)) (by omega) (by omega)) (hJ.row i xs[i] is[i] (mkUpto_get hlt) (List.getElem?_eq_getElem (by omega))) ?_
   rintro r h2 n2 ⟨rfl,hq,hqf⟩ hle2 hfr2
   dsimp only at hq hqf hle2
   try simp [-qt,-qd,-ql,rgs]
   refine hnx.go () ?_ ?_ ?_ ?_ ?_ ?_
   ·omega
   ·simp [zI hlt hlim];omega
   ·simp
   ·exact fun j hj=>absurd hj (by omega)
   ·exact Nat.zero_le _
   try dsimp only
   refine ⟨?_,fun j hj hji => ?_,by omega⟩
   ·rw [mkUpto_succ hlt]
    exact hJ.set (List.getElem?_eq_getElem (by omega)) hq fun j hj hne=>hqf j (by have:=hisn j hj;omega) hne
   ·rw [hqf j (by omega) (fun e=>hji (e ▸ List.getElem_mem (by omega)))]
    exact hJf j hj hji
   exact absurd hlt (by omega)
  ·skip
   repeat' first | done | (((with_reducible show zT _ _ _ _ _ _);refine zA rfl fun _ => ?_) <;> simp [-qt,-qd,-ql,rgs,hrow,hlt]) | fail
   have e1:xs.take i = xs:=List.take_of_length_le (by omega)
   have e2:zL0 xs k i = vS xs k:=by rw [zL0,e1,List.drop_eq_nil_of_le (by omega),List.append_nil]
   rw [e2] at hJ
   exact ⟨by rw [e1],hJ,hJf⟩
end Go.AE.Tryz
end
section
/- Contracts of the laws' marks of groups. -/
set_option maxRecDepth 8000
set_option maxHeartbeats 4000000
namespace Go.AE.Tryz
open Go.Proofs
open List renaming map_take → qt,map_drop → qd,map_tail → ql
theorem m_markGroupS {id lo hi:Nat} {xs:List Grp} {is:List Nat} {k:Int} (hl:is.length = xs.length) (hlim:xs.length ≤ LIM) (hli:∀ x ∈ xs,x.waits.length ≤ LIM) (h0:0 ≤ k) (h1:k + uS gsz xs ≤ 1152921504606846976) (hn:id ∉ is) :
 AC ctx.P 81 [.ref id 5 0 xs.length,.int .i64 k] (fun h _=>h id = some (.row 5 (List.zipWith zD9 xs is)) ∧ Subs h 1 (fun x:Grp=>x.waits.map iv) xs is lo hi)
 (fun h nx v h' nx'=>v = .int .i64 (k + uS gsz xs) ∧ h' id = some (.row 5 (List.zipWith zD9 (zC6 xs k) is)) ∧ Subs h' 1 (fun x:Grp=>x.waits.map iv) (zC6 xs k) is lo hi ∧ ∀ j,j < nx → j ∉ is → j ≠ id → h' j = h j):=by
 refine AC.o okC Tryz.func81 rfl fun h nx hfr hnx hpre => ?_
 obtain ⟨hp1,hp2⟩:=hpre
 have hid:id < nx:=hnx id (by rw [hp1];simp)
 have hisn:∀ j ∈ is,j < nx:=by
  intro j hj
  obtain ⟨m,hm,rfl⟩:=List.getElem_of_mem hj
  exact hnx _ (by rw [hp2.row m (xs[m]'(by omega)) is[m] (List.getElem?_eq_getElem (by omega)) (List.getElem?_eq_getElem hm)];simp)
 try simp [-qt,-qd,-ql,rgs]
 refine zR (h0:=h) (nx0:=0) [1,5,6,7,8,9,10,11,12,13,14,15,16,17,18,19,20,21,22,23,24,25,26,27,28,29,30,31,32,33,34,35,36,37,38,39,40,41,42,43,44,45,46] (xs.length) (fun (i:Nat) a=>[(5,.int .i64 i),(1,.int .i64 (k + uS gsz (xs.take i)))]) (fun i (_:Unit) h' n'=>h' id = some (.row 5 (List.zipWith zD9 (zL7 xs k i) is)) ∧ Subs h' 1 (fun x:Grp=>x.waits.map iv) (zL7 xs k i) is lo hi ∧ (∀ j,j < nx → j ∉ is → j ≠ id → h' j = h j) ∧ nx ≤ n') (()) (by simp) ?_ (fun j hj=>absurd hj (by omega)) (Nat.zero_le _) ?_
 ·simp [zL7,zC6,hp1,hp2]
 ·intro i a tm h' n' hle hJ hE hn' next hnx
  try dsimp only at hJ
  simp [-qt,-qd,-ql]
  obtain ⟨hR,hJ,hJf,hJn⟩:=hJ
  by_cases hlt:i < xs.length
  ·have hii:is[i]? = some is[i]:=List.getElem?_eq_getElem (by omega)
   have hz:(List.zipWith zD9 (zL7 xs k i) is)[i]? = some (zD9 xs[i] is[i]):=by rw [List.getElem?_zipWith,gUpto_get hlt,hii]
   have hRl:(List.zipWith zD9 (zL7 xs k i) is).length = xs.length:=by rw [List.length_zipWith,gUpto_len (by omega)];omega
   have hb:=uT gsz xs i
   have hb2:=zM1 gsz xs i hlt
   have hb3:=uT gsz xs (i + 1)
   have hg:gsz xs[i] = 4 + xs[i].waits.length:=rfl
   rw [set_self hz] at hR
   generalize hkk:k + (uS gsz (xs.take i):Int) = kk at *
   repeat' first | done | ((first | ((with_reducible show zT _ _ _ _ _ _);refine zA rfl fun _ => ?_) | (((with_reducible show zK _ _ _ _ (.ref _ _ _ _) _ _);refine zV rfl (by omega) (by omega) ?_)) | (((with_reducible show zK8 _ _ _ _ _ _ _ _);refine vT (List.getElem?_set_self (by omega)) ?_)) | (((with_reducible show vP _ _ _ _ _ _ _ _ _);refine uC (xs:=List.zipWith zD9 (zL7 xs k i) is) (by first | exact hR | exact zJ _ _ _) (by omega) rfl rfl (by omega) ?_))) <;> simp [-qt,-qd,-ql,rgs,hR,zD9,zE (x:=kk + 1) (by omega),zE (x:=kk + 1 + 1) (by omega),zE (x:=kk + 1 + 1 + 1) (by omega)]) | ((with_reducible refine zC ?_ ?_) <;> intro qb <;> (have qp:=qb;try simp only [psq] at qp) <;> simp [-qt,-qd,-ql,rgs,hR,zD9,zE (x:=kk + 1) (by omega),zE (x:=kk + 1 + 1) (by omega),zE (x:=kk + 1 + 1 + 1) (by omega),qb])
   have hne:is[i] ≠ id:=fun e=>hn (e ▸ List.getElem_mem (by omega))
   have hw:=hJ.row i xs[i] is[i] (gUpto_get hlt) hii
   refine yP (zE9 (id:=is[i]) (xs:=xs[i].waits) (k:=kk + 1 + 1 + 1) (hli _ (List.getElem_mem hlt)) (by omega) (by omega)) (by simp [hne,hw]) ?_
   rintro r h2 n2 ⟨rfl,hq,hqf⟩ hle2 hfr2
   dsimp only at hq hqf hle2
   have hR2:=hqf id (by omega) (Ne.symm hne)
   simp at hR2
   try simp [-qt,-qd,-ql,rgs,hR2,zE (x:=kk + 1 + 1 + 1 + (xs[i].waits.length:Int) + 1) (by omega)]
   repeat' first | done | ((first | (((with_reducible show zK _ _ _ _ (.ref _ _ _ _) _ _);refine zV rfl (by omega) (by omega) ?_)) | (((with_reducible show vP _ _ _ _ _ _ _ _ _);refine uC (xs:=List.zipWith zD9 (zL7 xs k i) is) hR2 (by omega) rfl rfl (by omega) ?_))) <;> simp [-qt,-qd,-ql,rgs,hR2,zE (x:=kk + 1 + 1 + 1 + (xs[i].waits.length:Int) + 1) (by omega)]) | fail
   refine hnx.go () ?_ ?_ ?_ ?_ ?_ ?_
   ·omega
   ·simp [zI hlt hlim];omega
   ·simp
   ·exact fun j hj=>absurd hj (by omega)
   ·exact Nat.zero_le _
   try dsimp only
   have hkeep:∀ j,j < nx → j ≠ id → j ≠ is[i] → h2 j = h' j:=fun j hj hj1 hj2=>by
    rw [hqf j (by omega) hj2]
    simp [hj1]
   refine ⟨?_,?_,fun j hj hji hj2 => ?_,by omega⟩
   ·rw [gUpto_succ hlt,hkk,zip_set _ _ _ _ _ hii]
    simp [zD9,mkGrp,Int.add_assoc]
   ·rw [gUpto_succ hlt,hkk]
    refine hJ.set hii ?_ fun j hj hne2 => ?_
    ·simp [hne,mkGrp]
     rw [show (kk + 3:Int) = kk + 1 + 1 + 1 by omega]
     exact hq
    ·have hjid:j ≠ id:=fun e=>hn (e ▸ hj)
     simp [hjid]
     exact hkeep j (hisn j hj) hjid hne2
   ·simp [hj2]
    rw [hkeep j hj hj2 (fun e=>hji (e ▸ List.getElem_mem (by omega)))]
    exact hJf j hj hji hj2
   exact absurd hlt (by omega)
  ·skip
   repeat' first | done | (((with_reducible show zT _ _ _ _ _ _);refine zA rfl fun _ => ?_) <;> simp [-qt,-qd,-ql,rgs,hR,hlt]) | fail
   have e1:xs.take i = xs:=List.take_of_length_le (by omega)
   have e2:zL7 xs k i = zC6 xs k:=by rw [zL7,e1,List.drop_eq_nil_of_le (by omega),List.append_nil]
   rw [e2] at hJ
   exact ⟨by rw [e1],by rw [e2],hJ,hJf⟩
end Go.AE.Tryz
end
section
/- Contracts of the laws' marks of a world's parts. -/
set_option maxRecDepth 8000
set_option maxHeartbeats 4000000
namespace Go.AE.Tryz
open Go.Proofs
open List renaming map_take → qt,map_drop → qd,map_tail → ql
theorem m_markSpread {ia ib:Nat} {told:List Bool} {work:List Int} {k:Int} (hab:ia ≠ ib) (hl1:told.length ≤ LIM) (hl2:work.length ≤ LIM) (h0:0 ≤ k) (h1:k + (told.length:Int) + (work.length:Int) ≤ 1152921504606846976) :
 AC ctx.P 77 [.agg [.ref ia 1 0 told.length,.ref ib 1 0 work.length],.int .i64 k] (fun h _=>h ia = some (.row 1 (told.map bv)) ∧ h ib = some (.row 1 (work.map iv)))
 (fun h nx v h' nx'=>v = .int .i64 (k + (told.length:Int) + (work.length:Int)) ∧ h' ia = some (.row 1 ((yD zA3 1 k told.length).map bv)) ∧ h' ib = some (.row 1 ((yD zD5 1 (k + (told.length:Int)) work.length).map iv)) ∧ ∀ j,j < nx → j ≠ ia → j ≠ ib → h' j = h j):=by
 refine AC.o okC Tryz.func77 rfl fun h nx hfr hnx hpre => ?_
 obtain ⟨p1,p2⟩:=hpre
 have i1:ia < nx:=hnx ia (by rw [p1];simp)
 have i2:ib < nx:=hnx ib (by rw [p2];simp)
 have k1:∀ k,(ia = nx + k) = False:=fun k=>by simp only [eq_iff_iff,iff_false];omega
 have k2:∀ k,(ib = nx + k) = False:=fun k=>by simp only [eq_iff_iff,iff_false];omega
 have k3:(ia = nx) = False:=by simp only [eq_iff_iff,iff_false];omega
 have k4:(ib = nx) = False:=by simp only [eq_iff_iff,iff_false];omega
 try simp [-qt,-qd,-ql,rgs,k1,k2,k3,k4]
 refine yP (m_markBoolS (id:=ia) (xs:=told) (k:=k) hl1 h0 (by omega)) (by simp [k1,k3,p1]) ?_
 rintro r h2 n2 ⟨rfl,hq,hqf⟩ hle2 hfr2
 dsimp only at hq hqf hle2
 have g0:=hqf nx (by omega) (by omega)
 have g2:=hqf ib (by omega) (by omega)
 simp [k2,k4,p2] at g0 g2
 try simp [-qt,-qd,-ql,rgs,g0,g2]
 refine yP (zE9 (id:=ib) (xs:=work) (k:=k + (told.length:Int)) hl2 (by omega) (by omega)) g2 ?_
 rintro r h3 n3 ⟨rfl,hq3,hqf3⟩ hle3 hfr3
 dsimp only at hq3 hqf3 hle3
 have g3:=hqf3 ia (by omega) hab
 rw [hq] at g3
 try simp [-qt,-qd,-ql,rgs]
 refine ⟨by simpa using g3,by simpa using hq3,fun j hj ha hb => ?_⟩
 rw [hqf3 j (by omega) hb,hqf j (by omega) ha]
 first | rfl | (rw [zF _ _ _ _ (by omega)])
theorem m_markSlots {ia ib:Nat} {ages:List Int} {used:List Bool} {k:Int} (hab:ia ≠ ib) (hl1:ages.length ≤ LIM) (hl2:used.length ≤ LIM) (h0:0 ≤ k) (h1:k + (ages.length:Int) + (used.length:Int) ≤ 1152921504606846976) :
 AC ctx.P 197 [.agg [.ref ia 1 0 ages.length,.ref ib 1 0 used.length],.int .i64 k] (fun h _=>h ia = some (.row 1 (ages.map iv)) ∧ h ib = some (.row 1 (used.map bv)))
 (fun h nx v h' nx'=>v = .int .i64 (k + (ages.length:Int) + (used.length:Int)) ∧ h' ia = some (.row 1 ((yD zD5 1 k ages.length).map iv)) ∧ h' ib = some (.row 1 ((yD zA3 1 (k + (ages.length:Int)) used.length).map bv)) ∧ ∀ j,j < nx → j ≠ ia → j ≠ ib → h' j = h j):=by
 refine AC.o okC Tryz.func197 rfl fun h nx hfr hnx hpre => ?_
 obtain ⟨p1,p2⟩:=hpre
 have i1:ia < nx:=hnx ia (by rw [p1];simp)
 have i2:ib < nx:=hnx ib (by rw [p2];simp)
 have k1:∀ k,(ia = nx + k) = False:=fun k=>by simp only [eq_iff_iff,iff_false];omega
 have k2:∀ k,(ib = nx + k) = False:=fun k=>by simp only [eq_iff_iff,iff_false];omega
 have k3:(ia = nx) = False:=by simp only [eq_iff_iff,iff_false];omega
 have k4:(ib = nx) = False:=by simp only [eq_iff_iff,iff_false];omega
 try simp [-qt,-qd,-ql,rgs,k1,k2,k3,k4]
 refine yP (zE9 (id:=ia) (xs:=ages) (k:=k) hl1 h0 (by omega)) (by simp [k1,k3,p1]) ?_
 rintro r h2 n2 ⟨rfl,hq,hqf⟩ hle2 hfr2
 dsimp only at hq hqf hle2
 have g0:=hqf nx (by omega) (by omega)
 have g2:=hqf ib (by omega) (by omega)
 simp [k2,k4,p2] at g0 g2
 try simp [-qt,-qd,-ql,rgs,g0,g2]
 refine yP (m_markBoolS (id:=ib) (xs:=used) (k:=k + (ages.length:Int)) hl2 (by omega) (by omega)) g2 ?_
 rintro r h3 n3 ⟨rfl,hq3,hqf3⟩ hle3 hfr3
 dsimp only at hq3 hqf3 hle3
 have g3:=hqf3 ia (by omega) hab
 rw [hq] at g3
 try simp [-qt,-qd,-ql,rgs]
 refine ⟨by simpa using g3,by simpa using hq3,fun j hj ha hb => ?_⟩
 rw [hqf3 j (by omega) hb,hqf j (by omega) ha]
 first | rfl | (rw [zF _ _ _ _ (by omega)])
theorem m_markTimers {ia ib:Nat} {hp:List Twg} {lst:List Tmr} {z:Int} {k:Int} (hab:ia ≠ ib) (hl1:hp.length ≤ LIM) (hl2:lst.length ≤ LIM) (h0:0 ≤ k) (h1:k + (3:Nat) * hp.length + (5:Nat) * lst.length ≤ 1152921504606846976) :
 AC ctx.P 78 [.agg [.ref ia 3 0 hp.length,.ref ib 5 0 lst.length,.int .i64 z],.int .i64 k] (fun h _=>h ia = some (.row 3 (hp.map zZ)) ∧ h ib = some (.row 5 (lst.map yN)))
 (fun h nx v h' nx'=>v = .int .i64 (k + (3:Nat) * hp.length + (5:Nat) * lst.length) ∧ h' ia = some (.row 3 ((yD zO5 3 k hp.length).map zZ)) ∧ h' ib = some (.row 5 ((yD zO9 5 (k + (3:Nat) * hp.length) lst.length).map yN)) ∧ ∀ j,j < nx → j ≠ ia → j ≠ ib → h' j = h j):=by
 refine AC.o okC Tryz.func78 rfl fun h nx hfr hnx hpre => ?_
 obtain ⟨p1,p2⟩:=hpre
 have i1:ia < nx:=hnx ia (by rw [p1];simp)
 have i2:ib < nx:=hnx ib (by rw [p2];simp)
 have k1:∀ k,(ia = nx + k) = False:=fun k=>by simp only [eq_iff_iff,iff_false];omega
 have k2:∀ k,(ib = nx + k) = False:=fun k=>by simp only [eq_iff_iff,iff_false];omega
 have k3:(ia = nx) = False:=by simp only [eq_iff_iff,iff_false];omega
 have k4:(ib = nx) = False:=by simp only [eq_iff_iff,iff_false];omega
 try simp [-qt,-qd,-ql,rgs,k1,k2,k3,k4]
 refine yP (m_markTwigS (id:=ia) (xs:=hp) (k:=k) hl1 h0 (by omega)) (by simp [k1,k3,p1]) ?_
 rintro r h2 n2 ⟨rfl,hq,hqf⟩ hle2 hfr2
 dsimp only at hq hqf hle2
 have g0:=hqf nx (by omega) (by omega)
 have g2:=hqf ib (by omega) (by omega)
 simp [k2,k4,p2] at g0 g2
 try simp [-qt,-qd,-ql,rgs,g0,g2]
 refine yP (m_markTimerS (id:=ib) (xs:=lst) (k:=k + (3:Nat) * hp.length) hl2 (by omega) (by omega)) g2 ?_
 rintro r h3 n3 ⟨rfl,hq3,hqf3⟩ hle3 hfr3
 dsimp only at hq3 hqf3 hle3
 have g3:=hqf3 ia (by omega) hab
 rw [hq] at g3
 try simp [-qt,-qd,-ql,rgs]
 refine ⟨by simpa using g3,by simpa using hq3,fun j hj ha hb => ?_⟩
 rw [hqf3 j (by omega) hb,hqf j (by omega) ha]
 first | rfl | (rw [zF _ _ _ _ (by omega)])
theorem m_markAfters {ia ib ic:Nat} {ages:List Int} {used:List Bool} {lst:List Afr} {k:Int} (hab:ia ≠ ib) (hac:ia ≠ ic) (hbc:ib ≠ ic) (hl1:ages.length ≤ LIM) (hl2:used.length ≤ LIM) (hl3:lst.length ≤ LIM) (h0:0 ≤ k) (h1:k + (ages.length:Int) + (used.length:Int) + (5:Nat) * lst.length ≤ 1152921504606846976) :
 AC ctx.P 79 [.agg [.ref ia 1 0 ages.length,.ref ib 1 0 used.length,.ref ic 5 0 lst.length],.int .i64 k] (fun h _=>h ia = some (.row 1 (ages.map iv)) ∧ h ib = some (.row 1 (used.map bv)) ∧ h ic = some (.row 5 (lst.map vB)))
 (fun h nx v h' nx'=>v = .int .i64 (k + (ages.length:Int) + (used.length:Int) + (5:Nat) * lst.length) ∧ h' ia = some (.row 1 ((yD zD5 1 k ages.length).map iv)) ∧ h' ib = some (.row 1 ((yD zA3 1 (k + (ages.length:Int)) used.length).map bv)) ∧
   h' ic = some (.row 5 ((yD zO3 5 (k + (ages.length:Int) + (used.length:Int)) lst.length).map vB)) ∧ ∀ j,j < nx → j ≠ ia → j ≠ ib → j ≠ ic → h' j = h j):=by
 refine AC.o okC Tryz.func79 rfl fun h nx hfr hnx hpre => ?_
 obtain ⟨p1,p2,p3⟩:=hpre
 have i1:ia < nx:=hnx ia (by rw [p1];simp)
 have i2:ib < nx:=hnx ib (by rw [p2];simp)
 have i3:ic < nx:=hnx ic (by rw [p3];simp)
 have k1:∀ k,(ia = nx + k) = False:=fun k=>by simp only [eq_iff_iff,iff_false];omega
 have k2:∀ k,(ib = nx + k) = False:=fun k=>by simp only [eq_iff_iff,iff_false];omega
 have k5:∀ k,(ic = nx + k) = False:=fun k=>by simp only [eq_iff_iff,iff_false];omega
 have k3:(ia = nx) = False:=by simp only [eq_iff_iff,iff_false];omega
 have k4:(ib = nx) = False:=by simp only [eq_iff_iff,iff_false];omega
 have k6:(ic = nx) = False:=by simp only [eq_iff_iff,iff_false];omega
 try simp [-qt,-qd,-ql,rgs,k1,k2,k3,k4,k5,k6]
 refine yP (m_markSlots (ia:=ia) (ib:=ib) (ages:=ages) (used:=used) (k:=k) hab hl1 hl2 h0 (by omega)) ⟨by simp [k1,k3,p1],by simp [k2,k4,p2]⟩ ?_
 rintro r h2 n2 ⟨rfl,hqa,hqb,hqf⟩ hle2 hfr2
 dsimp only at hqa hqb hqf hle2
 have g0:=hqf nx (by omega) (by omega) (by omega)
 have g2:=hqf ic (by omega) (by omega) (by omega)
 simp [k5,k6,p3] at g0 g2
 try simp [-qt,-qd,-ql,rgs,g0,g2]
 refine yP (m_markAfterS (id:=ic) (xs:=lst) (k:=k + (ages.length:Int) + (used.length:Int)) hl3 (by omega) (by omega)) g2 ?_
 rintro r h3 n3 ⟨rfl,hq3,hqf3⟩ hle3 hfr3
 dsimp only at hq3 hqf3 hle3
 have g3:=hqf3 ia (by omega) hac
 have g4:=hqf3 ib (by omega) hbc
 rw [hqa] at g3
 rw [hqb] at g4
 try simp [-qt,-qd,-ql,rgs]
 refine ⟨by simpa using g3,by simpa using g4,by simpa using hq3,fun j hj ha hb hc => ?_⟩
 rw [hqf3 j (by omega) hc,hqf j (by omega) ha hb]
 first | rfl | (rw [zF _ _ _ _ (by omega)])
end Go.AE.Tryz
end
