/- Contracts of the seat's functions: what each answers, for all arguments. -/
import Derived.Test.YtokkkniepbkapaaGreatA4
import Derived.Test.YtokkkniepbkapaaGreatA2
import Derived.Test.YtokkkniepbkapaaGreatA1
import Derived.Test.YtokkkniepbkapaaGreatProg
import Derived.KernelRfl
import Derived.Test.YtokkkniepbkapaaGreatA3
set_option linter.unusedVariables false
set_option linter.unusedSimpArgs false
set_option linter.deprecated false
section
/- The seat's types, for the abstract machine. -/
namespace Go.AE.Tryz
open Go.Proofs
def tyL:List (TypeId × TyD):=[
 (1,{ size:=1,bytes:=8,agg:=false,zero:=[.dead] }),
 (2,{ size:=1,bytes:=8,agg:=false,zero:=[.int .i64 0],ik:=some .i64 }),
 (3,{ size:=1,bytes:=8,agg:=false,zero:=[.int .i64 0],ik:=some .i64 }),
 (4,{ size:=1,bytes:=1,agg:=false,zero:=[.bool false] }),
 (5,{ size:=1,bytes:=1,agg:=false,zero:=[.int .u8 0],ik:=some .u8 }),
 (7,{ size:=4,bytes:=24,agg:=true,zero:=[.int .i64 0,.int .i64 0,.bool false,.int .u8 0],fields:=[(0,1,2),(1,1,3),(2,1,4),(3,1,6)] }),
 (9,{ size:=1,bytes:=16,agg:=false,zero:=[.str ⟨#[]⟩],isStr:=true }),
 (12,{ size:=1,bytes:=8,agg:=false,zero:=[.int .u64 0],ik:=some .u64 }),
 (22,{ size:=1,bytes:=24,agg:=false,zero:=[.nil],elem:=some 146 }),
 (23,{ size:=1,bytes:=24,agg:=false,zero:=[.nil],elem:=some 172 }),
 (24,{ size:=1,bytes:=24,agg:=false,zero:=[.nil],elem:=some 176 }),
 (25,{ size:=1,bytes:=24,agg:=false,zero:=[.nil],elem:=some 4 }),
 (26,{ size:=1,bytes:=24,agg:=false,zero:=[.nil],elem:=some 2 }),
 (28,{ size:=2,bytes:=48,agg:=true,zero:=[.nil,.nil],fields:=[(0,1,25),(1,1,26)] }),
 (29,{ size:=1,bytes:=24,agg:=false,zero:=[.nil],elem:=some 264 }),
 (30,{ size:=1,bytes:=24,agg:=false,zero:=[.nil],elem:=some 266 }),
 (32,{ size:=3,bytes:=56,agg:=true,zero:=[.nil,.nil,.int .i64 0],fields:=[(0,1,29),(1,1,30),(2,1,2)] }),
 (34,{ size:=2,bytes:=48,agg:=true,zero:=[.nil,.nil],fields:=[(0,1,26),(1,1,25)] }),
 (35,{ size:=1,bytes:=24,agg:=false,zero:=[.nil],elem:=some 270 }),
 (37,{ size:=3,bytes:=72,agg:=true,zero:=[.nil,.nil,.nil],fields:=[(0,2,34),(2,1,35)] }),
 (38,{ size:=1,bytes:=24,agg:=false,zero:=[.nil],elem:=some 183 }),
 (39,{ size:=1,bytes:=24,agg:=false,zero:=[.nil],elem:=some 153 }),
 (40,{ size:=1,bytes:=24,agg:=false,zero:=[.nil],elem:=some 188 }),
 (42,{ size:=17,bytes:=376,agg:=true,zero:=[.int .i64 0,.nil,.nil,.nil,.nil,.nil,.nil,.nil,.int .i64 0,.nil,.nil,.nil,.nil,.nil,.nil,.nil,.nil],fields:=[(0,1,2),(1,1,22),(2,1,23),(3,1,24),(4,2,28),(6,3,32),(9,3,37),(12,1,38),(13,1,39),(14,1,40),(15,1,26),(16,1,26)] }),
 (44,{ size:=1,bytes:=24,agg:=false,zero:=[.nil],elem:=some 169 }),
 (45,{ size:=1,bytes:=24,agg:=false,zero:=[.nil],elem:=some 124 }),
 (46,{ size:=1,bytes:=24,agg:=false,zero:=[.nil],elem:=some 174 }),
 (47,{ size:=2,bytes:=48,agg:=true,zero:=[.nil,.nil],fields:=[(0,1,25),(1,1,26)] }),
 (48,{ size:=1,bytes:=24,agg:=false,zero:=[.nil],elem:=some 225 }),
 (49,{ size:=1,bytes:=24,agg:=false,zero:=[.nil],elem:=some 133 }),
 (51,{ size:=3,bytes:=56,agg:=true,zero:=[.nil,.nil,.int .i64 0],fields:=[(0,1,48),(1,1,49),(2,1,2)] }),
 (52,{ size:=2,bytes:=48,agg:=true,zero:=[.nil,.nil],fields:=[(0,1,26),(1,1,25)] }),
 (53,{ size:=1,bytes:=24,agg:=false,zero:=[.nil],elem:=some 249 }),
 (55,{ size:=3,bytes:=72,agg:=true,zero:=[.nil,.nil,.nil],fields:=[(0,2,52),(2,1,53)] }),
 (56,{ size:=1,bytes:=24,agg:=false,zero:=[.nil],elem:=some 139 }),
 (57,{ size:=1,bytes:=24,agg:=false,zero:=[.nil],elem:=some 130 }),
 (58,{ size:=1,bytes:=24,agg:=false,zero:=[.nil],elem:=some 186 }),
 (60,{ size:=17,bytes:=376,agg:=true,zero:=[.int .i64 0,.nil,.nil,.nil,.nil,.nil,.nil,.nil,.int .i64 0,.nil,.nil,.nil,.nil,.nil,.nil,.nil,.nil],fields:=[(0,1,2),(1,1,44),(2,1,45),(3,1,46),(4,2,47),(6,3,51),(9,3,55),(12,1,56),(13,1,57),(14,1,58),(15,1,26),(16,1,26)] }),
 (64,{ size:=1,bytes:=8,agg:=false,zero:=[.dead] }),
 (97,{ size:=1,bytes:=8,agg:=false,zero:=[.dead] }),
 (98,{ size:=1,bytes:=8,agg:=false,zero:=[.dead] }),
 (99,{ size:=1,bytes:=8,agg:=false,zero:=[.dead] }),
 (101,{ size:=1,bytes:=8,agg:=false,zero:=[.dead] }),
 (102,{ size:=1,bytes:=8,agg:=false,zero:=[.dead] }),
 (103,{ size:=1,bytes:=8,agg:=false,zero:=[.dead] }),
 (105,{ size:=1,bytes:=8,agg:=false,zero:=[.dead] }),
 (108,{ size:=1,bytes:=8,agg:=false,zero:=[.dead] }),
 (110,{ size:=1,bytes:=8,agg:=false,zero:=[.dead] }),
 (111,{ size:=1,bytes:=8,agg:=false,zero:=[.dead] }),
 (114,{ size:=1,bytes:=8,agg:=false,zero:=[.dead] }),
 (116,{ size:=1,bytes:=8,agg:=false,zero:=[.dead] }),
 (117,{ size:=1,bytes:=8,agg:=false,zero:=[.dead] }),
 (118,{ size:=1,bytes:=8,agg:=false,zero:=[.dead] }),
 (124,{ size:=5,bytes:=40,agg:=true,zero:=[.int .i64 0,.int .i64 0,.int .i64 0,.int .i64 0,.int .i64 0],fields:=[(0,1,2),(1,1,2),(2,1,2),(3,1,2),(4,1,2)] }),
 (130,{ size:=5,bytes:=56,agg:=true,zero:=[.int .i64 0,.int .i64 0,.int .i64 0,.nil,.int .i64 0],fields:=[(0,1,2),(1,1,2),(2,1,2),(3,1,26),(4,1,2)] }),
 (133,{ size:=5,bytes:=40,agg:=true,zero:=[.int .i64 0,.int .i64 0,.int .i64 0,.int .i64 0,.bool false],fields:=[(0,1,2),(1,1,2),(2,1,2),(3,1,2),(4,1,4)] }),
 (139,{ size:=9,bytes:=72,agg:=true,zero:=[.int .i64 0,.int .i64 0,.int .i64 0,.int .i64 0,.int .i64 0,.int .i64 0,.int .i64 0,.int .i64 0,.int .i64 0],fields:=[(0,1,2),(1,1,2),(2,1,2),(3,1,2),(4,1,2),(5,1,2),(6,1,2),(7,1,2),(8,1,2)] }),
 (146,{ size:=1,bytes:=24,agg:=false,zero:=[.nil],elem:=some 262 }),
 (153,{ size:=5,bytes:=56,agg:=true,zero:=[.int .i64 0,.int .i64 0,.int .i64 0,.nil,.int .i64 0],fields:=[(0,1,2),(1,1,2),(2,1,2),(3,1,26),(4,1,2)] }),
 (169,{ size:=1,bytes:=24,agg:=false,zero:=[.nil],elem:=some 260 }),
 (172,{ size:=5,bytes:=40,agg:=true,zero:=[.int .i64 0,.int .i64 0,.int .i64 0,.int .i64 0,.int .i64 0],fields:=[(0,1,2),(1,1,2),(2,1,2),(3,1,2),(4,1,2)] }),
 (174,{ size:=4,bytes:=32,agg:=true,zero:=[.int .i64 0,.int .i64 0,.int .i64 0,.int .i64 0],fields:=[(0,1,2),(1,1,2),(2,1,2),(3,1,2)] }),
 (176,{ size:=4,bytes:=32,agg:=true,zero:=[.int .i64 0,.int .i64 0,.int .i64 0,.int .i64 0],fields:=[(0,1,2),(1,1,2),(2,1,2),(3,1,2)] }),
 (183,{ size:=9,bytes:=72,agg:=true,zero:=[.int .i64 0,.int .i64 0,.int .i64 0,.int .i64 0,.int .i64 0,.int .i64 0,.int .i64 0,.int .i64 0,.int .i64 0],fields:=[(0,1,2),(1,1,2),(2,1,2),(3,1,2),(4,1,2),(5,1,2),(6,1,2),(7,1,2),(8,1,2)] }),
 (186,{ size:=4,bytes:=32,agg:=true,zero:=[.int .i64 0,.int .i64 0,.int .i64 0,.int .i64 0],fields:=[(0,1,2),(1,1,2),(2,1,2),(3,1,2)] }),
 (188,{ size:=4,bytes:=32,agg:=true,zero:=[.int .i64 0,.int .i64 0,.int .i64 0,.int .i64 0],fields:=[(0,1,2),(1,1,2),(2,1,2),(3,1,2)] }),
 (225,{ size:=3,bytes:=24,agg:=true,zero:=[.int .i64 0,.int .i64 0,.int .i64 0],fields:=[(0,1,2),(1,1,2),(2,1,2)] }),
 (230,{ size:=1,bytes:=8,agg:=false,zero:=[.dead] }),
 (240,{ size:=1,bytes:=8,agg:=false,zero:=[.dead] }),
 (241,{ size:=1,bytes:=8,agg:=false,zero:=[.dead] }),
 (243,{ size:=1,bytes:=8,agg:=false,zero:=[.dead] }),
 (247,{ size:=2,bytes:=16,agg:=true,zero:=[.int .i64 0,.int .i64 0],fields:=[(0,1,2),(1,1,2)] }),
 (249,{ size:=5,bytes:=40,agg:=true,zero:=[.int .i64 0,.int .i64 0,.int .i64 0,.int .i64 0,.bool false],fields:=[(0,2,247),(2,1,2),(3,1,2),(4,1,4)] }),
 (252,{ size:=1,bytes:=8,agg:=false,zero:=[.dead] }),
 (260,{ size:=3,bytes:=24,agg:=true,zero:=[.int .i64 0,.int .i64 0,.int .i64 0],fields:=[(0,1,2),(1,1,2),(2,1,2)] }),
 (262,{ size:=3,bytes:=24,agg:=true,zero:=[.int .i64 0,.int .i64 0,.int .i64 0],fields:=[(0,1,2),(1,1,2),(2,1,2)] }),
 (264,{ size:=3,bytes:=24,agg:=true,zero:=[.int .i64 0,.int .i64 0,.int .i64 0],fields:=[(0,1,2),(1,1,2),(2,1,2)] }),
 (266,{ size:=5,bytes:=40,agg:=true,zero:=[.int .i64 0,.int .i64 0,.int .i64 0,.int .i64 0,.bool false],fields:=[(0,1,2),(1,1,2),(2,1,2),(3,1,2),(4,1,4)] }),
 (268,{ size:=2,bytes:=16,agg:=true,zero:=[.int .i64 0,.int .i64 0],fields:=[(0,1,2),(1,1,2)] }),
 (270,{ size:=5,bytes:=40,agg:=true,zero:=[.int .i64 0,.int .i64 0,.int .i64 0,.int .i64 0,.bool false],fields:=[(0,2,268),(2,1,2),(3,1,2),(4,1,4)] }),
 (273,{ size:=1,bytes:=8,agg:=false,zero:=[.dead] }),
 (277,{ size:=1,bytes:=8,agg:=false,zero:=[.dead] }),
 (281,{ size:=1,bytes:=8,agg:=false,zero:=[.dead] }),
 (314,{ size:=1,bytes:=8,agg:=false,zero:=[.dead] }),
 (351,{ size:=1,bytes:=24,agg:=false,zero:=[.nil],elem:=some 48 }),
 (353,{ size:=1,bytes:=24,agg:=false,zero:=[.nil],elem:=some 3 })]
def tyT (t:TypeId):Option TyD:=(tyL.find? fun p=>p.1 == t).map (·.2)
def lvs:TypeId → Option (List Lf)
 | 247=>some [.i .i64,.i .i64]
 | _=>none
def eqL (ls:Option (List Lf)) (xs ys:List AV):Option Bool:=match ls with | some ls=>if xs.map lfOf = ls.map some ∧ ys.map lfOf = ls.map some then some (uT xs ys) else none | none=>none
def eqT:TypeId → AV → AV → Option Bool
 | 4,.bool a,.bool b=>some (a == b)
 | t,.agg xs,.agg ys=>eqL (lvs t) xs ys
 | _,_,_=>none
noncomputable def ctx0:Ctx:={ P:=Go.Proofs.Tryz.prog,ty:=tyT,eqA:=fun _ _ _=>none }
noncomputable def ctx:Ctx:={ P:=Go.Proofs.Tryz.prog,ty:=tyT,eqA:=eqT }
theorem tys:∀ t d,tyT t = some d → tyOk Go.Proofs.Tryz.prog t d = true:=by
 have hall:(tyL.all fun p=>tyOk Go.Proofs.Tryz.prog p.1 p.2) = true:=by kernel_rfl
 intro t d h
 unfold tyT at h
 rw [Option.map_eq_some_iff] at h
 obtain ⟨p,h1,rfl⟩:=h
 have h2:=List.find?_some h1
 simp only [beq_iff_eq] at h2
 subst h2
 exact List.all_eq_true.1 hall p (List.mem_of_find?_eq_some h1)
theorem ok0:ctx0.Ok where
 mix:=by kernel_rfl
 tys:=tys
 eqs:=by intro t x y b h;cases h
@[simp] theorem ty1:ctx.ty 1 = some { size:=1,bytes:=8,agg:=false,zero:=[.dead] }:=by kernel_rfl
@[simp] theorem ty2:ctx.ty 2 = some { size:=1,bytes:=8,agg:=false,zero:=[.int .i64 0],ik:=some .i64 }:=by kernel_rfl
@[simp] theorem ty3:ctx.ty 3 = some { size:=1,bytes:=8,agg:=false,zero:=[.int .i64 0],ik:=some .i64 }:=by kernel_rfl
@[simp] theorem ty4:ctx.ty 4 = some { size:=1,bytes:=1,agg:=false,zero:=[.bool false] }:=by kernel_rfl
@[simp] theorem ty5:ctx.ty 5 = some { size:=1,bytes:=1,agg:=false,zero:=[.int .u8 0],ik:=some .u8 }:=by kernel_rfl
@[simp] theorem ty7:ctx.ty 7 = some { size:=4,bytes:=24,agg:=true,zero:=[.int .i64 0,.int .i64 0,.bool false,.int .u8 0],fields:=[(0,1,2),(1,1,3),(2,1,4),(3,1,6)] }:=by kernel_rfl
@[simp] theorem ty9:ctx.ty 9 = some { size:=1,bytes:=16,agg:=false,zero:=[.str ⟨#[]⟩],isStr:=true }:=by kernel_rfl
@[simp] theorem ty12:ctx.ty 12 = some { size:=1,bytes:=8,agg:=false,zero:=[.int .u64 0],ik:=some .u64 }:=by kernel_rfl
@[simp] theorem ty22:ctx.ty 22 = some { size:=1,bytes:=24,agg:=false,zero:=[.nil],elem:=some 146 }:=by kernel_rfl
@[simp] theorem ty23:ctx.ty 23 = some { size:=1,bytes:=24,agg:=false,zero:=[.nil],elem:=some 172 }:=by kernel_rfl
@[simp] theorem ty24:ctx.ty 24 = some { size:=1,bytes:=24,agg:=false,zero:=[.nil],elem:=some 176 }:=by kernel_rfl
@[simp] theorem ty25:ctx.ty 25 = some { size:=1,bytes:=24,agg:=false,zero:=[.nil],elem:=some 4 }:=by kernel_rfl
@[simp] theorem ty26:ctx.ty 26 = some { size:=1,bytes:=24,agg:=false,zero:=[.nil],elem:=some 2 }:=by kernel_rfl
@[simp] theorem ty28:ctx.ty 28 = some { size:=2,bytes:=48,agg:=true,zero:=[.nil,.nil],fields:=[(0,1,25),(1,1,26)] }:=by kernel_rfl
@[simp] theorem ty29:ctx.ty 29 = some { size:=1,bytes:=24,agg:=false,zero:=[.nil],elem:=some 264 }:=by kernel_rfl
@[simp] theorem ty30:ctx.ty 30 = some { size:=1,bytes:=24,agg:=false,zero:=[.nil],elem:=some 266 }:=by kernel_rfl
@[simp] theorem ty32:ctx.ty 32 = some { size:=3,bytes:=56,agg:=true,zero:=[.nil,.nil,.int .i64 0],fields:=[(0,1,29),(1,1,30),(2,1,2)] }:=by kernel_rfl
@[simp] theorem ty34:ctx.ty 34 = some { size:=2,bytes:=48,agg:=true,zero:=[.nil,.nil],fields:=[(0,1,26),(1,1,25)] }:=by kernel_rfl
@[simp] theorem ty35:ctx.ty 35 = some { size:=1,bytes:=24,agg:=false,zero:=[.nil],elem:=some 270 }:=by kernel_rfl
@[simp] theorem ty37:ctx.ty 37 = some { size:=3,bytes:=72,agg:=true,zero:=[.nil,.nil,.nil],fields:=[(0,2,34),(2,1,35)] }:=by kernel_rfl
@[simp] theorem ty38:ctx.ty 38 = some { size:=1,bytes:=24,agg:=false,zero:=[.nil],elem:=some 183 }:=by kernel_rfl
@[simp] theorem ty39:ctx.ty 39 = some { size:=1,bytes:=24,agg:=false,zero:=[.nil],elem:=some 153 }:=by kernel_rfl
@[simp] theorem ty40:ctx.ty 40 = some { size:=1,bytes:=24,agg:=false,zero:=[.nil],elem:=some 188 }:=by kernel_rfl
@[simp] theorem ty42:ctx.ty 42 = some { size:=17,bytes:=376,agg:=true,zero:=[.int .i64 0,.nil,.nil,.nil,.nil,.nil,.nil,.nil,.int .i64 0,.nil,.nil,.nil,.nil,.nil,.nil,.nil,.nil],fields:=[(0,1,2),(1,1,22),(2,1,23),(3,1,24),(4,2,28),(6,3,32),(9,3,37),(12,1,38),(13,1,39),(14,1,40),(15,1,26),(16,1,26)] }:=by kernel_rfl
@[simp] theorem ty44:ctx.ty 44 = some { size:=1,bytes:=24,agg:=false,zero:=[.nil],elem:=some 169 }:=by kernel_rfl
@[simp] theorem ty45:ctx.ty 45 = some { size:=1,bytes:=24,agg:=false,zero:=[.nil],elem:=some 124 }:=by kernel_rfl
@[simp] theorem ty46:ctx.ty 46 = some { size:=1,bytes:=24,agg:=false,zero:=[.nil],elem:=some 174 }:=by kernel_rfl
@[simp] theorem ty47:ctx.ty 47 = some { size:=2,bytes:=48,agg:=true,zero:=[.nil,.nil],fields:=[(0,1,25),(1,1,26)] }:=by kernel_rfl
@[simp] theorem ty48:ctx.ty 48 = some { size:=1,bytes:=24,agg:=false,zero:=[.nil],elem:=some 225 }:=by kernel_rfl
@[simp] theorem ty49:ctx.ty 49 = some { size:=1,bytes:=24,agg:=false,zero:=[.nil],elem:=some 133 }:=by kernel_rfl
@[simp] theorem ty51:ctx.ty 51 = some { size:=3,bytes:=56,agg:=true,zero:=[.nil,.nil,.int .i64 0],fields:=[(0,1,48),(1,1,49),(2,1,2)] }:=by kernel_rfl
@[simp] theorem ty52:ctx.ty 52 = some { size:=2,bytes:=48,agg:=true,zero:=[.nil,.nil],fields:=[(0,1,26),(1,1,25)] }:=by kernel_rfl
@[simp] theorem ty53:ctx.ty 53 = some { size:=1,bytes:=24,agg:=false,zero:=[.nil],elem:=some 249 }:=by kernel_rfl
@[simp] theorem ty55:ctx.ty 55 = some { size:=3,bytes:=72,agg:=true,zero:=[.nil,.nil,.nil],fields:=[(0,2,52),(2,1,53)] }:=by kernel_rfl
@[simp] theorem ty56:ctx.ty 56 = some { size:=1,bytes:=24,agg:=false,zero:=[.nil],elem:=some 139 }:=by kernel_rfl
@[simp] theorem ty57:ctx.ty 57 = some { size:=1,bytes:=24,agg:=false,zero:=[.nil],elem:=some 130 }:=by kernel_rfl
@[simp] theorem ty58:ctx.ty 58 = some { size:=1,bytes:=24,agg:=false,zero:=[.nil],elem:=some 186 }:=by kernel_rfl
@[simp] theorem ty60:ctx.ty 60 = some { size:=17,bytes:=376,agg:=true,zero:=[.int .i64 0,.nil,.nil,.nil,.nil,.nil,.nil,.nil,.int .i64 0,.nil,.nil,.nil,.nil,.nil,.nil,.nil,.nil],fields:=[(0,1,2),(1,1,44),(2,1,45),(3,1,46),(4,2,47),(6,3,51),(9,3,55),(12,1,56),(13,1,57),(14,1,58),(15,1,26),(16,1,26)] }:=by kernel_rfl
@[simp] theorem ty64:ctx.ty 64 = some { size:=1,bytes:=8,agg:=false,zero:=[.dead] }:=by kernel_rfl
@[simp] theorem ty97:ctx.ty 97 = some { size:=1,bytes:=8,agg:=false,zero:=[.dead] }:=by kernel_rfl
@[simp] theorem ty98:ctx.ty 98 = some { size:=1,bytes:=8,agg:=false,zero:=[.dead] }:=by kernel_rfl
@[simp] theorem ty99:ctx.ty 99 = some { size:=1,bytes:=8,agg:=false,zero:=[.dead] }:=by kernel_rfl
@[simp] theorem ty101:ctx.ty 101 = some { size:=1,bytes:=8,agg:=false,zero:=[.dead] }:=by kernel_rfl
@[simp] theorem ty102:ctx.ty 102 = some { size:=1,bytes:=8,agg:=false,zero:=[.dead] }:=by kernel_rfl
@[simp] theorem ty103:ctx.ty 103 = some { size:=1,bytes:=8,agg:=false,zero:=[.dead] }:=by kernel_rfl
@[simp] theorem ty105:ctx.ty 105 = some { size:=1,bytes:=8,agg:=false,zero:=[.dead] }:=by kernel_rfl
@[simp] theorem ty108:ctx.ty 108 = some { size:=1,bytes:=8,agg:=false,zero:=[.dead] }:=by kernel_rfl
@[simp] theorem ty110:ctx.ty 110 = some { size:=1,bytes:=8,agg:=false,zero:=[.dead] }:=by kernel_rfl
@[simp] theorem ty111:ctx.ty 111 = some { size:=1,bytes:=8,agg:=false,zero:=[.dead] }:=by kernel_rfl
@[simp] theorem ty114:ctx.ty 114 = some { size:=1,bytes:=8,agg:=false,zero:=[.dead] }:=by kernel_rfl
@[simp] theorem ty116:ctx.ty 116 = some { size:=1,bytes:=8,agg:=false,zero:=[.dead] }:=by kernel_rfl
@[simp] theorem ty117:ctx.ty 117 = some { size:=1,bytes:=8,agg:=false,zero:=[.dead] }:=by kernel_rfl
@[simp] theorem ty118:ctx.ty 118 = some { size:=1,bytes:=8,agg:=false,zero:=[.dead] }:=by kernel_rfl
@[simp] theorem ty124:ctx.ty 124 = some { size:=5,bytes:=40,agg:=true,zero:=[.int .i64 0,.int .i64 0,.int .i64 0,.int .i64 0,.int .i64 0],fields:=[(0,1,2),(1,1,2),(2,1,2),(3,1,2),(4,1,2)] }:=by kernel_rfl
@[simp] theorem ty130:ctx.ty 130 = some { size:=5,bytes:=56,agg:=true,zero:=[.int .i64 0,.int .i64 0,.int .i64 0,.nil,.int .i64 0],fields:=[(0,1,2),(1,1,2),(2,1,2),(3,1,26),(4,1,2)] }:=by kernel_rfl
@[simp] theorem ty133:ctx.ty 133 = some { size:=5,bytes:=40,agg:=true,zero:=[.int .i64 0,.int .i64 0,.int .i64 0,.int .i64 0,.bool false],fields:=[(0,1,2),(1,1,2),(2,1,2),(3,1,2),(4,1,4)] }:=by kernel_rfl
@[simp] theorem ty139:ctx.ty 139 = some { size:=9,bytes:=72,agg:=true,zero:=[.int .i64 0,.int .i64 0,.int .i64 0,.int .i64 0,.int .i64 0,.int .i64 0,.int .i64 0,.int .i64 0,.int .i64 0],fields:=[(0,1,2),(1,1,2),(2,1,2),(3,1,2),(4,1,2),(5,1,2),(6,1,2),(7,1,2),(8,1,2)] }:=by kernel_rfl
@[simp] theorem ty146:ctx.ty 146 = some { size:=1,bytes:=24,agg:=false,zero:=[.nil],elem:=some 262 }:=by kernel_rfl
@[simp] theorem ty153:ctx.ty 153 = some { size:=5,bytes:=56,agg:=true,zero:=[.int .i64 0,.int .i64 0,.int .i64 0,.nil,.int .i64 0],fields:=[(0,1,2),(1,1,2),(2,1,2),(3,1,26),(4,1,2)] }:=by kernel_rfl
@[simp] theorem ty169:ctx.ty 169 = some { size:=1,bytes:=24,agg:=false,zero:=[.nil],elem:=some 260 }:=by kernel_rfl
@[simp] theorem ty172:ctx.ty 172 = some { size:=5,bytes:=40,agg:=true,zero:=[.int .i64 0,.int .i64 0,.int .i64 0,.int .i64 0,.int .i64 0],fields:=[(0,1,2),(1,1,2),(2,1,2),(3,1,2),(4,1,2)] }:=by kernel_rfl
@[simp] theorem ty174:ctx.ty 174 = some { size:=4,bytes:=32,agg:=true,zero:=[.int .i64 0,.int .i64 0,.int .i64 0,.int .i64 0],fields:=[(0,1,2),(1,1,2),(2,1,2),(3,1,2)] }:=by kernel_rfl
@[simp] theorem ty176:ctx.ty 176 = some { size:=4,bytes:=32,agg:=true,zero:=[.int .i64 0,.int .i64 0,.int .i64 0,.int .i64 0],fields:=[(0,1,2),(1,1,2),(2,1,2),(3,1,2)] }:=by kernel_rfl
@[simp] theorem ty183:ctx.ty 183 = some { size:=9,bytes:=72,agg:=true,zero:=[.int .i64 0,.int .i64 0,.int .i64 0,.int .i64 0,.int .i64 0,.int .i64 0,.int .i64 0,.int .i64 0,.int .i64 0],fields:=[(0,1,2),(1,1,2),(2,1,2),(3,1,2),(4,1,2),(5,1,2),(6,1,2),(7,1,2),(8,1,2)] }:=by kernel_rfl
@[simp] theorem ty186:ctx.ty 186 = some { size:=4,bytes:=32,agg:=true,zero:=[.int .i64 0,.int .i64 0,.int .i64 0,.int .i64 0],fields:=[(0,1,2),(1,1,2),(2,1,2),(3,1,2)] }:=by kernel_rfl
@[simp] theorem ty188:ctx.ty 188 = some { size:=4,bytes:=32,agg:=true,zero:=[.int .i64 0,.int .i64 0,.int .i64 0,.int .i64 0],fields:=[(0,1,2),(1,1,2),(2,1,2),(3,1,2)] }:=by kernel_rfl
@[simp] theorem ty225:ctx.ty 225 = some { size:=3,bytes:=24,agg:=true,zero:=[.int .i64 0,.int .i64 0,.int .i64 0],fields:=[(0,1,2),(1,1,2),(2,1,2)] }:=by kernel_rfl
@[simp] theorem ty230:ctx.ty 230 = some { size:=1,bytes:=8,agg:=false,zero:=[.dead] }:=by kernel_rfl
@[simp] theorem ty240:ctx.ty 240 = some { size:=1,bytes:=8,agg:=false,zero:=[.dead] }:=by kernel_rfl
@[simp] theorem ty241:ctx.ty 241 = some { size:=1,bytes:=8,agg:=false,zero:=[.dead] }:=by kernel_rfl
@[simp] theorem ty243:ctx.ty 243 = some { size:=1,bytes:=8,agg:=false,zero:=[.dead] }:=by kernel_rfl
@[simp] theorem ty247:ctx.ty 247 = some { size:=2,bytes:=16,agg:=true,zero:=[.int .i64 0,.int .i64 0],fields:=[(0,1,2),(1,1,2)] }:=by kernel_rfl
@[simp] theorem ty249:ctx.ty 249 = some { size:=5,bytes:=40,agg:=true,zero:=[.int .i64 0,.int .i64 0,.int .i64 0,.int .i64 0,.bool false],fields:=[(0,2,247),(2,1,2),(3,1,2),(4,1,4)] }:=by kernel_rfl
@[simp] theorem ty252:ctx.ty 252 = some { size:=1,bytes:=8,agg:=false,zero:=[.dead] }:=by kernel_rfl
@[simp] theorem ty260:ctx.ty 260 = some { size:=3,bytes:=24,agg:=true,zero:=[.int .i64 0,.int .i64 0,.int .i64 0],fields:=[(0,1,2),(1,1,2),(2,1,2)] }:=by kernel_rfl
@[simp] theorem ty262:ctx.ty 262 = some { size:=3,bytes:=24,agg:=true,zero:=[.int .i64 0,.int .i64 0,.int .i64 0],fields:=[(0,1,2),(1,1,2),(2,1,2)] }:=by kernel_rfl
@[simp] theorem ty264:ctx.ty 264 = some { size:=3,bytes:=24,agg:=true,zero:=[.int .i64 0,.int .i64 0,.int .i64 0],fields:=[(0,1,2),(1,1,2),(2,1,2)] }:=by kernel_rfl
@[simp] theorem ty266:ctx.ty 266 = some { size:=5,bytes:=40,agg:=true,zero:=[.int .i64 0,.int .i64 0,.int .i64 0,.int .i64 0,.bool false],fields:=[(0,1,2),(1,1,2),(2,1,2),(3,1,2),(4,1,4)] }:=by kernel_rfl
@[simp] theorem ty268:ctx.ty 268 = some { size:=2,bytes:=16,agg:=true,zero:=[.int .i64 0,.int .i64 0],fields:=[(0,1,2),(1,1,2)] }:=by kernel_rfl
@[simp] theorem ty270:ctx.ty 270 = some { size:=5,bytes:=40,agg:=true,zero:=[.int .i64 0,.int .i64 0,.int .i64 0,.int .i64 0,.bool false],fields:=[(0,2,268),(2,1,2),(3,1,2),(4,1,4)] }:=by kernel_rfl
@[simp] theorem ty273:ctx.ty 273 = some { size:=1,bytes:=8,agg:=false,zero:=[.dead] }:=by kernel_rfl
@[simp] theorem ty277:ctx.ty 277 = some { size:=1,bytes:=8,agg:=false,zero:=[.dead] }:=by kernel_rfl
@[simp] theorem ty281:ctx.ty 281 = some { size:=1,bytes:=8,agg:=false,zero:=[.dead] }:=by kernel_rfl
@[simp] theorem ty314:ctx.ty 314 = some { size:=1,bytes:=8,agg:=false,zero:=[.dead] }:=by kernel_rfl
@[simp] theorem ty351:ctx.ty 351 = some { size:=1,bytes:=24,agg:=false,zero:=[.nil],elem:=some 48 }:=by kernel_rfl
@[simp] theorem ty353:ctx.ty 353 = some { size:=1,bytes:=24,agg:=false,zero:=[.nil],elem:=some 3 }:=by kernel_rfl
@[simp] theorem el22:vB ctx 22 = some { size:=1,bytes:=24,agg:=false,zero:=[.nil],elem:=some 262 }:=by kernel_rfl
@[simp] theorem el23:vB ctx 23 = some { size:=5,bytes:=40,agg:=true,zero:=[.int .i64 0,.int .i64 0,.int .i64 0,.int .i64 0,.int .i64 0],fields:=[(0,1,2),(1,1,2),(2,1,2),(3,1,2),(4,1,2)] }:=by kernel_rfl
@[simp] theorem el24:vB ctx 24 = some { size:=4,bytes:=32,agg:=true,zero:=[.int .i64 0,.int .i64 0,.int .i64 0,.int .i64 0],fields:=[(0,1,2),(1,1,2),(2,1,2),(3,1,2)] }:=by kernel_rfl
@[simp] theorem el25:vB ctx 25 = some { size:=1,bytes:=1,agg:=false,zero:=[.bool false] }:=by kernel_rfl
@[simp] theorem el26:vB ctx 26 = some { size:=1,bytes:=8,agg:=false,zero:=[.int .i64 0],ik:=some .i64 }:=by kernel_rfl
@[simp] theorem el29:vB ctx 29 = some { size:=3,bytes:=24,agg:=true,zero:=[.int .i64 0,.int .i64 0,.int .i64 0],fields:=[(0,1,2),(1,1,2),(2,1,2)] }:=by kernel_rfl
@[simp] theorem el30:vB ctx 30 = some { size:=5,bytes:=40,agg:=true,zero:=[.int .i64 0,.int .i64 0,.int .i64 0,.int .i64 0,.bool false],fields:=[(0,1,2),(1,1,2),(2,1,2),(3,1,2),(4,1,4)] }:=by kernel_rfl
@[simp] theorem el35:vB ctx 35 = some { size:=5,bytes:=40,agg:=true,zero:=[.int .i64 0,.int .i64 0,.int .i64 0,.int .i64 0,.bool false],fields:=[(0,2,268),(2,1,2),(3,1,2),(4,1,4)] }:=by kernel_rfl
@[simp] theorem el38:vB ctx 38 = some { size:=9,bytes:=72,agg:=true,zero:=[.int .i64 0,.int .i64 0,.int .i64 0,.int .i64 0,.int .i64 0,.int .i64 0,.int .i64 0,.int .i64 0,.int .i64 0],fields:=[(0,1,2),(1,1,2),(2,1,2),(3,1,2),(4,1,2),(5,1,2),(6,1,2),(7,1,2),(8,1,2)] }:=by kernel_rfl
@[simp] theorem el39:vB ctx 39 = some { size:=5,bytes:=56,agg:=true,zero:=[.int .i64 0,.int .i64 0,.int .i64 0,.nil,.int .i64 0],fields:=[(0,1,2),(1,1,2),(2,1,2),(3,1,26),(4,1,2)] }:=by kernel_rfl
@[simp] theorem el40:vB ctx 40 = some { size:=4,bytes:=32,agg:=true,zero:=[.int .i64 0,.int .i64 0,.int .i64 0,.int .i64 0],fields:=[(0,1,2),(1,1,2),(2,1,2),(3,1,2)] }:=by kernel_rfl
@[simp] theorem el44:vB ctx 44 = some { size:=1,bytes:=24,agg:=false,zero:=[.nil],elem:=some 260 }:=by kernel_rfl
@[simp] theorem el45:vB ctx 45 = some { size:=5,bytes:=40,agg:=true,zero:=[.int .i64 0,.int .i64 0,.int .i64 0,.int .i64 0,.int .i64 0],fields:=[(0,1,2),(1,1,2),(2,1,2),(3,1,2),(4,1,2)] }:=by kernel_rfl
@[simp] theorem el46:vB ctx 46 = some { size:=4,bytes:=32,agg:=true,zero:=[.int .i64 0,.int .i64 0,.int .i64 0,.int .i64 0],fields:=[(0,1,2),(1,1,2),(2,1,2),(3,1,2)] }:=by kernel_rfl
@[simp] theorem el48:vB ctx 48 = some { size:=3,bytes:=24,agg:=true,zero:=[.int .i64 0,.int .i64 0,.int .i64 0],fields:=[(0,1,2),(1,1,2),(2,1,2)] }:=by kernel_rfl
@[simp] theorem el49:vB ctx 49 = some { size:=5,bytes:=40,agg:=true,zero:=[.int .i64 0,.int .i64 0,.int .i64 0,.int .i64 0,.bool false],fields:=[(0,1,2),(1,1,2),(2,1,2),(3,1,2),(4,1,4)] }:=by kernel_rfl
@[simp] theorem el53:vB ctx 53 = some { size:=5,bytes:=40,agg:=true,zero:=[.int .i64 0,.int .i64 0,.int .i64 0,.int .i64 0,.bool false],fields:=[(0,2,247),(2,1,2),(3,1,2),(4,1,4)] }:=by kernel_rfl
@[simp] theorem el56:vB ctx 56 = some { size:=9,bytes:=72,agg:=true,zero:=[.int .i64 0,.int .i64 0,.int .i64 0,.int .i64 0,.int .i64 0,.int .i64 0,.int .i64 0,.int .i64 0,.int .i64 0],fields:=[(0,1,2),(1,1,2),(2,1,2),(3,1,2),(4,1,2),(5,1,2),(6,1,2),(7,1,2),(8,1,2)] }:=by kernel_rfl
@[simp] theorem el57:vB ctx 57 = some { size:=5,bytes:=56,agg:=true,zero:=[.int .i64 0,.int .i64 0,.int .i64 0,.nil,.int .i64 0],fields:=[(0,1,2),(1,1,2),(2,1,2),(3,1,26),(4,1,2)] }:=by kernel_rfl
@[simp] theorem el58:vB ctx 58 = some { size:=4,bytes:=32,agg:=true,zero:=[.int .i64 0,.int .i64 0,.int .i64 0,.int .i64 0],fields:=[(0,1,2),(1,1,2),(2,1,2),(3,1,2)] }:=by kernel_rfl
@[simp] theorem el146:vB ctx 146 = some { size:=3,bytes:=24,agg:=true,zero:=[.int .i64 0,.int .i64 0,.int .i64 0],fields:=[(0,1,2),(1,1,2),(2,1,2)] }:=by kernel_rfl
@[simp] theorem el169:vB ctx 169 = some { size:=3,bytes:=24,agg:=true,zero:=[.int .i64 0,.int .i64 0,.int .i64 0],fields:=[(0,1,2),(1,1,2),(2,1,2)] }:=by kernel_rfl
@[simp] theorem el351:vB ctx 351 = some { size:=1,bytes:=24,agg:=false,zero:=[.nil],elem:=some 225 }:=by kernel_rfl
@[simp] theorem el353:vB ctx 353 = some { size:=1,bytes:=8,agg:=false,zero:=[.int .i64 0],ik:=some .i64 }:=by kernel_rfl
@[simp] theorem eq4 (a b):ctx.eqA 4 (.bool a) (.bool b) = some (a == b):=rfl
@[simp] theorem eq247 (xs ys):ctx.eqA 247 (.agg xs) (.agg ys) = eqL (some [.i .i64,.i .i64]) xs ys:=rfl
@[simp] theorem eqL_some (ls xs ys):eqL (some ls) xs ys = if xs.map lfOf = ls.map some ∧ ys.map lfOf = ls.map some then some (uT xs ys) else none:=rfl
theorem okC:ctx.Ok where
 mix:=by kernel_rfl
 tys:=tys
 eqs:=by
  intro t x y b h
  change eqT t x y = some b at h
  unfold eqT at h
  split at h
  ·cases h;exact eq_bool (by kernel_rfl)
  ·rename_i xs ys _
   unfold lvs at h
   split at h
   ·rw [eqL_some] at h
    split at h
    ·rename_i hk
     cases h;exact eq_struct ok0 (by kernel_rfl) (by kernel_rfl) (by kernel_rfl) hk.1 hk.2
    ·cases h
   ·cases h
  ·cases h
end Go.AE.Tryz
end
section
/- Contracts of the smallest functions. -/
set_option maxRecDepth 8000
set_option maxHeartbeats 2000000
namespace Go.AE.Tryz
open Go.Proofs
open List renaming map_take → qt,map_drop → qd,map_tail → ql
theorem yF {n:Nat} (h:n ≤ LIM):IntKind.i64.wrap ((n:Int) - 1) = (n:Int) - 1:=by
 simp only [LIM] at h
 rw [zH (by omega)]
theorem zM {i n:Nat} (h:i < n) (hn:n ≤ LIM):IntKind.i64.wrap ((i:Int) + 1) = ((i + 1:Nat):Int):=by
 simp only [LIM] at hn
 rw [zH (by omega)];omega
theorem vA {x lo hi:Int}:PC ctx.P 222 [.int .i64 x,.int .i64 lo,.int .i64 hi] (.bool (inR x lo hi)):=by
 refine PC.o okC Tryz.func222 rfl (.bool _) fun h nx hnx => ?_
 try simp [-qt,-qd,-ql,rgs,inR]
 repeat' first | done | ((first | (with_reducible refine zE ?_ ?_)) <;> intro qb <;> (have qp:=qb;try simp only [psq] at qp) <;> simp [-qt,-qd,-ql,rgs,inR,qb])
end Go.AE.Tryz
end
section
/- Contracts of the laws' helpers: copies, comparisons, sizes. -/
set_option maxRecDepth 8000
set_option maxHeartbeats 2000000
namespace Go.AE.Tryz
open Go.Proofs
open List renaming map_take → qt,map_drop → qd,map_tail → ql
theorem c_toHandle {x:Han}:PC ctx.P 283 [.agg (zG8 x)] (.agg (zG8 x)):=by
 refine PC.o okC Tryz.func283 rfl (.agg _ (hanC_fz x)) fun h nx hnx => ?_
 try simp [-qt,-qd,-ql,rgs,zG8]
theorem c_eqHandle {x y:Han}:PC ctx.P 331 [.agg (zG8 x),.agg (zG8 y)] (.bool (x == y)):=by
 rw [han_beq]
 refine PC.o okC Tryz.func331 rfl (.bool _) fun h nx hnx => ?_
 try simp [-qt,-qd,-ql,rgs,zG8]
 repeat' first | done | ((first | (with_reducible refine zA ?_ ?_)) <;> intro qb <;> (have qp:=qb;try simp only [psq] at qp) <;> simp [-qt,-qd,-ql,rgs,zG8,qb])
 all_goals (try clear hnx)
 all_goals first | (simp_all [];done) | (simp_all [];omega) | (rw [Bool.eq_iff_iff];simp_all [];done) | (rw [Bool.eq_iff_iff];simp_all [];omega) | omega | (simp only [];grind) | grind
theorem c_toIns {x:Inn}:PC ctx.P 212 [.agg (uC x)] (.agg (uC x)):=by
 refine PC.o okC Tryz.func212 rfl (.agg _ (innC_fz x)) fun h nx hnx => ?_
 try simp [-qt,-qd,-ql,rgs,uC]
theorem c_eqIns {x y:Inn}:PC ctx.P 254 [.agg (uC x),.agg (uC y)] (.bool (x == y)):=by
 rw [inn_beq]
 refine PC.o okC Tryz.func254 rfl (.bool _) fun h nx hnx => ?_
 try simp [-qt,-qd,-ql,rgs,uC]
 repeat' first | done | ((first | (with_reducible refine zA ?_ ?_)) <;> intro qb <;> (have qp:=qb;try simp only [psq] at qp) <;> simp [-qt,-qd,-ql,rgs,uC,qb])
 all_goals (try clear hnx)
 all_goals first | (simp_all [];done) | (simp_all [];omega) | (rw [Bool.eq_iff_iff];simp_all [];done) | (rw [Bool.eq_iff_iff];simp_all [];omega) | omega | (simp only [];grind) | grind
theorem c_eqInsS {p q:Bool} {xs ys:List Inn}:PC ctx.P 142 [.view p 3 (xs.map uC),.view q 3 (ys.map uC)] (.bool (xs == ys)):=by
 refine PC.lim (n:=xs.length) (x:=.view p 3 (xs.map uC)) (by simp) (.here (by simp)) ⟨_,Tryz.func142,by kernel_rfl,by kernel_rfl⟩ fun hlim => ?_
 by_cases hl:xs.length = ys.length
 ·refine PC.o okC Tryz.func142 rfl (.bool _) fun h nx hnx => ?_
  try simp [-qt,-qd,-ql,rgs,hl]
  repeat' first | done | ((first | ((with_reducible show zU _ _ _ _ _ _);refine zB rfl fun _ => ?_) | ((with_reducible show zJ _ _ _ _ _ _ _);refine zC rfl omA omA ?_) | (with_reducible refine zF (i:=6) [(0,[],[]),(1,[],[]),(2,[],[]),(3,[],[]),(4,[],[]),(5,[],[]),(6,[],[]),(7,[],[]),(8,[],[]),(9,[],[])] (by kernel_rfl) ?_)) <;> simp [-qt,-qd,-ql,rgs,hl]) | ((first | (with_reducible refine zA ?_ ?_)) <;> intro qb <;> (have qp:=qb;try simp only [psq] at qp) <;> simp [-qt,-qd,-ql,rgs,hl,qb])
  refine zW [4,5,11,12,13,14,15,16,17,18,19,20,21,22,23,24,25,26] (ys.length) (fun (i:Nat) a=>[(5,.int .i64 i)]) (fun i_ a_ h_ _=>(fun i (_:Unit) _=>(xs.drop i == ys.drop i) = (xs == ys)) i_ a_ h_) (()) (by simp) ?_ zT (Nat.le_refl _) ?_
  ·simp
  ·intro i a tm h' n' hle hJ hE hn' next hnx
   try dsimp only at hJ
   have hK:KeepB nx h' h:=KeepB.sub hE zK (by omega)
   simp [-qt,-qd,-ql]
   try simp [-qt,-qd,-ql,rgs,hl,uC]
   repeat' first | done | ((first | ((with_reducible show zU _ _ _ _ _ _);refine zB rfl fun _ => ?_) | ((with_reducible show zJ _ _ _ _ _ _ _);refine zC rfl omA omA ?_) | ((with_reducible show zG _ _ _ 254 _ _);refine zD (c_eqIns) ?_) | (with_reducible refine zF (i:=6) [(0,[],[]),(1,[],[]),(2,[],[]),(3,[],[]),(4,[],[]),(5,[],[]),(6,[],[]),(7,[],[]),(8,[],[]),(9,[],[])] (by kernel_rfl) ?_)) <;> simp [-qt,-qd,-ql,rgs,hl,uC]) | ((first | (with_reducible refine zA ?_ ?_)) <;> intro qb <;> (have qp:=qb;try simp only [psq] at qp) <;> simp [-qt,-qd,-ql,rgs,hl,uC,qb])
   all_goals first
   | (have hlt:i < xs.length:=(by first | omega | (simp at *; omega))
      rw [zV hlt,zV (xs:=ys) (i:=i) (by omega),List.cons_beq_cons] at hJ
      first
      | (refine hnx.go () ?_ ?_ ?_ ?_ ?_ ?_;omega;(simp [zM hlt hlim]);(simp);exact zK;(first | omega | (simp;omega));(try dsimp only);clear hnx;first | (simp_all;done) | grind)
      | (refine ⟨?_,zK⟩;clear hnx;first | (simp_all;done) | grind)
      | (clear hnx;first | (simp_all;done) | grind))
   | (obtain rfl:i = xs.length:=(by first | omega | (simp at *; omega))
      rw [List.drop_eq_nil_of_le (Nat.le_refl _),List.drop_eq_nil_of_le (by omega)] at hJ
      refine ⟨?_,zK⟩;clear hnx;first | (simp_all;done) | grind)
 ·refine PC.o okC Tryz.func142 rfl (.bool _) fun h nx hnx => ?_
  try simp [-qt,-qd,-ql,rgs]
  repeat' first | done | ((first | ((with_reducible show zU _ _ _ _ _ _);refine zB rfl fun _ => ?_) | ((with_reducible show zJ _ _ _ _ _ _ _);refine zC rfl omA omA ?_) | (with_reducible refine zF (i:=6) [(0,[],[]),(1,[],[]),(2,[],[]),(3,[],[]),(4,[],[]),(5,[],[]),(6,[],[]),(7,[],[]),(8,[],[]),(9,[],[])] (by kernel_rfl) ?_)) <;> simp [-qt,-qd,-ql,rgs]) | ((first | (with_reducible refine zA ?_ ?_)) <;> intro qb <;> (have qp:=qb;try simp only [psq] at qp) <;> simp [-qt,-qd,-ql,rgs,qb])
  all_goals first | (exfalso;omega) | (symm;rw [beq_eq_false_iff_ne];intro e;exact hl (by rw [e])) | (intro e;exact hl (by rw [e])) | skip
theorem c_szInsS {p:Bool} {xs:List Inn} {k:Int} (h0:0 ≤ k) (h1:k ≤ 1048576):PC ctx.P 97 [.view p 3 (xs.map uC),.int .i64 k] (.int .i64 (szR xs.length k)):=by
 refine PC.lim (n:=xs.length) (x:=.view p 3 (xs.map uC)) (by simp) (.here (by simp)) ⟨_,Tryz.func97,by kernel_rfl,by kernel_rfl⟩ fun hlim => ?_
 simp only [LIM] at hlim
 refine PC.o okC Tryz.func97 rfl (.int _ _) fun h nx hnx => ?_
 try simp [-qt,-qd,-ql,rgs,zH (x:=k - (xs.length:Int)) (by omega)]
 repeat' first | done | ((first | ((with_reducible show zU _ _ _ _ _ _);refine zB rfl fun _ => ?_)) <;> simp [-qt,-qd,-ql,rgs,zH (x:=k - (xs.length:Int)) (by omega)]) | ((first | (with_reducible refine zA ?_ ?_)) <;> intro qb <;> (have qp:=qb;try simp only [psq] at qp) <;> simp [-qt,-qd,-ql,rgs,zH (x:=k - (xs.length:Int)) (by omega),qb])
 all_goals (clear hnx;simp only [szR];split <;> first | omega | (simp;omega))
theorem c_toNode {x:Nod}:PC ctx.P 127 [.agg (yC x)] (.agg (yC x)):=by
 refine PC.o okC Tryz.func127 rfl (.agg _ (zI7 x)) fun h nx hnx => ?_
 try simp [-qt,-qd,-ql,rgs,yC]
theorem c_eqNode {x y:Nod}:PC ctx.P 143 [.agg (yC x),.agg (yC y)] (.bool (x == y)):=by
 rw [nod_beq]
 refine PC.o okC Tryz.func143 rfl (.bool _) fun h nx hnx => ?_
 try simp [-qt,-qd,-ql,rgs,yC]
 repeat' first | done | ((first | (with_reducible refine zA ?_ ?_)) <;> intro qb <;> (have qp:=qb;try simp only [psq] at qp) <;> simp [-qt,-qd,-ql,rgs,yC,qb])
 all_goals (try clear hnx)
 all_goals first | (simp_all [];done) | (simp_all [];omega) | (rw [Bool.eq_iff_iff];simp_all [];done) | (rw [Bool.eq_iff_iff];simp_all [];omega) | omega | (simp only [];grind) | grind
theorem c_eqNodeS {p q:Bool} {xs ys:List Nod}:PC ctx.P 54 [.view p 5 (xs.map yC),.view q 5 (ys.map yC)] (.bool (xs == ys)):=by
 refine PC.lim (n:=xs.length) (x:=.view p 5 (xs.map yC)) (by simp) (.here (by simp)) ⟨_,Tryz.func54,by kernel_rfl,by kernel_rfl⟩ fun hlim => ?_
 by_cases hl:xs.length = ys.length
 ·refine PC.o okC Tryz.func54 rfl (.bool _) fun h nx hnx => ?_
  try simp [-qt,-qd,-ql,rgs,hl]
  repeat' first | done | ((first | ((with_reducible show zU _ _ _ _ _ _);refine zB rfl fun _ => ?_) | ((with_reducible show zJ _ _ _ _ _ _ _);refine zC rfl omA omA ?_) | (with_reducible refine zF (i:=6) [(0,[],[]),(1,[],[]),(2,[],[]),(3,[],[]),(4,[],[]),(5,[],[]),(6,[],[]),(7,[],[]),(8,[],[]),(9,[],[])] (by kernel_rfl) ?_)) <;> simp [-qt,-qd,-ql,rgs,hl]) | ((first | (with_reducible refine zA ?_ ?_)) <;> intro qb <;> (have qp:=qb;try simp only [psq] at qp) <;> simp [-qt,-qd,-ql,rgs,hl,qb])
  refine zW [4,5,11,12,13,14,15,16,17,18,19,20,21,22,23,24,25,26] (ys.length) (fun (i:Nat) a=>[(5,.int .i64 i)]) (fun i_ a_ h_ _=>(fun i (_:Unit) _=>(xs.drop i == ys.drop i) = (xs == ys)) i_ a_ h_) (()) (by simp) ?_ zT (Nat.le_refl _) ?_
  ·simp
  ·intro i a tm h' n' hle hJ hE hn' next hnx
   try dsimp only at hJ
   have hK:KeepB nx h' h:=KeepB.sub hE zK (by omega)
   simp [-qt,-qd,-ql]
   try simp [-qt,-qd,-ql,rgs,hl,yC]
   repeat' first | done | ((first | ((with_reducible show zU _ _ _ _ _ _);refine zB rfl fun _ => ?_) | ((with_reducible show zJ _ _ _ _ _ _ _);refine zC rfl omA omA ?_) | ((with_reducible show zG _ _ _ 143 _ _);refine zD (c_eqNode) ?_) | (with_reducible refine zF (i:=6) [(0,[],[]),(1,[],[]),(2,[],[]),(3,[],[]),(4,[],[]),(5,[],[]),(6,[],[]),(7,[],[]),(8,[],[]),(9,[],[])] (by kernel_rfl) ?_)) <;> simp [-qt,-qd,-ql,rgs,hl,yC]) | ((first | (with_reducible refine zA ?_ ?_)) <;> intro qb <;> (have qp:=qb;try simp only [psq] at qp) <;> simp [-qt,-qd,-ql,rgs,hl,yC,qb])
   all_goals first
   | (have hlt:i < xs.length:=(by first | omega | (simp at *; omega))
      rw [zV hlt,zV (xs:=ys) (i:=i) (by omega),List.cons_beq_cons] at hJ
      first
      | (refine hnx.go () ?_ ?_ ?_ ?_ ?_ ?_;omega;(simp [zM hlt hlim]);(simp);exact zK;(first | omega | (simp;omega));(try dsimp only);clear hnx;first | (simp_all;done) | grind)
      | (refine ⟨?_,zK⟩;clear hnx;first | (simp_all;done) | grind)
      | (clear hnx;first | (simp_all;done) | grind))
   | (obtain rfl:i = xs.length:=(by first | omega | (simp at *; omega))
      rw [List.drop_eq_nil_of_le (Nat.le_refl _),List.drop_eq_nil_of_le (by omega)] at hJ
      refine ⟨?_,zK⟩;clear hnx;first | (simp_all;done) | grind)
 ·refine PC.o okC Tryz.func54 rfl (.bool _) fun h nx hnx => ?_
  try simp [-qt,-qd,-ql,rgs]
  repeat' first | done | ((first | ((with_reducible show zU _ _ _ _ _ _);refine zB rfl fun _ => ?_) | ((with_reducible show zJ _ _ _ _ _ _ _);refine zC rfl omA omA ?_) | (with_reducible refine zF (i:=6) [(0,[],[]),(1,[],[]),(2,[],[]),(3,[],[]),(4,[],[]),(5,[],[]),(6,[],[]),(7,[],[]),(8,[],[]),(9,[],[])] (by kernel_rfl) ?_)) <;> simp [-qt,-qd,-ql,rgs]) | ((first | (with_reducible refine zA ?_ ?_)) <;> intro qb <;> (have qp:=qb;try simp only [psq] at qp) <;> simp [-qt,-qd,-ql,rgs,qb])
  all_goals first | (exfalso;omega) | (symm;rw [beq_eq_false_iff_ne];intro e;exact hl (by rw [e])) | (intro e;exact hl (by rw [e])) | skip
theorem c_szNodeS {p:Bool} {xs:List Nod} {k:Int} (h0:0 ≤ k) (h1:k ≤ 1048576):PC ctx.P 24 [.view p 5 (xs.map yC),.int .i64 k] (.int .i64 (szR xs.length k)):=by
 refine PC.lim (n:=xs.length) (x:=.view p 5 (xs.map yC)) (by simp) (.here (by simp)) ⟨_,Tryz.func24,by kernel_rfl,by kernel_rfl⟩ fun hlim => ?_
 simp only [LIM] at hlim
 refine PC.o okC Tryz.func24 rfl (.int _ _) fun h nx hnx => ?_
 try simp [-qt,-qd,-ql,rgs,zH (x:=k - (xs.length:Int)) (by omega)]
 repeat' first | done | ((first | ((with_reducible show zU _ _ _ _ _ _);refine zB rfl fun _ => ?_)) <;> simp [-qt,-qd,-ql,rgs,zH (x:=k - (xs.length:Int)) (by omega)]) | ((first | (with_reducible refine zA ?_ ?_)) <;> intro qb <;> (have qp:=qb;try simp only [psq] at qp) <;> simp [-qt,-qd,-ql,rgs,zH (x:=k - (xs.length:Int)) (by omega),qb])
 all_goals (clear hnx;simp only [szR];split <;> first | omega | (simp;omega))
theorem c_toEvent {x:Evt}:PC ctx.P 128 [.agg (yS x)] (.agg (yS x)):=by
 refine PC.o okC Tryz.func128 rfl (.agg _ (zO7 x)) fun h nx hnx => ?_
 try simp [-qt,-qd,-ql,rgs,yS]
theorem c_eqEvent {x y:Evt}:PC ctx.P 144 [.agg (yS x),.agg (yS y)] (.bool (x == y)):=by
 rw [evt_beq]
 refine PC.o okC Tryz.func144 rfl (.bool _) fun h nx hnx => ?_
 try simp [-qt,-qd,-ql,rgs,yS]
 repeat' first | done | ((first | (with_reducible refine zA ?_ ?_)) <;> intro qb <;> (have qp:=qb;try simp only [psq] at qp) <;> simp [-qt,-qd,-ql,rgs,yS,qb])
 all_goals (try clear hnx)
 all_goals first | (simp_all [];done) | (simp_all [];omega) | (rw [Bool.eq_iff_iff];simp_all [];done) | (rw [Bool.eq_iff_iff];simp_all [];omega) | omega | (simp only [];grind) | grind
theorem c_eqEventS {p q:Bool} {xs ys:List Evt}:PC ctx.P 55 [.view p 4 (xs.map yS),.view q 4 (ys.map yS)] (.bool (xs == ys)):=by
 refine PC.lim (n:=xs.length) (x:=.view p 4 (xs.map yS)) (by simp) (.here (by simp)) ⟨_,Tryz.func55,by kernel_rfl,by kernel_rfl⟩ fun hlim => ?_
 by_cases hl:xs.length = ys.length
 ·refine PC.o okC Tryz.func55 rfl (.bool _) fun h nx hnx => ?_
  try simp [-qt,-qd,-ql,rgs,hl]
  repeat' first | done | ((first | ((with_reducible show zU _ _ _ _ _ _);refine zB rfl fun _ => ?_) | ((with_reducible show zJ _ _ _ _ _ _ _);refine zC rfl omA omA ?_) | (with_reducible refine zF (i:=6) [(0,[],[]),(1,[],[]),(2,[],[]),(3,[],[]),(4,[],[]),(5,[],[]),(6,[],[]),(7,[],[]),(8,[],[]),(9,[],[])] (by kernel_rfl) ?_)) <;> simp [-qt,-qd,-ql,rgs,hl]) | ((first | (with_reducible refine zA ?_ ?_)) <;> intro qb <;> (have qp:=qb;try simp only [psq] at qp) <;> simp [-qt,-qd,-ql,rgs,hl,qb])
  refine zW [4,5,11,12,13,14,15,16,17,18,19,20,21,22,23,24,25,26] (ys.length) (fun (i:Nat) a=>[(5,.int .i64 i)]) (fun i_ a_ h_ _=>(fun i (_:Unit) _=>(xs.drop i == ys.drop i) = (xs == ys)) i_ a_ h_) (()) (by simp) ?_ zT (Nat.le_refl _) ?_
  ·simp
  ·intro i a tm h' n' hle hJ hE hn' next hnx
   try dsimp only at hJ
   have hK:KeepB nx h' h:=KeepB.sub hE zK (by omega)
   simp [-qt,-qd,-ql]
   try simp [-qt,-qd,-ql,rgs,hl,yS]
   repeat' first | done | ((first | ((with_reducible show zU _ _ _ _ _ _);refine zB rfl fun _ => ?_) | ((with_reducible show zJ _ _ _ _ _ _ _);refine zC rfl omA omA ?_) | ((with_reducible show zG _ _ _ 144 _ _);refine zD (c_eqEvent) ?_) | (with_reducible refine zF (i:=6) [(0,[],[]),(1,[],[]),(2,[],[]),(3,[],[]),(4,[],[]),(5,[],[]),(6,[],[]),(7,[],[]),(8,[],[]),(9,[],[])] (by kernel_rfl) ?_)) <;> simp [-qt,-qd,-ql,rgs,hl,yS]) | ((first | (with_reducible refine zA ?_ ?_)) <;> intro qb <;> (have qp:=qb;try simp only [psq] at qp) <;> simp [-qt,-qd,-ql,rgs,hl,yS,qb])
   all_goals first
   | (have hlt:i < xs.length:=(by first | omega | (simp at *; omega))
      rw [zV hlt,zV (xs:=ys) (i:=i) (by omega),List.cons_beq_cons] at hJ
      first
      | (refine hnx.go () ?_ ?_ ?_ ?_ ?_ ?_;omega;(simp [zM hlt hlim]);(simp);exact zK;(first | omega | (simp;omega));(try dsimp only);clear hnx;first | (simp_all;done) | grind)
      | (refine ⟨?_,zK⟩;clear hnx;first | (simp_all;done) | grind)
      | (clear hnx;first | (simp_all;done) | grind))
   | (obtain rfl:i = xs.length:=(by first | omega | (simp at *; omega))
      rw [List.drop_eq_nil_of_le (Nat.le_refl _),List.drop_eq_nil_of_le (by omega)] at hJ
      refine ⟨?_,zK⟩;clear hnx;first | (simp_all;done) | grind)
 ·refine PC.o okC Tryz.func55 rfl (.bool _) fun h nx hnx => ?_
  try simp [-qt,-qd,-ql,rgs]
  repeat' first | done | ((first | ((with_reducible show zU _ _ _ _ _ _);refine zB rfl fun _ => ?_) | ((with_reducible show zJ _ _ _ _ _ _ _);refine zC rfl omA omA ?_) | (with_reducible refine zF (i:=6) [(0,[],[]),(1,[],[]),(2,[],[]),(3,[],[]),(4,[],[]),(5,[],[]),(6,[],[]),(7,[],[]),(8,[],[]),(9,[],[])] (by kernel_rfl) ?_)) <;> simp [-qt,-qd,-ql,rgs]) | ((first | (with_reducible refine zA ?_ ?_)) <;> intro qb <;> (have qp:=qb;try simp only [psq] at qp) <;> simp [-qt,-qd,-ql,rgs,qb])
  all_goals first | (exfalso;omega) | (symm;rw [beq_eq_false_iff_ne];intro e;exact hl (by rw [e])) | (intro e;exact hl (by rw [e])) | skip
theorem c_szEventS {p:Bool} {xs:List Evt} {k:Int} (h0:0 ≤ k) (h1:k ≤ 1048576):PC ctx.P 25 [.view p 4 (xs.map yS),.int .i64 k] (.int .i64 (szR xs.length k)):=by
 refine PC.lim (n:=xs.length) (x:=.view p 4 (xs.map yS)) (by simp) (.here (by simp)) ⟨_,Tryz.func25,by kernel_rfl,by kernel_rfl⟩ fun hlim => ?_
 simp only [LIM] at hlim
 refine PC.o okC Tryz.func25 rfl (.int _ _) fun h nx hnx => ?_
 try simp [-qt,-qd,-ql,rgs,zH (x:=k - (xs.length:Int)) (by omega)]
 repeat' first | done | ((first | ((with_reducible show zU _ _ _ _ _ _);refine zB rfl fun _ => ?_)) <;> simp [-qt,-qd,-ql,rgs,zH (x:=k - (xs.length:Int)) (by omega)]) | ((first | (with_reducible refine zA ?_ ?_)) <;> intro qb <;> (have qp:=qb;try simp only [psq] at qp) <;> simp [-qt,-qd,-ql,rgs,zH (x:=k - (xs.length:Int)) (by omega),qb])
 all_goals (clear hnx;simp only [szR];split <;> first | omega | (simp;omega))
theorem c_toTwig {x:Twg}:PC ctx.P 213 [.agg (yQ x)] (.agg (yQ x)):=by
 refine PC.o okC Tryz.func213 rfl (.agg _ (vK x)) fun h nx hnx => ?_
 try simp [-qt,-qd,-ql,rgs,yQ]
theorem c_eqTwig {x y:Twg}:PC ctx.P 255 [.agg (yQ x),.agg (yQ y)] (.bool (x == y)):=by
 rw [twg_beq]
 refine PC.o okC Tryz.func255 rfl (.bool _) fun h nx hnx => ?_
 try simp [-qt,-qd,-ql,rgs,yQ]
 repeat' first | done | ((first | (with_reducible refine zA ?_ ?_)) <;> intro qb <;> (have qp:=qb;try simp only [psq] at qp) <;> simp [-qt,-qd,-ql,rgs,yQ,qb])
 all_goals (try clear hnx)
 all_goals first | (simp_all [];done) | (simp_all [];omega) | (rw [Bool.eq_iff_iff];simp_all [];done) | (rw [Bool.eq_iff_iff];simp_all [];omega) | omega | (simp only [];grind) | grind
theorem c_eqTwigS {p q:Bool} {xs ys:List Twg}:PC ctx.P 146 [.view p 3 (xs.map yQ),.view q 3 (ys.map yQ)] (.bool (xs == ys)):=by
 refine PC.lim (n:=xs.length) (x:=.view p 3 (xs.map yQ)) (by simp) (.here (by simp)) ⟨_,Tryz.func146,by kernel_rfl,by kernel_rfl⟩ fun hlim => ?_
 by_cases hl:xs.length = ys.length
 ·refine PC.o okC Tryz.func146 rfl (.bool _) fun h nx hnx => ?_
  try simp [-qt,-qd,-ql,rgs,hl]
  repeat' first | done | ((first | ((with_reducible show zU _ _ _ _ _ _);refine zB rfl fun _ => ?_) | ((with_reducible show zJ _ _ _ _ _ _ _);refine zC rfl omA omA ?_) | (with_reducible refine zF (i:=6) [(0,[],[]),(1,[],[]),(2,[],[]),(3,[],[]),(4,[],[]),(5,[],[]),(6,[],[]),(7,[],[]),(8,[],[]),(9,[],[])] (by kernel_rfl) ?_)) <;> simp [-qt,-qd,-ql,rgs,hl]) | ((first | (with_reducible refine zA ?_ ?_)) <;> intro qb <;> (have qp:=qb;try simp only [psq] at qp) <;> simp [-qt,-qd,-ql,rgs,hl,qb])
  refine zW [4,5,11,12,13,14,15,16,17,18,19,20,21,22,23,24,25,26] (ys.length) (fun (i:Nat) a=>[(5,.int .i64 i)]) (fun i_ a_ h_ _=>(fun i (_:Unit) _=>(xs.drop i == ys.drop i) = (xs == ys)) i_ a_ h_) (()) (by simp) ?_ zT (Nat.le_refl _) ?_
  ·simp
  ·intro i a tm h' n' hle hJ hE hn' next hnx
   try dsimp only at hJ
   have hK:KeepB nx h' h:=KeepB.sub hE zK (by omega)
   simp [-qt,-qd,-ql]
   try simp [-qt,-qd,-ql,rgs,hl,yQ]
   repeat' first | done | ((first | ((with_reducible show zU _ _ _ _ _ _);refine zB rfl fun _ => ?_) | ((with_reducible show zJ _ _ _ _ _ _ _);refine zC rfl omA omA ?_) | ((with_reducible show zG _ _ _ 255 _ _);refine zD (c_eqTwig) ?_) | (with_reducible refine zF (i:=6) [(0,[],[]),(1,[],[]),(2,[],[]),(3,[],[]),(4,[],[]),(5,[],[]),(6,[],[]),(7,[],[]),(8,[],[]),(9,[],[])] (by kernel_rfl) ?_)) <;> simp [-qt,-qd,-ql,rgs,hl,yQ]) | ((first | (with_reducible refine zA ?_ ?_)) <;> intro qb <;> (have qp:=qb;try simp only [psq] at qp) <;> simp [-qt,-qd,-ql,rgs,hl,yQ,qb])
   all_goals first
   | (have hlt:i < xs.length:=(by first | omega | (simp at *; omega))
      rw [zV hlt,zV (xs:=ys) (i:=i) (by omega),List.cons_beq_cons] at hJ
      first
      | (refine hnx.go () ?_ ?_ ?_ ?_ ?_ ?_;omega;(simp [zM hlt hlim]);(simp);exact zK;(first | omega | (simp;omega));(try dsimp only);clear hnx;first | (simp_all;done) | grind)
      | (refine ⟨?_,zK⟩;clear hnx;first | (simp_all;done) | grind)
      | (clear hnx;first | (simp_all;done) | grind))
   | (obtain rfl:i = xs.length:=(by first | omega | (simp at *; omega))
      rw [List.drop_eq_nil_of_le (Nat.le_refl _),List.drop_eq_nil_of_le (by omega)] at hJ
      refine ⟨?_,zK⟩;clear hnx;first | (simp_all;done) | grind)
 ·refine PC.o okC Tryz.func146 rfl (.bool _) fun h nx hnx => ?_
  try simp [-qt,-qd,-ql,rgs]
  repeat' first | done | ((first | ((with_reducible show zU _ _ _ _ _ _);refine zB rfl fun _ => ?_) | ((with_reducible show zJ _ _ _ _ _ _ _);refine zC rfl omA omA ?_) | (with_reducible refine zF (i:=6) [(0,[],[]),(1,[],[]),(2,[],[]),(3,[],[]),(4,[],[]),(5,[],[]),(6,[],[]),(7,[],[]),(8,[],[]),(9,[],[])] (by kernel_rfl) ?_)) <;> simp [-qt,-qd,-ql,rgs]) | ((first | (with_reducible refine zA ?_ ?_)) <;> intro qb <;> (have qp:=qb;try simp only [psq] at qp) <;> simp [-qt,-qd,-ql,rgs,qb])
  all_goals first | (exfalso;omega) | (symm;rw [beq_eq_false_iff_ne];intro e;exact hl (by rw [e])) | (intro e;exact hl (by rw [e])) | skip
theorem c_szTwigS {p:Bool} {xs:List Twg} {k:Int} (h0:0 ≤ k) (h1:k ≤ 1048576):PC ctx.P 99 [.view p 3 (xs.map yQ),.int .i64 k] (.int .i64 (szR xs.length k)):=by
 refine PC.lim (n:=xs.length) (x:=.view p 3 (xs.map yQ)) (by simp) (.here (by simp)) ⟨_,Tryz.func99,by kernel_rfl,by kernel_rfl⟩ fun hlim => ?_
 simp only [LIM] at hlim
 refine PC.o okC Tryz.func99 rfl (.int _ _) fun h nx hnx => ?_
 try simp [-qt,-qd,-ql,rgs,zH (x:=k - (xs.length:Int)) (by omega)]
 repeat' first | done | ((first | ((with_reducible show zU _ _ _ _ _ _);refine zB rfl fun _ => ?_)) <;> simp [-qt,-qd,-ql,rgs,zH (x:=k - (xs.length:Int)) (by omega)]) | ((first | (with_reducible refine zA ?_ ?_)) <;> intro qb <;> (have qp:=qb;try simp only [psq] at qp) <;> simp [-qt,-qd,-ql,rgs,zH (x:=k - (xs.length:Int)) (by omega),qb])
 all_goals (clear hnx;simp only [szR];split <;> first | omega | (simp;omega))
theorem c_toTimer {x:Tmr}:PC ctx.P 214 [.agg (vJ x)] (.agg (vJ x)):=by
 refine PC.o okC Tryz.func214 rfl (.agg _ (zC7 x)) fun h nx hnx => ?_
 try simp [-qt,-qd,-ql,rgs,vJ]
theorem c_eqTimer {x y:Tmr}:PC ctx.P 256 [.agg (vJ x),.agg (vJ y)] (.bool (x == y)):=by
 rw [tmr_beq]
 refine PC.o okC Tryz.func256 rfl (.bool _) fun h nx hnx => ?_
 try simp [-qt,-qd,-ql,rgs,vJ]
 repeat' first | done | ((first | (with_reducible refine zA ?_ ?_)) <;> intro qb <;> (have qp:=qb;try simp only [psq] at qp) <;> simp [-qt,-qd,-ql,rgs,vJ,qb])
 all_goals (try clear hnx)
 all_goals first | (simp_all [];done) | (simp_all [];omega) | (rw [Bool.eq_iff_iff];simp_all [];done) | (rw [Bool.eq_iff_iff];simp_all [];omega) | omega | (simp only [];grind) | grind
theorem c_eqTimerS {p q:Bool} {xs ys:List Tmr}:PC ctx.P 147 [.view p 5 (xs.map vJ),.view q 5 (ys.map vJ)] (.bool (xs == ys)):=by
 refine PC.lim (n:=xs.length) (x:=.view p 5 (xs.map vJ)) (by simp) (.here (by simp)) ⟨_,Tryz.func147,by kernel_rfl,by kernel_rfl⟩ fun hlim => ?_
 by_cases hl:xs.length = ys.length
 ·refine PC.o okC Tryz.func147 rfl (.bool _) fun h nx hnx => ?_
  try simp [-qt,-qd,-ql,rgs,hl]
  repeat' first | done | ((first | ((with_reducible show zU _ _ _ _ _ _);refine zB rfl fun _ => ?_) | ((with_reducible show zJ _ _ _ _ _ _ _);refine zC rfl omA omA ?_) | (with_reducible refine zF (i:=6) [(0,[],[]),(1,[],[]),(2,[],[]),(3,[],[]),(4,[],[]),(5,[],[]),(6,[],[]),(7,[],[]),(8,[],[]),(9,[],[])] (by kernel_rfl) ?_)) <;> simp [-qt,-qd,-ql,rgs,hl]) | ((first | (with_reducible refine zA ?_ ?_)) <;> intro qb <;> (have qp:=qb;try simp only [psq] at qp) <;> simp [-qt,-qd,-ql,rgs,hl,qb])
  refine zW [4,5,11,12,13,14,15,16,17,18,19,20,21,22,23,24,25,26] (ys.length) (fun (i:Nat) a=>[(5,.int .i64 i)]) (fun i_ a_ h_ _=>(fun i (_:Unit) _=>(xs.drop i == ys.drop i) = (xs == ys)) i_ a_ h_) (()) (by simp) ?_ zT (Nat.le_refl _) ?_
  ·simp
  ·intro i a tm h' n' hle hJ hE hn' next hnx
   try dsimp only at hJ
   have hK:KeepB nx h' h:=KeepB.sub hE zK (by omega)
   simp [-qt,-qd,-ql]
   try simp [-qt,-qd,-ql,rgs,hl,vJ]
   repeat' first | done | ((first | ((with_reducible show zU _ _ _ _ _ _);refine zB rfl fun _ => ?_) | ((with_reducible show zJ _ _ _ _ _ _ _);refine zC rfl omA omA ?_) | ((with_reducible show zG _ _ _ 256 _ _);refine zD (c_eqTimer) ?_) | (with_reducible refine zF (i:=6) [(0,[],[]),(1,[],[]),(2,[],[]),(3,[],[]),(4,[],[]),(5,[],[]),(6,[],[]),(7,[],[]),(8,[],[]),(9,[],[])] (by kernel_rfl) ?_)) <;> simp [-qt,-qd,-ql,rgs,hl,vJ]) | ((first | (with_reducible refine zA ?_ ?_)) <;> intro qb <;> (have qp:=qb;try simp only [psq] at qp) <;> simp [-qt,-qd,-ql,rgs,hl,vJ,qb])
   all_goals first
   | (have hlt:i < xs.length:=(by first | omega | (simp at *; omega))
      rw [zV hlt,zV (xs:=ys) (i:=i) (by omega),List.cons_beq_cons] at hJ
      first
      | (refine hnx.go () ?_ ?_ ?_ ?_ ?_ ?_;omega;(simp [zM hlt hlim]);(simp);exact zK;(first | omega | (simp;omega));(try dsimp only);clear hnx;first | (simp_all;done) | grind)
      | (refine ⟨?_,zK⟩;clear hnx;first | (simp_all;done) | grind)
      | (clear hnx;first | (simp_all;done) | grind))
   | (obtain rfl:i = xs.length:=(by first | omega | (simp at *; omega))
      rw [List.drop_eq_nil_of_le (Nat.le_refl _),List.drop_eq_nil_of_le (by omega)] at hJ
      refine ⟨?_,zK⟩;clear hnx;first | (simp_all;done) | grind)
 ·refine PC.o okC Tryz.func147 rfl (.bool _) fun h nx hnx => ?_
  try simp [-qt,-qd,-ql,rgs]
  repeat' first | done | ((first | ((with_reducible show zU _ _ _ _ _ _);refine zB rfl fun _ => ?_) | ((with_reducible show zJ _ _ _ _ _ _ _);refine zC rfl omA omA ?_) | (with_reducible refine zF (i:=6) [(0,[],[]),(1,[],[]),(2,[],[]),(3,[],[]),(4,[],[]),(5,[],[]),(6,[],[]),(7,[],[]),(8,[],[]),(9,[],[])] (by kernel_rfl) ?_)) <;> simp [-qt,-qd,-ql,rgs]) | ((first | (with_reducible refine zA ?_ ?_)) <;> intro qb <;> (have qp:=qb;try simp only [psq] at qp) <;> simp [-qt,-qd,-ql,rgs,qb])
  all_goals first | (exfalso;omega) | (symm;rw [beq_eq_false_iff_ne];intro e;exact hl (by rw [e])) | (intro e;exact hl (by rw [e])) | skip
theorem c_szTimerS {p:Bool} {xs:List Tmr} {k:Int} (h0:0 ≤ k) (h1:k ≤ 1048576):PC ctx.P 100 [.view p 5 (xs.map vJ),.int .i64 k] (.int .i64 (szR xs.length k)):=by
 refine PC.lim (n:=xs.length) (x:=.view p 5 (xs.map vJ)) (by simp) (.here (by simp)) ⟨_,Tryz.func100,by kernel_rfl,by kernel_rfl⟩ fun hlim => ?_
 simp only [LIM] at hlim
 refine PC.o okC Tryz.func100 rfl (.int _ _) fun h nx hnx => ?_
 try simp [-qt,-qd,-ql,rgs,zH (x:=k - (xs.length:Int)) (by omega)]
 repeat' first | done | ((first | ((with_reducible show zU _ _ _ _ _ _);refine zB rfl fun _ => ?_)) <;> simp [-qt,-qd,-ql,rgs,zH (x:=k - (xs.length:Int)) (by omega)]) | ((first | (with_reducible refine zA ?_ ?_)) <;> intro qb <;> (have qp:=qb;try simp only [psq] at qp) <;> simp [-qt,-qd,-ql,rgs,zH (x:=k - (xs.length:Int)) (by omega),qb])
 all_goals (clear hnx;simp only [szR];split <;> first | omega | (simp;omega))
theorem c_toAfter {x:Afr}:PC ctx.P 215 [.agg (vO x)] (.agg (vO x)):=by
 refine PC.o okC Tryz.func215 rfl (.agg _ (zC6 x)) fun h nx hnx => ?_
 try simp [-qt,-qd,-ql,rgs,vO,zG8]
 repeat' first | done | ((first | ((with_reducible show zG _ _ _ 283 _ _);refine zD (c_toHandle (x:=x.han)) ?_)) <;> simp [-qt,-qd,-ql,rgs,vO,zG8])
theorem c_eqAfter {x y:Afr}:PC ctx.P 257 [.agg (vO x),.agg (vO y)] (.bool (x == y)):=by
 rw [afr_beq]
 refine PC.o okC Tryz.func257 rfl (.bool _) fun h nx hnx => ?_
 try simp [-qt,-qd,-ql,rgs,vO,zG8]
 repeat' first | done | ((first | ((with_reducible show zG _ _ _ 331 _ _);refine zD (c_eqHandle (x:=x.han) (y:=y.han)) ?_)) <;> simp [-qt,-qd,-ql,rgs,vO,zG8]) | ((first | (with_reducible refine zA ?_ ?_)) <;> intro qb <;> (have qp:=qb;try simp only [psq] at qp) <;> simp [-qt,-qd,-ql,rgs,vO,zG8,qb])
 all_goals (try clear hnx)
 all_goals first | (simp_all [];done) | (simp_all [];omega) | (rw [Bool.eq_iff_iff];simp_all [];done) | (rw [Bool.eq_iff_iff];simp_all [];omega) | omega | (simp only [];grind) | grind
theorem c_eqAfterS {p q:Bool} {xs ys:List Afr}:PC ctx.P 149 [.view p 5 (xs.map vO),.view q 5 (ys.map vO)] (.bool (xs == ys)):=by
 refine PC.lim (n:=xs.length) (x:=.view p 5 (xs.map vO)) (by simp) (.here (by simp)) ⟨_,Tryz.func149,by kernel_rfl,by kernel_rfl⟩ fun hlim => ?_
 by_cases hl:xs.length = ys.length
 ·refine PC.o okC Tryz.func149 rfl (.bool _) fun h nx hnx => ?_
  try simp [-qt,-qd,-ql,rgs,hl]
  repeat' first | done | ((first | ((with_reducible show zU _ _ _ _ _ _);refine zB rfl fun _ => ?_) | ((with_reducible show zJ _ _ _ _ _ _ _);refine zC rfl omA omA ?_) | (with_reducible refine zF (i:=6) [(0,[],[]),(1,[],[]),(2,[],[]),(3,[],[]),(4,[],[]),(5,[],[]),(6,[],[]),(7,[],[]),(8,[],[]),(9,[],[])] (by kernel_rfl) ?_)) <;> simp [-qt,-qd,-ql,rgs,hl]) | ((first | (with_reducible refine zA ?_ ?_)) <;> intro qb <;> (have qp:=qb;try simp only [psq] at qp) <;> simp [-qt,-qd,-ql,rgs,hl,qb])
  refine zW [4,5,11,12,13,14,15,16,17,18,19,20,21,22,23,24,25,26] (ys.length) (fun (i:Nat) a=>[(5,.int .i64 i)]) (fun i_ a_ h_ _=>(fun i (_:Unit) _=>(xs.drop i == ys.drop i) = (xs == ys)) i_ a_ h_) (()) (by simp) ?_ zT (Nat.le_refl _) ?_
  ·simp
  ·intro i a tm h' n' hle hJ hE hn' next hnx
   try dsimp only at hJ
   have hK:KeepB nx h' h:=KeepB.sub hE zK (by omega)
   simp [-qt,-qd,-ql]
   try simp [-qt,-qd,-ql,rgs,hl,vO]
   repeat' first | done | ((first | ((with_reducible show zU _ _ _ _ _ _);refine zB rfl fun _ => ?_) | ((with_reducible show zJ _ _ _ _ _ _ _);refine zC rfl omA omA ?_) | ((with_reducible show zG _ _ _ 257 _ _);refine zD (c_eqAfter) ?_) | (with_reducible refine zF (i:=6) [(0,[],[]),(1,[],[]),(2,[],[]),(3,[],[]),(4,[],[]),(5,[],[]),(6,[],[]),(7,[],[]),(8,[],[]),(9,[],[])] (by kernel_rfl) ?_)) <;> simp [-qt,-qd,-ql,rgs,hl,vO]) | ((first | (with_reducible refine zA ?_ ?_)) <;> intro qb <;> (have qp:=qb;try simp only [psq] at qp) <;> simp [-qt,-qd,-ql,rgs,hl,vO,qb])
   all_goals first
   | (have hlt:i < xs.length:=(by first | omega | (simp at *; omega))
      rw [zV hlt,zV (xs:=ys) (i:=i) (by omega),List.cons_beq_cons] at hJ
      first
      | (refine hnx.go () ?_ ?_ ?_ ?_ ?_ ?_;omega;(simp [zM hlt hlim]);(simp);exact zK;(first | omega | (simp;omega));(try dsimp only);clear hnx;first | (simp_all;done) | grind)
      | (refine ⟨?_,zK⟩;clear hnx;first | (simp_all;done) | grind)
      | (clear hnx;first | (simp_all;done) | grind))
   | (obtain rfl:i = xs.length:=(by first | omega | (simp at *; omega))
      rw [List.drop_eq_nil_of_le (Nat.le_refl _),List.drop_eq_nil_of_le (by omega)] at hJ
      refine ⟨?_,zK⟩;clear hnx;first | (simp_all;done) | grind)
 ·refine PC.o okC Tryz.func149 rfl (.bool _) fun h nx hnx => ?_
  try simp [-qt,-qd,-ql,rgs]
  repeat' first | done | ((first | ((with_reducible show zU _ _ _ _ _ _);refine zB rfl fun _ => ?_) | ((with_reducible show zJ _ _ _ _ _ _ _);refine zC rfl omA omA ?_) | (with_reducible refine zF (i:=6) [(0,[],[]),(1,[],[]),(2,[],[]),(3,[],[]),(4,[],[]),(5,[],[]),(6,[],[]),(7,[],[]),(8,[],[]),(9,[],[])] (by kernel_rfl) ?_)) <;> simp [-qt,-qd,-ql,rgs]) | ((first | (with_reducible refine zA ?_ ?_)) <;> intro qb <;> (have qp:=qb;try simp only [psq] at qp) <;> simp [-qt,-qd,-ql,rgs,qb])
  all_goals first | (exfalso;omega) | (symm;rw [beq_eq_false_iff_ne];intro e;exact hl (by rw [e])) | (intro e;exact hl (by rw [e])) | skip
theorem c_szAfterS {p:Bool} {xs:List Afr} {k:Int} (h0:0 ≤ k) (h1:k ≤ 1048576):PC ctx.P 102 [.view p 5 (xs.map vO),.int .i64 k] (.int .i64 (szR xs.length k)):=by
 refine PC.lim (n:=xs.length) (x:=.view p 5 (xs.map vO)) (by simp) (.here (by simp)) ⟨_,Tryz.func102,by kernel_rfl,by kernel_rfl⟩ fun hlim => ?_
 simp only [LIM] at hlim
 refine PC.o okC Tryz.func102 rfl (.int _ _) fun h nx hnx => ?_
 try simp [-qt,-qd,-ql,rgs,zH (x:=k - (xs.length:Int)) (by omega)]
 repeat' first | done | ((first | ((with_reducible show zU _ _ _ _ _ _);refine zB rfl fun _ => ?_)) <;> simp [-qt,-qd,-ql,rgs,zH (x:=k - (xs.length:Int)) (by omega)]) | ((first | (with_reducible refine zA ?_ ?_)) <;> intro qb <;> (have qp:=qb;try simp only [psq] at qp) <;> simp [-qt,-qd,-ql,rgs,zH (x:=k - (xs.length:Int)) (by omega),qb])
 all_goals (clear hnx;simp only [szR];split <;> first | omega | (simp;omega))
theorem c_toTask {x:Tsk}:PC ctx.P 134 [.agg (vU x)] (.agg (vU x)):=by
 refine PC.o okC Tryz.func134 rfl (.agg _ (tskC_fz x)) fun h nx hnx => ?_
 try simp [-qt,-qd,-ql,rgs,vU]
theorem c_eqTask {x y:Tsk}:PC ctx.P 150 [.agg (vU x),.agg (vU y)] (.bool (x == y)):=by
 rw [tsk_beq]
 refine PC.o okC Tryz.func150 rfl (.bool _) fun h nx hnx => ?_
 try simp [-qt,-qd,-ql,rgs,vU]
 repeat' first | done | ((first | (with_reducible refine zA ?_ ?_)) <;> intro qb <;> (have qp:=qb;try simp only [psq] at qp) <;> simp [-qt,-qd,-ql,rgs,vU,qb])
 all_goals (try clear hnx)
 all_goals first | (simp_all [];done) | (simp_all [];omega) | (rw [Bool.eq_iff_iff];simp_all [];done) | (rw [Bool.eq_iff_iff];simp_all [];omega) | omega | (simp only [];grind) | grind
theorem c_eqTaskS {p q:Bool} {xs ys:List Tsk}:PC ctx.P 59 [.view p 9 (xs.map vU),.view q 9 (ys.map vU)] (.bool (xs == ys)):=by
 refine PC.lim (n:=xs.length) (x:=.view p 9 (xs.map vU)) (by simp) (.here (by simp)) ⟨_,Tryz.func59,by kernel_rfl,by kernel_rfl⟩ fun hlim => ?_
 by_cases hl:xs.length = ys.length
 ·refine PC.o okC Tryz.func59 rfl (.bool _) fun h nx hnx => ?_
  try simp [-qt,-qd,-ql,rgs,hl]
  repeat' first | done | ((first | ((with_reducible show zU _ _ _ _ _ _);refine zB rfl fun _ => ?_) | ((with_reducible show zJ _ _ _ _ _ _ _);refine zC rfl omA omA ?_) | (with_reducible refine zF (i:=6) [(0,[],[]),(1,[],[]),(2,[],[]),(3,[],[]),(4,[],[]),(5,[],[]),(6,[],[]),(7,[],[]),(8,[],[]),(9,[],[])] (by kernel_rfl) ?_)) <;> simp [-qt,-qd,-ql,rgs,hl]) | ((first | (with_reducible refine zA ?_ ?_)) <;> intro qb <;> (have qp:=qb;try simp only [psq] at qp) <;> simp [-qt,-qd,-ql,rgs,hl,qb])
  refine zW [4,5,11,12,13,14,15,16,17,18,19,20,21,22,23,24,25,26] (ys.length) (fun (i:Nat) a=>[(5,.int .i64 i)]) (fun i_ a_ h_ _=>(fun i (_:Unit) _=>(xs.drop i == ys.drop i) = (xs == ys)) i_ a_ h_) (()) (by simp) ?_ zT (Nat.le_refl _) ?_
  ·simp
  ·intro i a tm h' n' hle hJ hE hn' next hnx
   try dsimp only at hJ
   have hK:KeepB nx h' h:=KeepB.sub hE zK (by omega)
   simp [-qt,-qd,-ql]
   try simp [-qt,-qd,-ql,rgs,hl,vU]
   repeat' first | done | ((first | ((with_reducible show zU _ _ _ _ _ _);refine zB rfl fun _ => ?_) | ((with_reducible show zJ _ _ _ _ _ _ _);refine zC rfl omA omA ?_) | ((with_reducible show zG _ _ _ 150 _ _);refine zD (c_eqTask) ?_) | (with_reducible refine zF (i:=6) [(0,[],[]),(1,[],[]),(2,[],[]),(3,[],[]),(4,[],[]),(5,[],[]),(6,[],[]),(7,[],[]),(8,[],[]),(9,[],[])] (by kernel_rfl) ?_)) <;> simp [-qt,-qd,-ql,rgs,hl,vU]) | ((first | (with_reducible refine zA ?_ ?_)) <;> intro qb <;> (have qp:=qb;try simp only [psq] at qp) <;> simp [-qt,-qd,-ql,rgs,hl,vU,qb])
   all_goals first
   | (have hlt:i < xs.length:=(by first | omega | (simp at *; omega))
      rw [zV hlt,zV (xs:=ys) (i:=i) (by omega),List.cons_beq_cons] at hJ
      first
      | (refine hnx.go () ?_ ?_ ?_ ?_ ?_ ?_;omega;(simp [zM hlt hlim]);(simp);exact zK;(first | omega | (simp;omega));(try dsimp only);clear hnx;first | (simp_all;done) | grind)
      | (refine ⟨?_,zK⟩;clear hnx;first | (simp_all;done) | grind)
      | (clear hnx;first | (simp_all;done) | grind))
   | (obtain rfl:i = xs.length:=(by first | omega | (simp at *; omega))
      rw [List.drop_eq_nil_of_le (Nat.le_refl _),List.drop_eq_nil_of_le (by omega)] at hJ
      refine ⟨?_,zK⟩;clear hnx;first | (simp_all;done) | grind)
 ·refine PC.o okC Tryz.func59 rfl (.bool _) fun h nx hnx => ?_
  try simp [-qt,-qd,-ql,rgs]
  repeat' first | done | ((first | ((with_reducible show zU _ _ _ _ _ _);refine zB rfl fun _ => ?_) | ((with_reducible show zJ _ _ _ _ _ _ _);refine zC rfl omA omA ?_) | (with_reducible refine zF (i:=6) [(0,[],[]),(1,[],[]),(2,[],[]),(3,[],[]),(4,[],[]),(5,[],[]),(6,[],[]),(7,[],[]),(8,[],[]),(9,[],[])] (by kernel_rfl) ?_)) <;> simp [-qt,-qd,-ql,rgs]) | ((first | (with_reducible refine zA ?_ ?_)) <;> intro qb <;> (have qp:=qb;try simp only [psq] at qp) <;> simp [-qt,-qd,-ql,rgs,qb])
  all_goals first | (exfalso;omega) | (symm;rw [beq_eq_false_iff_ne];intro e;exact hl (by rw [e])) | (intro e;exact hl (by rw [e])) | skip
theorem c_szTaskS {p:Bool} {xs:List Tsk} {k:Int} (h0:0 ≤ k) (h1:k ≤ 1048576):PC ctx.P 29 [.view p 9 (xs.map vU),.int .i64 k] (.int .i64 (szR xs.length k)):=by
 refine PC.lim (n:=xs.length) (x:=.view p 9 (xs.map vU)) (by simp) (.here (by simp)) ⟨_,Tryz.func29,by kernel_rfl,by kernel_rfl⟩ fun hlim => ?_
 simp only [LIM] at hlim
 refine PC.o okC Tryz.func29 rfl (.int _ _) fun h nx hnx => ?_
 try simp [-qt,-qd,-ql,rgs,zH (x:=k - (xs.length:Int)) (by omega)]
 repeat' first | done | ((first | ((with_reducible show zU _ _ _ _ _ _);refine zB rfl fun _ => ?_)) <;> simp [-qt,-qd,-ql,rgs,zH (x:=k - (xs.length:Int)) (by omega)]) | ((first | (with_reducible refine zA ?_ ?_)) <;> intro qb <;> (have qp:=qb;try simp only [psq] at qp) <;> simp [-qt,-qd,-ql,rgs,zH (x:=k - (xs.length:Int)) (by omega),qb])
 all_goals (clear hnx;simp only [szR];split <;> first | omega | (simp;omega))
theorem c_toSight {x:Sgt}:PC ctx.P 136 [.agg (zA6 x)] (.agg (zA6 x)):=by
 refine PC.o okC Tryz.func136 rfl (.agg _ (sgtC_fz x)) fun h nx hnx => ?_
 try simp [-qt,-qd,-ql,rgs,zA6]
theorem c_eqSight {x y:Sgt}:PC ctx.P 152 [.agg (zA6 x),.agg (zA6 y)] (.bool (x == y)):=by
 rw [sgt_beq]
 refine PC.o okC Tryz.func152 rfl (.bool _) fun h nx hnx => ?_
 try simp [-qt,-qd,-ql,rgs,zA6]
 repeat' first | done | ((first | (with_reducible refine zA ?_ ?_)) <;> intro qb <;> (have qp:=qb;try simp only [psq] at qp) <;> simp [-qt,-qd,-ql,rgs,zA6,qb])
 all_goals (try clear hnx)
 all_goals first | (simp_all [];done) | (simp_all [];omega) | (rw [Bool.eq_iff_iff];simp_all [];done) | (rw [Bool.eq_iff_iff];simp_all [];omega) | omega | (simp only [];grind) | grind
theorem c_eqSightS {p q:Bool} {xs ys:List Sgt}:PC ctx.P 61 [.view p 4 (xs.map zA6),.view q 4 (ys.map zA6)] (.bool (xs == ys)):=by
 refine PC.lim (n:=xs.length) (x:=.view p 4 (xs.map zA6)) (by simp) (.here (by simp)) ⟨_,Tryz.func61,by kernel_rfl,by kernel_rfl⟩ fun hlim => ?_
 by_cases hl:xs.length = ys.length
 ·refine PC.o okC Tryz.func61 rfl (.bool _) fun h nx hnx => ?_
  try simp [-qt,-qd,-ql,rgs,hl]
  repeat' first | done | ((first | ((with_reducible show zU _ _ _ _ _ _);refine zB rfl fun _ => ?_) | ((with_reducible show zJ _ _ _ _ _ _ _);refine zC rfl omA omA ?_) | (with_reducible refine zF (i:=6) [(0,[],[]),(1,[],[]),(2,[],[]),(3,[],[]),(4,[],[]),(5,[],[]),(6,[],[]),(7,[],[]),(8,[],[]),(9,[],[])] (by kernel_rfl) ?_)) <;> simp [-qt,-qd,-ql,rgs,hl]) | ((first | (with_reducible refine zA ?_ ?_)) <;> intro qb <;> (have qp:=qb;try simp only [psq] at qp) <;> simp [-qt,-qd,-ql,rgs,hl,qb])
  refine zW [4,5,11,12,13,14,15,16,17,18,19,20,21,22,23,24,25,26] (ys.length) (fun (i:Nat) a=>[(5,.int .i64 i)]) (fun i_ a_ h_ _=>(fun i (_:Unit) _=>(xs.drop i == ys.drop i) = (xs == ys)) i_ a_ h_) (()) (by simp) ?_ zT (Nat.le_refl _) ?_
  ·simp
  ·intro i a tm h' n' hle hJ hE hn' next hnx
   try dsimp only at hJ
   have hK:KeepB nx h' h:=KeepB.sub hE zK (by omega)
   simp [-qt,-qd,-ql]
   try simp [-qt,-qd,-ql,rgs,hl,zA6]
   repeat' first | done | ((first | ((with_reducible show zU _ _ _ _ _ _);refine zB rfl fun _ => ?_) | ((with_reducible show zJ _ _ _ _ _ _ _);refine zC rfl omA omA ?_) | ((with_reducible show zG _ _ _ 152 _ _);refine zD (c_eqSight) ?_) | (with_reducible refine zF (i:=6) [(0,[],[]),(1,[],[]),(2,[],[]),(3,[],[]),(4,[],[]),(5,[],[]),(6,[],[]),(7,[],[]),(8,[],[]),(9,[],[])] (by kernel_rfl) ?_)) <;> simp [-qt,-qd,-ql,rgs,hl,zA6]) | ((first | (with_reducible refine zA ?_ ?_)) <;> intro qb <;> (have qp:=qb;try simp only [psq] at qp) <;> simp [-qt,-qd,-ql,rgs,hl,zA6,qb])
   all_goals first
   | (have hlt:i < xs.length:=(by first | omega | (simp at *; omega))
      rw [zV hlt,zV (xs:=ys) (i:=i) (by omega),List.cons_beq_cons] at hJ
      first
      | (refine hnx.go () ?_ ?_ ?_ ?_ ?_ ?_;omega;(simp [zM hlt hlim]);(simp);exact zK;(first | omega | (simp;omega));(try dsimp only);clear hnx;first | (simp_all;done) | grind)
      | (refine ⟨?_,zK⟩;clear hnx;first | (simp_all;done) | grind)
      | (clear hnx;first | (simp_all;done) | grind))
   | (obtain rfl:i = xs.length:=(by first | omega | (simp at *; omega))
      rw [List.drop_eq_nil_of_le (Nat.le_refl _),List.drop_eq_nil_of_le (by omega)] at hJ
      refine ⟨?_,zK⟩;clear hnx;first | (simp_all;done) | grind)
 ·refine PC.o okC Tryz.func61 rfl (.bool _) fun h nx hnx => ?_
  try simp [-qt,-qd,-ql,rgs]
  repeat' first | done | ((first | ((with_reducible show zU _ _ _ _ _ _);refine zB rfl fun _ => ?_) | ((with_reducible show zJ _ _ _ _ _ _ _);refine zC rfl omA omA ?_) | (with_reducible refine zF (i:=6) [(0,[],[]),(1,[],[]),(2,[],[]),(3,[],[]),(4,[],[]),(5,[],[]),(6,[],[]),(7,[],[]),(8,[],[]),(9,[],[])] (by kernel_rfl) ?_)) <;> simp [-qt,-qd,-ql,rgs]) | ((first | (with_reducible refine zA ?_ ?_)) <;> intro qb <;> (have qp:=qb;try simp only [psq] at qp) <;> simp [-qt,-qd,-ql,rgs,qb])
  all_goals first | (exfalso;omega) | (symm;rw [beq_eq_false_iff_ne];intro e;exact hl (by rw [e])) | (intro e;exact hl (by rw [e])) | skip
theorem c_szSightS {p:Bool} {xs:List Sgt} {k:Int} (h0:0 ≤ k) (h1:k ≤ 1048576):PC ctx.P 31 [.view p 4 (xs.map zA6),.int .i64 k] (.int .i64 (szR xs.length k)):=by
 refine PC.lim (n:=xs.length) (x:=.view p 4 (xs.map zA6)) (by simp) (.here (by simp)) ⟨_,Tryz.func31,by kernel_rfl,by kernel_rfl⟩ fun hlim => ?_
 simp only [LIM] at hlim
 refine PC.o okC Tryz.func31 rfl (.int _ _) fun h nx hnx => ?_
 try simp [-qt,-qd,-ql,rgs,zH (x:=k - (xs.length:Int)) (by omega)]
 repeat' first | done | ((first | ((with_reducible show zU _ _ _ _ _ _);refine zB rfl fun _ => ?_)) <;> simp [-qt,-qd,-ql,rgs,zH (x:=k - (xs.length:Int)) (by omega)]) | ((first | (with_reducible refine zA ?_ ?_)) <;> intro qb <;> (have qp:=qb;try simp only [psq] at qp) <;> simp [-qt,-qd,-ql,rgs,zH (x:=k - (xs.length:Int)) (by omega),qb])
 all_goals (clear hnx;simp only [szR];split <;> first | omega | (simp;omega))
theorem zM6 {p q:Bool} {xs ys:List Int}:PC ctx.P 62 [.view p 1 (xs.map iv),.view q 1 (ys.map iv)] (.bool (xs == ys)):=by
 refine PC.lim (n:=xs.length) (x:=.view p 1 (xs.map iv)) (by simp) (.here (by simp)) ⟨_,Tryz.func62,by kernel_rfl,by kernel_rfl⟩ fun hlim => ?_
 by_cases hl:xs.length = ys.length
 ·refine PC.o okC Tryz.func62 rfl (.bool _) fun h nx hnx => ?_
  try simp [-qt,-qd,-ql,rgs,hl]
  repeat' first | done | ((first | ((with_reducible show zU _ _ _ _ _ _);refine zB rfl fun _ => ?_) | ((with_reducible show zJ _ _ _ _ _ _ _);refine zC rfl omA omA ?_) | (with_reducible refine zF (i:=6) [(0,[],[]),(1,[],[]),(2,[],[]),(3,[],[]),(4,[],[]),(5,[],[]),(6,[],[]),(7,[],[]),(8,[],[])] (by kernel_rfl) ?_)) <;> simp [-qt,-qd,-ql,rgs,hl]) | ((first | (with_reducible refine zA ?_ ?_)) <;> intro qb <;> (have qp:=qb;try simp only [psq] at qp) <;> simp [-qt,-qd,-ql,rgs,hl,qb])
  refine zW [4,5,11,12,13,14,15,16,17,18,19,20,21,22,23,24,25] (ys.length) (fun (i:Nat) a=>[(5,.int .i64 i)]) (fun i_ a_ h_ _=>(fun i (_:Unit) _=>(xs.drop i == ys.drop i) = (xs == ys)) i_ a_ h_) (()) (by simp) ?_ zT (Nat.le_refl _) ?_
  ·simp
  ·intro i a tm h' n' hle hJ hE hn' next hnx
   try dsimp only at hJ
   have hK:KeepB nx h' h:=KeepB.sub hE zK (by omega)
   simp [-qt,-qd,-ql]
   try simp [-qt,-qd,-ql,rgs,hl,iv]
   repeat' first | done | ((first | ((with_reducible show zU _ _ _ _ _ _);refine zB rfl fun _ => ?_) | ((with_reducible show zJ _ _ _ _ _ _ _);refine zC rfl omA omA ?_) | (with_reducible refine zF (i:=6) [(0,[],[]),(1,[],[]),(2,[],[]),(3,[],[]),(4,[],[]),(5,[],[]),(6,[],[]),(7,[],[]),(8,[],[])] (by kernel_rfl) ?_)) <;> simp [-qt,-qd,-ql,rgs,hl,iv]) | ((first | (with_reducible refine zA ?_ ?_)) <;> intro qb <;> (have qp:=qb;try simp only [psq] at qp) <;> simp [-qt,-qd,-ql,rgs,hl,iv,qb])
   all_goals first
   | (have hlt:i < xs.length:=(by first | omega | (simp at *; omega))
      rw [zV hlt,zV (xs:=ys) (i:=i) (by omega),List.cons_beq_cons] at hJ
      first
      | (refine hnx.go () ?_ ?_ ?_ ?_ ?_ ?_;omega;(simp [zM hlt hlim]);(simp);exact zK;(first | omega | (simp;omega));(try dsimp only);clear hnx;first | (simp_all;done) | grind)
      | (refine ⟨?_,zK⟩;clear hnx;first | (simp_all;done) | grind)
      | (clear hnx;first | (simp_all;done) | grind))
   | (obtain rfl:i = xs.length:=(by first | omega | (simp at *; omega))
      rw [List.drop_eq_nil_of_le (Nat.le_refl _),List.drop_eq_nil_of_le (by omega)] at hJ
      refine ⟨?_,zK⟩;clear hnx;first | (simp_all;done) | grind)
 ·refine PC.o okC Tryz.func62 rfl (.bool _) fun h nx hnx => ?_
  try simp [-qt,-qd,-ql,rgs]
  repeat' first | done | ((first | ((with_reducible show zU _ _ _ _ _ _);refine zB rfl fun _ => ?_) | ((with_reducible show zJ _ _ _ _ _ _ _);refine zC rfl omA omA ?_) | (with_reducible refine zF (i:=6) [(0,[],[]),(1,[],[]),(2,[],[]),(3,[],[]),(4,[],[]),(5,[],[]),(6,[],[]),(7,[],[]),(8,[],[])] (by kernel_rfl) ?_)) <;> simp [-qt,-qd,-ql,rgs]) | ((first | (with_reducible refine zA ?_ ?_)) <;> intro qb <;> (have qp:=qb;try simp only [psq] at qp) <;> simp [-qt,-qd,-ql,rgs,qb])
  all_goals first | (exfalso;omega) | (symm;rw [beq_eq_false_iff_ne];intro e;exact hl (by rw [e])) | (intro e;exact hl (by rw [e])) | skip
theorem zN0 {p:Bool} {xs:List Int} {k:Int} (h0:0 ≤ k) (h1:k ≤ 1048576):PC ctx.P 32 [.view p 1 (xs.map iv),.int .i64 k] (.int .i64 (szR xs.length k)):=by
 refine PC.lim (n:=xs.length) (x:=.view p 1 (xs.map iv)) (by simp) (.here (by simp)) ⟨_,Tryz.func32,by kernel_rfl,by kernel_rfl⟩ fun hlim => ?_
 simp only [LIM] at hlim
 refine PC.o okC Tryz.func32 rfl (.int _ _) fun h nx hnx => ?_
 try simp [-qt,-qd,-ql,rgs,zH (x:=k - (xs.length:Int)) (by omega)]
 repeat' first | done | ((first | ((with_reducible show zU _ _ _ _ _ _);refine zB rfl fun _ => ?_)) <;> simp [-qt,-qd,-ql,rgs,zH (x:=k - (xs.length:Int)) (by omega)]) | ((first | (with_reducible refine zA ?_ ?_)) <;> intro qb <;> (have qp:=qb;try simp only [psq] at qp) <;> simp [-qt,-qd,-ql,rgs,zH (x:=k - (xs.length:Int)) (by omega),qb])
 all_goals (clear hnx;simp only [szR];split <;> first | omega | (simp;omega))
theorem c_eqBoolS {p q:Bool} {xs ys:List Bool}:PC ctx.P 145 [.view p 1 (xs.map bv),.view q 1 (ys.map bv)] (.bool (xs == ys)):=by
 refine PC.lim (n:=xs.length) (x:=.view p 1 (xs.map bv)) (by simp) (.here (by simp)) ⟨_,Tryz.func145,by kernel_rfl,by kernel_rfl⟩ fun hlim => ?_
 by_cases hl:xs.length = ys.length
 ·refine PC.o okC Tryz.func145 rfl (.bool _) fun h nx hnx => ?_
  try simp [-qt,-qd,-ql,rgs,hl]
  repeat' first | done | ((first | ((with_reducible show zU _ _ _ _ _ _);refine zB rfl fun _ => ?_) | ((with_reducible show zJ _ _ _ _ _ _ _);refine zC rfl omA omA ?_) | (with_reducible refine zF (i:=6) [(0,[],[]),(1,[],[]),(2,[],[]),(3,[],[]),(4,[],[]),(5,[],[]),(6,[],[]),(7,[],[]),(8,[],[])] (by kernel_rfl) ?_)) <;> simp [-qt,-qd,-ql,rgs,hl]) | ((first | (with_reducible refine zA ?_ ?_)) <;> intro qb <;> (have qp:=qb;try simp only [psq] at qp) <;> simp [-qt,-qd,-ql,rgs,hl,qb])
  refine zW [4,5,11,12,13,14,15,16,17,18,19,20,21,22,23,24,25] (ys.length) (fun (i:Nat) a=>[(5,.int .i64 i)]) (fun i_ a_ h_ _=>(fun i (_:Unit) _=>(xs.drop i == ys.drop i) = (xs == ys)) i_ a_ h_) (()) (by simp) ?_ zT (Nat.le_refl _) ?_
  ·simp
  ·intro i a tm h' n' hle hJ hE hn' next hnx
   try dsimp only at hJ
   have hK:KeepB nx h' h:=KeepB.sub hE zK (by omega)
   simp [-qt,-qd,-ql]
   try simp [-qt,-qd,-ql,rgs,hl,bv]
   repeat' first | done | ((first | ((with_reducible show zU _ _ _ _ _ _);refine zB rfl fun _ => ?_) | ((with_reducible show zJ _ _ _ _ _ _ _);refine zC rfl omA omA ?_) | (with_reducible refine zF (i:=6) [(0,[],[]),(1,[],[]),(2,[],[]),(3,[],[]),(4,[],[]),(5,[],[]),(6,[],[]),(7,[],[]),(8,[],[])] (by kernel_rfl) ?_)) <;> simp [-qt,-qd,-ql,rgs,hl,bv]) | ((first | (with_reducible refine zA ?_ ?_)) <;> intro qb <;> (have qp:=qb;try simp only [psq] at qp) <;> simp [-qt,-qd,-ql,rgs,hl,bv,qb])
   all_goals first
   | (have hlt:i < xs.length:=(by first | omega | (simp at *; omega))
      rw [zV hlt,zV (xs:=ys) (i:=i) (by omega),List.cons_beq_cons] at hJ
      first
      | (refine hnx.go () ?_ ?_ ?_ ?_ ?_ ?_;omega;(simp [zM hlt hlim]);(simp);exact zK;(first | omega | (simp;omega));(try dsimp only);clear hnx;first | (simp_all;done) | grind)
      | (refine ⟨?_,zK⟩;clear hnx;first | (simp_all;done) | grind)
      | (clear hnx;first | (simp_all;done) | grind))
   | (obtain rfl:i = xs.length:=(by first | omega | (simp at *; omega))
      rw [List.drop_eq_nil_of_le (Nat.le_refl _),List.drop_eq_nil_of_le (by omega)] at hJ
      refine ⟨?_,zK⟩;clear hnx;first | (simp_all;done) | grind)
 ·refine PC.o okC Tryz.func145 rfl (.bool _) fun h nx hnx => ?_
  try simp [-qt,-qd,-ql,rgs]
  repeat' first | done | ((first | ((with_reducible show zU _ _ _ _ _ _);refine zB rfl fun _ => ?_) | ((with_reducible show zJ _ _ _ _ _ _ _);refine zC rfl omA omA ?_) | (with_reducible refine zF (i:=6) [(0,[],[]),(1,[],[]),(2,[],[]),(3,[],[]),(4,[],[]),(5,[],[]),(6,[],[]),(7,[],[]),(8,[],[])] (by kernel_rfl) ?_)) <;> simp [-qt,-qd,-ql,rgs]) | ((first | (with_reducible refine zA ?_ ?_)) <;> intro qb <;> (have qp:=qb;try simp only [psq] at qp) <;> simp [-qt,-qd,-ql,rgs,qb])
  all_goals first | (exfalso;omega) | (symm;rw [beq_eq_false_iff_ne];intro e;exact hl (by rw [e])) | (intro e;exact hl (by rw [e])) | skip
theorem c_szBoolS {p:Bool} {xs:List Bool} {k:Int} (h0:0 ≤ k) (h1:k ≤ 1048576):PC ctx.P 98 [.view p 1 (xs.map bv),.int .i64 k] (.int .i64 (szR xs.length k)):=by
 refine PC.lim (n:=xs.length) (x:=.view p 1 (xs.map bv)) (by simp) (.here (by simp)) ⟨_,Tryz.func98,by kernel_rfl,by kernel_rfl⟩ fun hlim => ?_
 simp only [LIM] at hlim
 refine PC.o okC Tryz.func98 rfl (.int _ _) fun h nx hnx => ?_
 try simp [-qt,-qd,-ql,rgs,zH (x:=k - (xs.length:Int)) (by omega)]
 repeat' first | done | ((first | ((with_reducible show zU _ _ _ _ _ _);refine zB rfl fun _ => ?_)) <;> simp [-qt,-qd,-ql,rgs,zH (x:=k - (xs.length:Int)) (by omega)]) | ((first | (with_reducible refine zA ?_ ?_)) <;> intro qb <;> (have qp:=qb;try simp only [psq] at qp) <;> simp [-qt,-qd,-ql,rgs,zH (x:=k - (xs.length:Int)) (by omega),qb])
 all_goals (clear hnx;simp only [szR];split <;> first | omega | (simp;omega))
end Go.AE.Tryz
end
section
/- Contracts of the laws' helpers: worlds. -/
set_option maxRecDepth 8000
set_option maxHeartbeats 4000000
namespace Go.AE.Tryz
open Go.Proofs
open List renaming map_take → qt,map_drop → qd,map_tail → ql
theorem c_eqInsSS {p q p2 q2:Bool} {xs ys:List (List Inn)}:PC ctx.P 53 [.view p 1 (xs.map (zD2 p2)),.view q 1 (ys.map (zD2 q2))] (.bool (xs == ys)):=by
 refine PC.lim (n:=xs.length) (x:=.view p 1 (xs.map (zD2 p2))) (by simp) (.here (by simp)) ⟨_,Tryz.func53,by kernel_rfl,by kernel_rfl⟩ fun hlim => ?_
 by_cases hl:xs.length = ys.length
 ·refine PC.o okC Tryz.func53 rfl (.bool _) fun h nx hnx => ?_
  try simp [-qt,-qd,-ql,rgs,hl]
  repeat' first | done | ((first | ((with_reducible show zU _ _ _ _ _ _);refine zB rfl fun _ => ?_) | ((with_reducible show zJ _ _ _ _ _ _ _);refine zC rfl omA omA ?_) | (with_reducible refine zF (i:=6) [(0,[],[]),(1,[],[]),(2,[],[]),(3,[],[]),(4,[],[]),(5,[],[]),(6,[],[]),(7,[],[]),(8,[],[]),(9,[],[])] (by kernel_rfl) ?_)) <;> simp [-qt,-qd,-ql,rgs,hl]) | ((first | (with_reducible refine zA ?_ ?_)) <;> intro qb <;> (have qp:=qb;try simp only [psq] at qp) <;> simp [-qt,-qd,-ql,rgs,hl,qb])
  refine zW [4,5,11,12,13,14,15,16,17,18,19,20,21,22,23,24,25,26] (ys.length) (fun (i:Nat) a=>[(5,.int .i64 i)]) (fun i_ a_ h_ _=>(fun i (_:Unit) _=>(xs.drop i == ys.drop i) = (xs == ys)) i_ a_ h_) (()) (by simp) ?_ zT (Nat.le_refl _) ?_
  ·simp
  ·intro i a tm h' n' hle hJ hE hn' next hnx
   try dsimp only at hJ
   have hK:KeepB nx h' h:=KeepB.sub hE zK (by omega)
   simp [-qt,-qd,-ql]
   try simp [-qt,-qd,-ql,rgs,hl,zD2]
   repeat' first | done | ((first | ((with_reducible show zU _ _ _ _ _ _);refine zB rfl fun _ => ?_) | ((with_reducible show zJ _ _ _ _ _ _ _);refine zC rfl omA omA ?_) | ((with_reducible show zG _ _ _ 142 _ _);refine zD (c_eqInsS) ?_) | (with_reducible refine zF (i:=6) [(0,[],[]),(1,[],[]),(2,[],[]),(3,[],[]),(4,[],[]),(5,[],[]),(6,[],[]),(7,[],[]),(8,[],[]),(9,[],[])] (by kernel_rfl) ?_)) <;> simp [-qt,-qd,-ql,rgs,hl,zD2]) | ((first | (with_reducible refine zA ?_ ?_)) <;> intro qb <;> (have qp:=qb;try simp only [psq] at qp) <;> simp [-qt,-qd,-ql,rgs,hl,zD2,qb])
   all_goals first
   | (have hlt:i < xs.length:=(by first | omega | (simp at *; omega))
      rw [zV hlt,zV (xs:=ys) (i:=i) (by omega),List.cons_beq_cons] at hJ
      first
      | (refine hnx.go () ?_ ?_ ?_ ?_ ?_ ?_;omega;(simp [zM hlt hlim]);(simp);exact zK;(first | omega | (simp;omega));(try dsimp only);clear hnx;first | (simp_all;done) | grind)
      | (refine ⟨?_,zK⟩;clear hnx;first | (simp_all;done) | grind)
      | (clear hnx;first | (simp_all;done) | grind))
   | (obtain rfl:i = xs.length:=(by first | omega | (simp at *; omega))
      rw [List.drop_eq_nil_of_le (Nat.le_refl _),List.drop_eq_nil_of_le (by omega)] at hJ
      refine ⟨?_,zK⟩;clear hnx;first | (simp_all;done) | grind)
 ·refine PC.o okC Tryz.func53 rfl (.bool _) fun h nx hnx => ?_
  try simp [-qt,-qd,-ql,rgs]
  repeat' first | done | ((first | ((with_reducible show zU _ _ _ _ _ _);refine zB rfl fun _ => ?_) | ((with_reducible show zJ _ _ _ _ _ _ _);refine zC rfl omA omA ?_) | (with_reducible refine zF (i:=6) [(0,[],[]),(1,[],[]),(2,[],[]),(3,[],[]),(4,[],[]),(5,[],[]),(6,[],[]),(7,[],[]),(8,[],[]),(9,[],[])] (by kernel_rfl) ?_)) <;> simp [-qt,-qd,-ql,rgs]) | ((first | (with_reducible refine zA ?_ ?_)) <;> intro qb <;> (have qp:=qb;try simp only [psq] at qp) <;> simp [-qt,-qd,-ql,rgs,qb])
  all_goals first | (exfalso;omega) | (symm;rw [beq_eq_false_iff_ne];intro e;exact hl (by rw [e])) | (intro e;exact hl (by rw [e])) | skip
theorem c_szInsSS {p r:Bool} {xs:List (List Inn)} {k:Int} (h0:0 ≤ k) (h1:k ≤ 1048576):PC ctx.P 23 [.view p 1 (xs.map (zD2 r)),.int .i64 k] (.int .i64 (szR (xs.length + zA9 (·.length) xs) k)):=by
 refine PC.lim (n:=xs.length) (x:=.view p 1 (xs.map (zD2 r))) (by simp) (.here (by simp)) ⟨_,Tryz.func23,by kernel_rfl,by kernel_rfl⟩ fun hlim => ?_
 have hlim':=hlim
 simp only [LIM] at hlim
 refine PC.o okC Tryz.func23 rfl (.int _ _) fun h nx hnx => ?_
 try simp [-qt,-qd,-ql,rgs,zH (x:=k - (xs.length:Int)) (by omega)]
 repeat' first | done | ((first | ((with_reducible show zU _ _ _ _ _ _);refine zB rfl fun _ => ?_) | ((with_reducible show zJ _ _ _ _ _ _ _);refine zC rfl omA omA ?_)) <;> simp [-qt,-qd,-ql,rgs,zH (x:=k - (xs.length:Int)) (by omega)]) | ((first | (with_reducible refine zA ?_ ?_)) <;> intro qb <;> (have qp:=qb;try simp only [psq] at qp) <;> simp [-qt,-qd,-ql,rgs,zH (x:=k - (xs.length:Int)) (by omega),qb])
 all_goals first | (clear hnx;rcases zA1 (xs.length + zA9 (·.length) xs) k with q | q <;> omega) | skip
 refine zW [1,4,5,12,13,14,15,16,17,18,19,20,21,22,23,24,25] (xs.length) (fun (i:Nat) a=>[(5,.int .i64 i),(1,.int .i64 a)]) (fun i_ a_ h_ _=>(fun i (a:Int) _=>0 ≤ a ∧ a ≤ 1048576 ∧ szR (zA9 (·.length) (xs.drop i)) a = szR (xs.length + zA9 (·.length) xs) k) i_ a_ h_) (k - xs.length) (by simp) ?_ zT (Nat.le_refl _) ?_
 ·rcases zA1 (xs.length + zA9 (·.length) xs) k with q | q <;> rcases zA1 (zA9 (·.length) xs) (k - xs.length) with q' | q' <;> simp <;> omega
 ·intro i a tm h' n' hle hJ hE hn' next hnx
  try dsimp only at hJ
  have hK:KeepB nx h' h:=KeepB.sub hE zK (by omega)
  simp [-qt,-qd,-ql]
  try simp [-qt,-qd,-ql,rgs,zD2]
  repeat' first | done | ((first | ((with_reducible show zU _ _ _ _ _ _);refine zB rfl fun _ => ?_) | ((with_reducible show zJ _ _ _ _ _ _ _);refine zC rfl omA omA ?_) | ((with_reducible show zG _ _ _ 97 _ _);refine zD (c_szInsS hJ.1 hJ.2.1) ?_)) <;> simp [-qt,-qd,-ql,rgs,zD2]) | ((first | (with_reducible refine zA ?_ ?_)) <;> intro qb <;> (have qp:=qb;try simp only [psq] at qp) <;> simp [-qt,-qd,-ql,rgs,zD2,qb])
  ·refine ⟨?_,zK⟩
   obtain ⟨j0,j1,j2⟩:=hJ
   rw [zV (by omega)] at j2
   rw [← j2]
   simp only [zA9]
   rcases zA1 ((gt xs (i:Int)).length) a with q | q <;> rcases zA1 ((gt xs (i:Int)).length + zA9 (·.length) (xs.drop (i + 1))) a with q' | q' <;> omega
  ·obtain ⟨j0,j1,j2⟩:=hJ
   rw [zV (by omega)] at j2
   refine hnx.go (szR (gt xs (i:Int)).length a) ?_ ?_ ?_ ?_ ?_ ?_
   ·omega
   ·simp [zM (show i < xs.length by omega) hlim']
   ·simp
   ·exact zK
   ·first | omega | (simp;omega)
   dsimp only
   rcases zA1 ((gt xs (i:Int)).length) a with q | q
   ·omega
   refine ⟨by omega,by omega,?_⟩
   rw [← j2]
   simp only [zA9]
   rcases zA1 (zA9 (·.length) (xs.drop (i + 1))) (szR ((gt xs (i:Int)).length) a) with q1 | q1 <;> rcases zA1 ((gt xs (i:Int)).length + zA9 (·.length) (xs.drop (i + 1))) a with q' | q' <;> omega
  ·refine ⟨?_,zK⟩
   obtain ⟨j0,j1,j2⟩:=hJ
   rw [List.drop_eq_nil_of_le (by omega)] at j2
   rw [← j2]
   simp only [zA9]
   rcases zA1 0 a with q | q <;> omega
theorem c_eqGroup {p q:Bool} {x y:Grp}:PC ctx.P 151 [.agg (vD p x),.agg (vD q y)] (.bool (x == y)):=by
 rw [grp_beq]
 refine PC.o okC Tryz.func151 rfl (.bool _) fun h nx hnx => ?_
 try simp [-qt,-qd,-ql,rgs,vD]
 repeat' first | done | ((first | ((with_reducible show zG _ _ _ 62 _ _);refine zD (zM6) ?_)) <;> simp [-qt,-qd,-ql,rgs,vD]) | ((first | (with_reducible refine zA ?_ ?_)) <;> intro qb <;> (have qp:=qb;try simp only [psq] at qp) <;> simp [-qt,-qd,-ql,rgs,vD,qb])
 all_goals (try clear hnx)
 all_goals first | (simp_all [];done) | (simp_all [];omega) | (rw [Bool.eq_iff_iff];simp_all [];done) | (rw [Bool.eq_iff_iff];simp_all [];omega) | omega | (simp only [];grind) | grind
theorem c_eqGroupS {p q p2 q2:Bool} {xs ys:List Grp}:PC ctx.P 60 [.view p 5 (xs.map (vD p2)),.view q 5 (ys.map (vD q2))] (.bool (xs == ys)):=by
 refine PC.lim (n:=xs.length) (x:=.view p 5 (xs.map (vD p2))) (by simp) (.here (by simp)) ⟨_,Tryz.func60,by kernel_rfl,by kernel_rfl⟩ fun hlim => ?_
 by_cases hl:xs.length = ys.length
 ·refine PC.o okC Tryz.func60 rfl (.bool _) fun h nx hnx => ?_
  try simp [-qt,-qd,-ql,rgs,hl]
  repeat' first | done | ((first | ((with_reducible show zU _ _ _ _ _ _);refine zB rfl fun _ => ?_) | ((with_reducible show zJ _ _ _ _ _ _ _);refine zC rfl omA omA ?_) | (with_reducible refine zF (i:=6) [(0,[],[]),(1,[],[]),(2,[],[]),(3,[],[]),(4,[],[]),(5,[],[]),(6,[],[]),(7,[],[]),(8,[],[]),(9,[],[])] (by kernel_rfl) ?_)) <;> simp [-qt,-qd,-ql,rgs,hl]) | ((first | (with_reducible refine zA ?_ ?_)) <;> intro qb <;> (have qp:=qb;try simp only [psq] at qp) <;> simp [-qt,-qd,-ql,rgs,hl,qb])
  refine zW [4,5,11,12,13,14,15,16,17,18,19,20,21,22,23,24,25,26] (ys.length) (fun (i:Nat) a=>[(5,.int .i64 i)]) (fun i_ a_ h_ _=>(fun i (_:Unit) _=>(xs.drop i == ys.drop i) = (xs == ys)) i_ a_ h_) (()) (by simp) ?_ zT (Nat.le_refl _) ?_
  ·simp
  ·intro i a tm h' n' hle hJ hE hn' next hnx
   try dsimp only at hJ
   have hK:KeepB nx h' h:=KeepB.sub hE zK (by omega)
   simp [-qt,-qd,-ql]
   try simp [-qt,-qd,-ql,rgs,hl]
   repeat' first | done | ((first | ((with_reducible show zU _ _ _ _ _ _);refine zB rfl fun _ => ?_) | ((with_reducible show zJ _ _ _ _ _ _ _);refine zC rfl omA omA ?_) | ((with_reducible show zG _ _ _ 151 _ _);refine zD (c_eqGroup) ?_) | (with_reducible refine zF (i:=6) [(0,[],[]),(1,[],[]),(2,[],[]),(3,[],[]),(4,[],[]),(5,[],[]),(6,[],[]),(7,[],[]),(8,[],[]),(9,[],[])] (by kernel_rfl) ?_)) <;> simp [-qt,-qd,-ql,rgs,hl]) | ((first | (with_reducible refine zA ?_ ?_)) <;> intro qb <;> (have qp:=qb;try simp only [psq] at qp) <;> simp [-qt,-qd,-ql,rgs,hl,qb])
   all_goals first
   | (have hlt:i < xs.length:=(by first | omega | (simp at *; omega))
      rw [zV hlt,zV (xs:=ys) (i:=i) (by omega),List.cons_beq_cons] at hJ
      first
      | (refine hnx.go () ?_ ?_ ?_ ?_ ?_ ?_;omega;(simp [zM hlt hlim]);(simp);exact zK;(first | omega | (simp;omega));(try dsimp only);clear hnx;first | (simp_all;done) | grind)
      | (refine ⟨?_,zK⟩;clear hnx;first | (simp_all;done) | grind)
      | (clear hnx;first | (simp_all;done) | grind))
   | (obtain rfl:i = xs.length:=(by first | omega | (simp at *; omega))
      rw [List.drop_eq_nil_of_le (Nat.le_refl _),List.drop_eq_nil_of_le (by omega)] at hJ
      refine ⟨?_,zK⟩;clear hnx;first | (simp_all;done) | grind)
 ·refine PC.o okC Tryz.func60 rfl (.bool _) fun h nx hnx => ?_
  try simp [-qt,-qd,-ql,rgs]
  repeat' first | done | ((first | ((with_reducible show zU _ _ _ _ _ _);refine zB rfl fun _ => ?_) | ((with_reducible show zJ _ _ _ _ _ _ _);refine zC rfl omA omA ?_) | (with_reducible refine zF (i:=6) [(0,[],[]),(1,[],[]),(2,[],[]),(3,[],[]),(4,[],[]),(5,[],[]),(6,[],[]),(7,[],[]),(8,[],[]),(9,[],[])] (by kernel_rfl) ?_)) <;> simp [-qt,-qd,-ql,rgs]) | ((first | (with_reducible refine zA ?_ ?_)) <;> intro qb <;> (have qp:=qb;try simp only [psq] at qp) <;> simp [-qt,-qd,-ql,rgs,qb])
  all_goals first | (exfalso;omega) | (symm;rw [beq_eq_false_iff_ne];intro e;exact hl (by rw [e])) | (intro e;exact hl (by rw [e])) | skip
theorem c_szGroup {p:Bool} {x:Grp} {k:Int} (h0:0 ≤ k) (h1:k ≤ 1048576):PC ctx.P 103 [.agg (vD p x),.int .i64 k] (.int .i64 (szR x.waits.length k)):=by
 refine PC.o okC Tryz.func103 rfl (.int _ _) fun h nx hnx => ?_
 try simp [-qt,-qd,-ql,rgs,vD]
 repeat' first | done | ((first | ((with_reducible show zG _ _ _ 32 _ _);refine zD (zN0 h0 h1) ?_)) <;> simp [-qt,-qd,-ql,rgs,vD]) | ((first | (with_reducible refine zA ?_ ?_)) <;> intro qb <;> (have qp:=qb;try simp only [psq] at qp) <;> simp [-qt,-qd,-ql,rgs,vD,qb])
 all_goals (clear hnx;rcases zA1 x.waits.length k with q | q <;> omega)
theorem c_szGroupS {p r:Bool} {xs:List Grp} {k:Int} (h0:0 ≤ k) (h1:k ≤ 1048576):PC ctx.P 30 [.view p 5 (xs.map (vD r)),.int .i64 k] (.int .i64 (szR (xs.length + zA9 (·.waits.length) xs) k)):=by
 refine PC.lim (n:=xs.length) (x:=.view p 5 (xs.map (vD r))) (by simp) (.here (by simp)) ⟨_,Tryz.func30,by kernel_rfl,by kernel_rfl⟩ fun hlim => ?_
 have hlim':=hlim
 simp only [LIM] at hlim
 refine PC.o okC Tryz.func30 rfl (.int _ _) fun h nx hnx => ?_
 try simp [-qt,-qd,-ql,rgs,zH (x:=k - (xs.length:Int)) (by omega)]
 repeat' first | done | ((first | ((with_reducible show zU _ _ _ _ _ _);refine zB rfl fun _ => ?_) | ((with_reducible show zJ _ _ _ _ _ _ _);refine zC rfl omA omA ?_)) <;> simp [-qt,-qd,-ql,rgs,zH (x:=k - (xs.length:Int)) (by omega)]) | ((first | (with_reducible refine zA ?_ ?_)) <;> intro qb <;> (have qp:=qb;try simp only [psq] at qp) <;> simp [-qt,-qd,-ql,rgs,zH (x:=k - (xs.length:Int)) (by omega),qb])
 all_goals first | (clear hnx;rcases zA1 (xs.length + zA9 (·.waits.length) xs) k with q | q <;> omega) | skip
 refine zW [1,4,5,12,13,14,15,16,17,18,19,20,21,22,23,24,25] (xs.length) (fun (i:Nat) a=>[(5,.int .i64 i),(1,.int .i64 a)]) (fun i_ a_ h_ _=>(fun i (a:Int) _=>0 ≤ a ∧ a ≤ 1048576 ∧ szR (zA9 (·.waits.length) (xs.drop i)) a = szR (xs.length + zA9 (·.waits.length) xs) k) i_ a_ h_) (k - xs.length) (by simp) ?_ zT (Nat.le_refl _) ?_
 ·rcases zA1 (xs.length + zA9 (·.waits.length) xs) k with q | q <;> rcases zA1 (zA9 (·.waits.length) xs) (k - xs.length) with q' | q' <;> simp <;> omega
 ·intro i a tm h' n' hle hJ hE hn' next hnx
  try dsimp only at hJ
  have hK:KeepB nx h' h:=KeepB.sub hE zK (by omega)
  simp [-qt,-qd,-ql]
  try simp [-qt,-qd,-ql,rgs]
  repeat' first | done | ((first | ((with_reducible show zU _ _ _ _ _ _);refine zB rfl fun _ => ?_) | ((with_reducible show zJ _ _ _ _ _ _ _);refine zC rfl omA omA ?_) | ((with_reducible show zG _ _ _ 103 _ _);refine zD (c_szGroup hJ.1 hJ.2.1) ?_)) <;> simp [-qt,-qd,-ql,rgs]) | ((first | (with_reducible refine zA ?_ ?_)) <;> intro qb <;> (have qp:=qb;try simp only [psq] at qp) <;> simp [-qt,-qd,-ql,rgs,qb])
  ·refine ⟨?_,zK⟩
   obtain ⟨j0,j1,j2⟩:=hJ
   rw [zV (by omega)] at j2
   rw [← j2]
   simp only [zA9]
   rcases zA1 ((gt xs (i:Int)).waits.length) a with q | q <;> rcases zA1 ((gt xs (i:Int)).waits.length + zA9 (·.waits.length) (xs.drop (i + 1))) a with q' | q' <;> omega
  ·obtain ⟨j0,j1,j2⟩:=hJ
   rw [zV (by omega)] at j2
   refine hnx.go (szR (gt xs (i:Int)).waits.length a) ?_ ?_ ?_ ?_ ?_ ?_
   ·omega
   ·simp [zM (show i < xs.length by omega) hlim']
   ·simp
   ·exact zK
   ·first | omega | (simp;omega)
   dsimp only
   rcases zA1 ((gt xs (i:Int)).waits.length) a with q | q
   ·omega
   refine ⟨by omega,by omega,?_⟩
   rw [← j2]
   simp only [zA9]
   rcases zA1 (zA9 (·.waits.length) (xs.drop (i + 1))) (szR ((gt xs (i:Int)).waits.length) a) with q1 | q1 <;> rcases zA1 ((gt xs (i:Int)).waits.length + zA9 (·.waits.length) (xs.drop (i + 1))) a with q' | q' <;> omega
  ·refine ⟨?_,zK⟩
   obtain ⟨j0,j1,j2⟩:=hJ
   rw [List.drop_eq_nil_of_le (by omega)] at j2
   rw [← j2]
   simp only [zA9]
   rcases zA1 0 a with q | q <;> omega
end Go.AE.Tryz
end
section
/- Contracts of the laws' helpers: worlds. -/
set_option maxRecDepth 8000
set_option maxHeartbeats 4000000
namespace Go.AE.Tryz
open Go.Proofs
open List renaming map_take → qt,map_drop → qd,map_tail → ql
theorem c_eqSlots {F1 F2:Nat → Bool} {x y:Slt}:PC ctx.P 148 [.agg (uJ F1 x),.agg (uJ F2 y)] (.bool (x == y)):=by
 rw [slt_beq]
 refine PC.o okC Tryz.func148 rfl (.bool _) fun h nx hnx => ?_
 try simp [-qt,-qd,-ql,rgs,uJ]
 repeat' first | done | ((first | ((with_reducible show zG _ _ _ 62 _ _);refine zD (zM6) ?_) | ((with_reducible show zG _ _ _ 145 _ _);refine zD (c_eqBoolS) ?_)) <;> simp [-qt,-qd,-ql,rgs,uJ]) | ((first | (with_reducible refine zA ?_ ?_)) <;> intro qb <;> (have qp:=qb;try simp only [psq] at qp) <;> simp [-qt,-qd,-ql,rgs,uJ,qb])
 all_goals (try clear hnx)
 all_goals first | (simp_all [];done) | (simp_all [];omega) | (rw [Bool.eq_iff_iff];simp_all [];done) | (rw [Bool.eq_iff_iff];simp_all [];omega) | omega | (simp only [];grind) | grind
theorem c_szSlots {F:Nat → Bool} {s:Slt} {k:Int} (h0:0 ≤ k) (h1:k ≤ 1048576):PC ctx.P 101 [.agg (uJ F s),.int .i64 k] (.int .i64 (szR (sltsz s) k)):=by
 rw [slt_szN s h0]
 refine PC.o okC Tryz.func101 rfl (.int _ _) fun h nx hnx => ?_
 try simp [-qt,-qd,-ql,rgs,uJ]
 repeat' first | done | ((first | ((with_reducible show zG _ _ _ 32 _ _);refine zD (zN0 (by first | assumption | omega) (by repeat (first | assumption | apply zF6))) ?_) | ((with_reducible show zG _ _ _ 98 _ _);refine zD (c_szBoolS (by first | assumption | omega) (by repeat (first | assumption | apply zF6))) ?_)) <;> simp [-qt,-qd,-ql,rgs,uJ]) | ((first | (with_reducible refine zA ?_ ?_)) <;> intro qb <;> (have qp:=qb;try simp only [psq] at qp) <;> simp [-qt,-qd,-ql,rgs,uJ,qb])
 all_goals (clear hnx;simp only [szN];repeat (first | rw [if_pos (by omega)] | rw [if_neg (by omega)]))
theorem c_eqSpread {F1 F2:Nat → Bool} {x y:Spr}:PC ctx.P 56 [.agg (zC2 F1 x),.agg (zC2 F2 y)] (.bool (x == y)):=by
 rw [spr_beq]
 refine PC.o okC Tryz.func56 rfl (.bool _) fun h nx hnx => ?_
 try simp [-qt,-qd,-ql,rgs,zC2]
 repeat' first | done | ((first | ((with_reducible show zG _ _ _ 145 _ _);refine zD (c_eqBoolS) ?_) | ((with_reducible show zG _ _ _ 62 _ _);refine zD (zM6) ?_)) <;> simp [-qt,-qd,-ql,rgs,zC2]) | ((first | (with_reducible refine zA ?_ ?_)) <;> intro qb <;> (have qp:=qb;try simp only [psq] at qp) <;> simp [-qt,-qd,-ql,rgs,zC2,qb])
 all_goals (try clear hnx)
 all_goals first | (simp_all [];done) | (simp_all [];omega) | (rw [Bool.eq_iff_iff];simp_all [];done) | (rw [Bool.eq_iff_iff];simp_all [];omega) | omega | (simp only [];grind) | grind
theorem c_szSpread {F:Nat → Bool} {s:Spr} {k:Int} (h0:0 ≤ k) (h1:k ≤ 1048576):PC ctx.P 26 [.agg (zC2 F s),.int .i64 k] (.int .i64 (szR (sprsz s) k)):=by
 rw [spr_szN s h0]
 refine PC.o okC Tryz.func26 rfl (.int _ _) fun h nx hnx => ?_
 try simp [-qt,-qd,-ql,rgs,zC2]
 repeat' first | done | ((first | ((with_reducible show zG _ _ _ 98 _ _);refine zD (c_szBoolS (by first | assumption | omega) (by repeat (first | assumption | apply zF6))) ?_) | ((with_reducible show zG _ _ _ 32 _ _);refine zD (zN0 (by first | assumption | omega) (by repeat (first | assumption | apply zF6))) ?_)) <;> simp [-qt,-qd,-ql,rgs,zC2]) | ((first | (with_reducible refine zA ?_ ?_)) <;> intro qb <;> (have qp:=qb;try simp only [psq] at qp) <;> simp [-qt,-qd,-ql,rgs,zC2,qb])
 all_goals (clear hnx;simp only [szN];repeat (first | rw [if_pos (by omega)] | rw [if_neg (by omega)]))
theorem c_eqTimers {F1 F2:Nat → Bool} {x y:Tms}:PC ctx.P 57 [.agg (zA8 F1 x),.agg (zA8 F2 y)] (.bool (x == y)):=by
 rw [tms_beq]
 refine PC.o okC Tryz.func57 rfl (.bool _) fun h nx hnx => ?_
 try simp [-qt,-qd,-ql,rgs,zA8]
 repeat' first | done | ((first | ((with_reducible show zG _ _ _ 146 _ _);refine zD (c_eqTwigS) ?_) | ((with_reducible show zG _ _ _ 147 _ _);refine zD (c_eqTimerS) ?_)) <;> simp [-qt,-qd,-ql,rgs,zA8]) | ((first | (with_reducible refine zA ?_ ?_)) <;> intro qb <;> (have qp:=qb;try simp only [psq] at qp) <;> simp [-qt,-qd,-ql,rgs,zA8,qb])
 all_goals (try clear hnx)
 all_goals first | (simp_all [];done) | (simp_all [];omega) | (rw [Bool.eq_iff_iff];simp_all [];done) | (rw [Bool.eq_iff_iff];simp_all [];omega) | omega | (simp only [];grind) | grind
theorem c_szTimers {F:Nat → Bool} {s:Tms} {k:Int} (h0:0 ≤ k) (h1:k ≤ 1048576):PC ctx.P 27 [.agg (zA8 F s),.int .i64 k] (.int .i64 (szR (tmssz s) k)):=by
 rw [tms_szN s h0]
 refine PC.o okC Tryz.func27 rfl (.int _ _) fun h nx hnx => ?_
 try simp [-qt,-qd,-ql,rgs,zA8]
 repeat' first | done | ((first | ((with_reducible show zG _ _ _ 99 _ _);refine zD (c_szTwigS (by first | assumption | omega) (by repeat (first | assumption | apply zF6))) ?_) | ((with_reducible show zG _ _ _ 100 _ _);refine zD (c_szTimerS (by first | assumption | omega) (by repeat (first | assumption | apply zF6))) ?_)) <;> simp [-qt,-qd,-ql,rgs,zA8]) | ((first | (with_reducible refine zA ?_ ?_)) <;> intro qb <;> (have qp:=qb;try simp only [psq] at qp) <;> simp [-qt,-qd,-ql,rgs,zA8,qb])
 all_goals (clear hnx;simp only [szN];repeat (first | rw [if_pos (by omega)] | rw [if_neg (by omega)]))
theorem c_eqAfters {F1 F2:Nat → Bool} {x y:Afs}:PC ctx.P 58 [.agg (zC3 F1 x),.agg (zC3 F2 y)] (.bool (x == y)):=by
 rw [afs_beq]
 refine PC.o okC Tryz.func58 rfl (.bool _) fun h nx hnx => ?_
 try simp [-qt,-qd,-ql,rgs,zC3,uJ]
 repeat' first | done | ((first | ((with_reducible show zG _ _ _ 148 _ _);refine zD (c_eqSlots (x:=x.slots) (y:=y.slots) (F1:=F1) (F2:=F2)) ?_) | ((with_reducible show zG _ _ _ 149 _ _);refine zD (c_eqAfterS) ?_)) <;> simp [-qt,-qd,-ql,rgs,zC3,uJ]) | ((first | (with_reducible refine zA ?_ ?_)) <;> intro qb <;> (have qp:=qb;try simp only [psq] at qp) <;> simp [-qt,-qd,-ql,rgs,zC3,uJ,qb])
 all_goals (try clear hnx)
 all_goals first | (simp_all [];done) | (simp_all [];omega) | (rw [Bool.eq_iff_iff];simp_all [];done) | (rw [Bool.eq_iff_iff];simp_all [];omega) | omega | (simp only [];grind) | grind
theorem c_szAfters {F:Nat → Bool} {s:Afs} {k:Int} (h0:0 ≤ k) (h1:k ≤ 1048576):PC ctx.P 28 [.agg (zC3 F s),.int .i64 k] (.int .i64 (szR (afssz s) k)):=by
 rw [afs_szN s h0]
 refine PC.o okC Tryz.func28 rfl (.int _ _) fun h nx hnx => ?_
 try simp [-qt,-qd,-ql,rgs,zC3,uJ]
 repeat' first | done | ((first | ((with_reducible show zG _ _ _ 101 _ _);refine zD (c_szSlots (s:=s.slots) (F:=F) (by first | assumption | omega) (by repeat (first | assumption | apply zF6))) ?_) | ((with_reducible show zG _ _ _ 102 _ _);refine zD (c_szAfterS (by first | assumption | omega) (by repeat (first | assumption | apply zF6))) ?_)) <;> simp [-qt,-qd,-ql,rgs,zC3,uJ]) | ((first | (with_reducible refine zA ?_ ?_)) <;> intro qb <;> (have qp:=qb;try simp only [psq] at qp) <;> simp [-qt,-qd,-ql,rgs,zC3,uJ,qb])
 all_goals (clear hnx;simp only [szN];repeat (first | rw [if_pos (by omega)] | rw [if_neg (by omega)]))
theorem zQ0 {F1 F2:Nat → Bool} {x y:Wld}:PC ctx.P 12 [.agg (wldV F1 x),.agg (wldV F2 y)] (.bool (x == y)):=by
 rw [wld_beq]
 refine PC.o okC Tryz.func12 rfl (.bool _) fun h nx hnx => ?_
 try simp [-qt,-qd,-ql,rgs,wldV,uJ,zC2,zA8,zC3]
 repeat' first | done | ((first | ((with_reducible show zG _ _ _ 53 _ _);refine zD (c_eqInsSS) ?_) | ((with_reducible show zG _ _ _ 54 _ _);refine zD (c_eqNodeS) ?_) | ((with_reducible show zG _ _ _ 55 _ _);refine zD (c_eqEventS) ?_) | ((with_reducible show zG _ _ _ 56 _ _);refine zD (c_eqSpread (x:=x.spread) (y:=y.spread) (F1:=F1) (F2:=F2)) ?_) | ((with_reducible show zG _ _ _ 57 _ _);refine zD (c_eqTimers (x:=x.timers) (y:=y.timers) (F1:=F1) (F2:=F2)) ?_) | ((with_reducible show zG _ _ _ 58 _ _);refine zD (c_eqAfters (x:=x.afters) (y:=y.afters) (F1:=F1) (F2:=F2)) ?_) | ((with_reducible show zG _ _ _ 59 _ _);refine zD (c_eqTaskS) ?_) | ((with_reducible show zG _ _ _ 60 _ _);refine zD (c_eqGroupS) ?_) | ((with_reducible show zG _ _ _ 61 _ _);refine zD (c_eqSightS) ?_) | ((with_reducible show zG _ _ _ 62 _ _);refine zD (zM6) ?_)) <;> simp [-qt,-qd,-ql,rgs,wldV,uJ,zC2,zA8,zC3]) | ((first | (with_reducible refine zA ?_ ?_)) <;> intro qb <;> (have qp:=qb;try simp only [psq] at qp) <;> simp [-qt,-qd,-ql,rgs,wldV,uJ,zC2,zA8,zC3,qb])
 all_goals (try clear hnx)
 all_goals first | (simp_all [];done) | (simp_all [];omega) | (rw [Bool.eq_iff_iff];simp_all [];done) | (rw [Bool.eq_iff_iff];simp_all [];omega) | omega | (simp only [];grind) | grind
theorem c_szWorld {F:Nat → Bool} {s:Wld} {k:Int} (h0:0 ≤ k) (h1:k ≤ 1048576):PC ctx.P 8 [.agg (wldV F s),.int .i64 k] (.int .i64 (szR (zC9 s) k)):=by
 rw [wld_szN s h0]
 refine PC.o okC Tryz.func8 rfl (.int _ _) fun h nx hnx => ?_
 try simp [-qt,-qd,-ql,rgs,wldV,uJ,zC2,zA8,zC3]
 repeat' first | done | ((first | ((with_reducible show zG _ _ _ 23 _ _);refine zD (c_szInsSS (by first | assumption | omega) (by repeat (first | assumption | apply zF6))) ?_) | ((with_reducible show zG _ _ _ 24 _ _);refine zD (c_szNodeS (by first | assumption | omega) (by repeat (first | assumption | apply zF6))) ?_) | ((with_reducible show zG _ _ _ 25 _ _);refine zD (c_szEventS (by first | assumption | omega) (by repeat (first | assumption | apply zF6))) ?_) | ((with_reducible show zG _ _ _ 26 _ _);refine zD (c_szSpread (s:=s.spread) (F:=F) (by first | assumption | omega) (by repeat (first | assumption | apply zF6))) ?_) | ((with_reducible show zG _ _ _ 27 _ _);refine zD (c_szTimers (s:=s.timers) (F:=F) (by first | assumption | omega) (by repeat (first | assumption | apply zF6))) ?_) | ((with_reducible show zG _ _ _ 28 _ _);refine zD (c_szAfters (s:=s.afters) (F:=F) (by first | assumption | omega) (by repeat (first | assumption | apply zF6))) ?_) | ((with_reducible show zG _ _ _ 29 _ _);refine zD (c_szTaskS (by first | assumption | omega) (by repeat (first | assumption | apply zF6))) ?_) | ((with_reducible show zG _ _ _ 30 _ _);refine zD (c_szGroupS (by first | assumption | omega) (by repeat (first | assumption | apply zF6))) ?_) | ((with_reducible show zG _ _ _ 31 _ _);refine zD (c_szSightS (by first | assumption | omega) (by repeat (first | assumption | apply zF6))) ?_) | ((with_reducible show zG _ _ _ 32 _ _);refine zD (zN0 (by first | assumption | omega) (by repeat (first | assumption | apply zF6))) ?_)) <;> simp [-qt,-qd,-ql,rgs,wldV,uJ,zC2,zA8,zC3]) | ((first | (with_reducible refine zA ?_ ?_)) <;> intro qb <;> (have qp:=qb;try simp only [psq] at qp) <;> simp [-qt,-qd,-ql,rgs,wldV,uJ,zC2,zA8,zC3,qb])
 all_goals (clear hnx;simp only [szN];repeat (first | rw [if_pos (by omega)] | rw [if_neg (by omega)]))
end Go.AE.Tryz
end
section
/- Contracts of the laws' copies as new rows. -/
set_option maxRecDepth 8000
set_option maxHeartbeats 2000000
namespace Go.AE.Tryz
open Go.Proofs
open List renaming map_take → qt,map_drop → qd,map_tail → ql
theorem f_toInsS {p:Bool} {xs:List Inn} (hm:xs.length ≤ zY):FC ctx.P 126 [.view p 3 (xs.map uC)] (.ref 0 3 0 (xs.map uC).length) [.row 3 (xs.map uC)]:=by
 have hlim:xs.length ≤ LIM:=by simp only [zY,LIM] at *; omega
 refine FC.o1 okC Tryz.func126 rfl (zS innC_fz xs) fun h nx hnx => ?_
 try simp [-qt,-qd,-ql,rgs,hm]
 repeat' first | done | ((first | ((with_reducible show zU _ _ _ _ _ _);refine zB rfl fun _ => ?_) | ((with_reducible show zJ _ _ _ _ _ _ _);refine zC rfl omA omA ?_)) <;> simp [-qt,-qd,-ql,rgs,hm]) | ((first | (with_reducible refine zA ?_ ?_)) <;> intro qb <;> (have qp:=qb;try simp only [psq] at qp) <;> simp [-qt,-qd,-ql,rgs,hm,qb])
 refine zW (h0:=h) (nx0:=nx) [4,8,9,10,11,12,13,14,15,16,17,18,19,20,21] (xs.length) (fun (i:Nat) a=>[(4,.int .i64 i)]) (fun i (_:Unit) h' n'=>h' (nx + 3) = some (.row 3 (zH4 uC [.int .i64 0,.int .i64 0,.int .i64 0] xs i)) ∧ nx + 4 ≤ n') (()) (by simp) ?_ zK (by omega) ?_
 ·simp [zI9]
 ·intro i a tm h' n' hle hJ hE hn' next hnx
  try dsimp only at hJ
  have hK:KeepB nx h' h:=KeepB.sub hE zK (by omega)
  simp [-qt,-qd,-ql]
  obtain ⟨hJ,hJn⟩:=hJ
  try simp [-qt,-qd,-ql,rgs,hJ]
  repeat' first | done | ((first | ((with_reducible show zU _ _ _ _ _ _);refine zB rfl fun _ => ?_) | ((with_reducible show zJ _ _ _ _ _ _ _);refine zC rfl omA omA ?_) | ((with_reducible show zG _ _ _ 212 _ _);refine zD (c_toIns) ?_) | ((with_reducible show zJ _ _ _ _ (.ref _ _ _ _) _ _);refine yY rfl omA omA ?_) | ((with_reducible show uF _ _ _ _ _ _ _ _ _);refine uV hJ (by first | rfl | (simp;done)) (by simp) (by rfl) (by rfl) (by rfl) (by omega) ?_)) <;> simp [-qt,-qd,-ql,rgs,hJ]) | ((first | (with_reducible refine zA ?_ ?_)) <;> intro qb <;> (have qp:=qb;try simp only [psq] at qp) <;> simp [-qt,-qd,-ql,rgs,hJ,qb])
  all_goals first
   | (have hlt:i < xs.length:=(by first | omega | (simp at *; omega));refine hnx.go () (by omega) (by simp [zM hlt hlim]) (by simp) zK (by first | omega | (simp;omega)) ?_;(try dsimp only);refine ⟨by simp,by first | omega | (simp;omega)⟩)
   | (rw [zF9 (by first | omega | (simp at *; omega))] at hJ;exact yU zK (by first | omega | (simp;omega)) (by omega) (by simp [hJ]) rfl (by simp))
theorem f_toNodeS {p:Bool} {xs:List Nod} (hm:xs.length ≤ zY):FC ctx.P 39 [.view p 5 (xs.map yC)] (.ref 0 5 0 (xs.map yC).length) [.row 5 (xs.map yC)]:=by
 have hlim:xs.length ≤ LIM:=by simp only [zY,LIM] at *; omega
 refine FC.o1 okC Tryz.func39 rfl (zS zI7 xs) fun h nx hnx => ?_
 try simp [-qt,-qd,-ql,rgs,hm]
 repeat' first | done | ((first | ((with_reducible show zU _ _ _ _ _ _);refine zB rfl fun _ => ?_) | ((with_reducible show zJ _ _ _ _ _ _ _);refine zC rfl omA omA ?_)) <;> simp [-qt,-qd,-ql,rgs,hm]) | ((first | (with_reducible refine zA ?_ ?_)) <;> intro qb <;> (have qp:=qb;try simp only [psq] at qp) <;> simp [-qt,-qd,-ql,rgs,hm,qb])
 refine zW (h0:=h) (nx0:=nx) [4,8,9,10,11,12,13,14,15,16,17,18,19,20,21] (xs.length) (fun (i:Nat) a=>[(4,.int .i64 i)]) (fun i (_:Unit) h' n'=>h' (nx + 3) = some (.row 5 (zH4 yC [.int .i64 0,.int .i64 0,.int .i64 0,.int .i64 0,.int .i64 0] xs i)) ∧ nx + 4 ≤ n') (()) (by simp) ?_ zK (by omega) ?_
 ·simp [zI9]
 ·intro i a tm h' n' hle hJ hE hn' next hnx
  try dsimp only at hJ
  have hK:KeepB nx h' h:=KeepB.sub hE zK (by omega)
  simp [-qt,-qd,-ql]
  obtain ⟨hJ,hJn⟩:=hJ
  try simp [-qt,-qd,-ql,rgs,hJ]
  repeat' first | done | ((first | ((with_reducible show zU _ _ _ _ _ _);refine zB rfl fun _ => ?_) | ((with_reducible show zJ _ _ _ _ _ _ _);refine zC rfl omA omA ?_) | ((with_reducible show zG _ _ _ 127 _ _);refine zD (c_toNode) ?_) | ((with_reducible show zJ _ _ _ _ (.ref _ _ _ _) _ _);refine yY rfl omA omA ?_) | ((with_reducible show uF _ _ _ _ _ _ _ _ _);refine uV hJ (by first | rfl | (simp;done)) (by simp) (by rfl) (by rfl) (by rfl) (by omega) ?_)) <;> simp [-qt,-qd,-ql,rgs,hJ]) | ((first | (with_reducible refine zA ?_ ?_)) <;> intro qb <;> (have qp:=qb;try simp only [psq] at qp) <;> simp [-qt,-qd,-ql,rgs,hJ,qb])
  all_goals first
   | (have hlt:i < xs.length:=(by first | omega | (simp at *; omega));refine hnx.go () (by omega) (by simp [zM hlt hlim]) (by simp) zK (by first | omega | (simp;omega)) ?_;(try dsimp only);refine ⟨by simp,by first | omega | (simp;omega)⟩)
   | (rw [zF9 (by first | omega | (simp at *; omega))] at hJ;exact yU zK (by first | omega | (simp;omega)) (by omega) (by simp [hJ]) rfl (by simp))
theorem f_toEventS {p:Bool} {xs:List Evt} (hm:xs.length ≤ zY):FC ctx.P 40 [.view p 4 (xs.map yS)] (.ref 0 4 0 (xs.map yS).length) [.row 4 (xs.map yS)]:=by
 have hlim:xs.length ≤ LIM:=by simp only [zY,LIM] at *; omega
 refine FC.o1 okC Tryz.func40 rfl (zS zO7 xs) fun h nx hnx => ?_
 try simp [-qt,-qd,-ql,rgs,hm]
 repeat' first | done | ((first | ((with_reducible show zU _ _ _ _ _ _);refine zB rfl fun _ => ?_) | ((with_reducible show zJ _ _ _ _ _ _ _);refine zC rfl omA omA ?_)) <;> simp [-qt,-qd,-ql,rgs,hm]) | ((first | (with_reducible refine zA ?_ ?_)) <;> intro qb <;> (have qp:=qb;try simp only [psq] at qp) <;> simp [-qt,-qd,-ql,rgs,hm,qb])
 refine zW (h0:=h) (nx0:=nx) [4,8,9,10,11,12,13,14,15,16,17,18,19,20,21] (xs.length) (fun (i:Nat) a=>[(4,.int .i64 i)]) (fun i (_:Unit) h' n'=>h' (nx + 3) = some (.row 4 (zH4 yS [.int .i64 0,.int .i64 0,.int .i64 0,.int .i64 0] xs i)) ∧ nx + 4 ≤ n') (()) (by simp) ?_ zK (by omega) ?_
 ·simp [zI9]
 ·intro i a tm h' n' hle hJ hE hn' next hnx
  try dsimp only at hJ
  have hK:KeepB nx h' h:=KeepB.sub hE zK (by omega)
  simp [-qt,-qd,-ql]
  obtain ⟨hJ,hJn⟩:=hJ
  try simp [-qt,-qd,-ql,rgs,hJ]
  repeat' first | done | ((first | ((with_reducible show zU _ _ _ _ _ _);refine zB rfl fun _ => ?_) | ((with_reducible show zJ _ _ _ _ _ _ _);refine zC rfl omA omA ?_) | ((with_reducible show zG _ _ _ 128 _ _);refine zD (c_toEvent) ?_) | ((with_reducible show zJ _ _ _ _ (.ref _ _ _ _) _ _);refine yY rfl omA omA ?_) | ((with_reducible show uF _ _ _ _ _ _ _ _ _);refine uV hJ (by first | rfl | (simp;done)) (by simp) (by rfl) (by rfl) (by rfl) (by omega) ?_)) <;> simp [-qt,-qd,-ql,rgs,hJ]) | ((first | (with_reducible refine zA ?_ ?_)) <;> intro qb <;> (have qp:=qb;try simp only [psq] at qp) <;> simp [-qt,-qd,-ql,rgs,hJ,qb])
  all_goals first
   | (have hlt:i < xs.length:=(by first | omega | (simp at *; omega));refine hnx.go () (by omega) (by simp [zM hlt hlim]) (by simp) zK (by first | omega | (simp;omega)) ?_;(try dsimp only);refine ⟨by simp,by first | omega | (simp;omega)⟩)
   | (rw [zF9 (by first | omega | (simp at *; omega))] at hJ;exact yU zK (by first | omega | (simp;omega)) (by omega) (by simp [hJ]) rfl (by simp))
theorem f_toTwigS {p:Bool} {xs:List Twg} (hm:xs.length ≤ zY):FC ctx.P 130 [.view p 3 (xs.map yQ)] (.ref 0 3 0 (xs.map yQ).length) [.row 3 (xs.map yQ)]:=by
 have hlim:xs.length ≤ LIM:=by simp only [zY,LIM] at *; omega
 refine FC.o1 okC Tryz.func130 rfl (zS vK xs) fun h nx hnx => ?_
 try simp [-qt,-qd,-ql,rgs,hm]
 repeat' first | done | ((first | ((with_reducible show zU _ _ _ _ _ _);refine zB rfl fun _ => ?_) | ((with_reducible show zJ _ _ _ _ _ _ _);refine zC rfl omA omA ?_)) <;> simp [-qt,-qd,-ql,rgs,hm]) | ((first | (with_reducible refine zA ?_ ?_)) <;> intro qb <;> (have qp:=qb;try simp only [psq] at qp) <;> simp [-qt,-qd,-ql,rgs,hm,qb])
 refine zW (h0:=h) (nx0:=nx) [4,8,9,10,11,12,13,14,15,16,17,18,19,20,21] (xs.length) (fun (i:Nat) a=>[(4,.int .i64 i)]) (fun i (_:Unit) h' n'=>h' (nx + 3) = some (.row 3 (zH4 yQ [.int .i64 0,.int .i64 0,.int .i64 0] xs i)) ∧ nx + 4 ≤ n') (()) (by simp) ?_ zK (by omega) ?_
 ·simp [zI9]
 ·intro i a tm h' n' hle hJ hE hn' next hnx
  try dsimp only at hJ
  have hK:KeepB nx h' h:=KeepB.sub hE zK (by omega)
  simp [-qt,-qd,-ql]
  obtain ⟨hJ,hJn⟩:=hJ
  try simp [-qt,-qd,-ql,rgs,hJ]
  repeat' first | done | ((first | ((with_reducible show zU _ _ _ _ _ _);refine zB rfl fun _ => ?_) | ((with_reducible show zJ _ _ _ _ _ _ _);refine zC rfl omA omA ?_) | ((with_reducible show zG _ _ _ 213 _ _);refine zD (c_toTwig) ?_) | ((with_reducible show zJ _ _ _ _ (.ref _ _ _ _) _ _);refine yY rfl omA omA ?_) | ((with_reducible show uF _ _ _ _ _ _ _ _ _);refine uV hJ (by first | rfl | (simp;done)) (by simp) (by rfl) (by rfl) (by rfl) (by omega) ?_)) <;> simp [-qt,-qd,-ql,rgs,hJ]) | ((first | (with_reducible refine zA ?_ ?_)) <;> intro qb <;> (have qp:=qb;try simp only [psq] at qp) <;> simp [-qt,-qd,-ql,rgs,hJ,qb])
  all_goals first
   | (have hlt:i < xs.length:=(by first | omega | (simp at *; omega));refine hnx.go () (by omega) (by simp [zM hlt hlim]) (by simp) zK (by first | omega | (simp;omega)) ?_;(try dsimp only);refine ⟨by simp,by first | omega | (simp;omega)⟩)
   | (rw [zF9 (by first | omega | (simp at *; omega))] at hJ;exact yU zK (by first | omega | (simp;omega)) (by omega) (by simp [hJ]) rfl (by simp))
theorem f_toTimerS {p:Bool} {xs:List Tmr} (hm:xs.length ≤ zY):FC ctx.P 131 [.view p 5 (xs.map vJ)] (.ref 0 5 0 (xs.map vJ).length) [.row 5 (xs.map vJ)]:=by
 have hlim:xs.length ≤ LIM:=by simp only [zY,LIM] at *; omega
 refine FC.o1 okC Tryz.func131 rfl (zS zC7 xs) fun h nx hnx => ?_
 try simp [-qt,-qd,-ql,rgs,hm]
 repeat' first | done | ((first | ((with_reducible show zU _ _ _ _ _ _);refine zB rfl fun _ => ?_) | ((with_reducible show zJ _ _ _ _ _ _ _);refine zC rfl omA omA ?_)) <;> simp [-qt,-qd,-ql,rgs,hm]) | ((first | (with_reducible refine zA ?_ ?_)) <;> intro qb <;> (have qp:=qb;try simp only [psq] at qp) <;> simp [-qt,-qd,-ql,rgs,hm,qb])
 refine zW (h0:=h) (nx0:=nx) [4,8,9,10,11,12,13,14,15,16,17,18,19,20,21] (xs.length) (fun (i:Nat) a=>[(4,.int .i64 i)]) (fun i (_:Unit) h' n'=>h' (nx + 3) = some (.row 5 (zH4 vJ [.int .i64 0,.int .i64 0,.int .i64 0,.int .i64 0,.bool false] xs i)) ∧ nx + 4 ≤ n') (()) (by simp) ?_ zK (by omega) ?_
 ·simp [zI9]
 ·intro i a tm h' n' hle hJ hE hn' next hnx
  try dsimp only at hJ
  have hK:KeepB nx h' h:=KeepB.sub hE zK (by omega)
  simp [-qt,-qd,-ql]
  obtain ⟨hJ,hJn⟩:=hJ
  try simp [-qt,-qd,-ql,rgs,hJ]
  repeat' first | done | ((first | ((with_reducible show zU _ _ _ _ _ _);refine zB rfl fun _ => ?_) | ((with_reducible show zJ _ _ _ _ _ _ _);refine zC rfl omA omA ?_) | ((with_reducible show zG _ _ _ 214 _ _);refine zD (c_toTimer) ?_) | ((with_reducible show zJ _ _ _ _ (.ref _ _ _ _) _ _);refine yY rfl omA omA ?_) | ((with_reducible show uF _ _ _ _ _ _ _ _ _);refine uV hJ (by first | rfl | (simp;done)) (by simp) (by rfl) (by rfl) (by rfl) (by omega) ?_)) <;> simp [-qt,-qd,-ql,rgs,hJ]) | ((first | (with_reducible refine zA ?_ ?_)) <;> intro qb <;> (have qp:=qb;try simp only [psq] at qp) <;> simp [-qt,-qd,-ql,rgs,hJ,qb])
  all_goals first
   | (have hlt:i < xs.length:=(by first | omega | (simp at *; omega));refine hnx.go () (by omega) (by simp [zM hlt hlim]) (by simp) zK (by first | omega | (simp;omega)) ?_;(try dsimp only);refine ⟨by simp,by first | omega | (simp;omega)⟩)
   | (rw [zF9 (by first | omega | (simp at *; omega))] at hJ;exact yU zK (by first | omega | (simp;omega)) (by omega) (by simp [hJ]) rfl (by simp))
theorem f_toAfterS {p:Bool} {xs:List Afr} (hm:xs.length ≤ zY):FC ctx.P 133 [.view p 5 (xs.map vO)] (.ref 0 5 0 (xs.map vO).length) [.row 5 (xs.map vO)]:=by
 have hlim:xs.length ≤ LIM:=by simp only [zY,LIM] at *; omega
 refine FC.o1 okC Tryz.func133 rfl (zS zC6 xs) fun h nx hnx => ?_
 try simp [-qt,-qd,-ql,rgs,hm]
 repeat' first | done | ((first | ((with_reducible show zU _ _ _ _ _ _);refine zB rfl fun _ => ?_) | ((with_reducible show zJ _ _ _ _ _ _ _);refine zC rfl omA omA ?_)) <;> simp [-qt,-qd,-ql,rgs,hm]) | ((first | (with_reducible refine zA ?_ ?_)) <;> intro qb <;> (have qp:=qb;try simp only [psq] at qp) <;> simp [-qt,-qd,-ql,rgs,hm,qb])
 refine zW (h0:=h) (nx0:=nx) [4,8,9,10,11,12,13,14,15,16,17,18,19,20,21] (xs.length) (fun (i:Nat) a=>[(4,.int .i64 i)]) (fun i (_:Unit) h' n'=>h' (nx + 3) = some (.row 5 (zH4 vO [.int .i64 0,.int .i64 0,.int .i64 0,.int .i64 0,.bool false] xs i)) ∧ nx + 4 ≤ n') (()) (by simp) ?_ zK (by omega) ?_
 ·simp [zI9]
 ·intro i a tm h' n' hle hJ hE hn' next hnx
  try dsimp only at hJ
  have hK:KeepB nx h' h:=KeepB.sub hE zK (by omega)
  simp [-qt,-qd,-ql]
  obtain ⟨hJ,hJn⟩:=hJ
  try simp [-qt,-qd,-ql,rgs,hJ]
  repeat' first | done | ((first | ((with_reducible show zU _ _ _ _ _ _);refine zB rfl fun _ => ?_) | ((with_reducible show zJ _ _ _ _ _ _ _);refine zC rfl omA omA ?_) | ((with_reducible show zG _ _ _ 215 _ _);refine zD (c_toAfter) ?_) | ((with_reducible show zJ _ _ _ _ (.ref _ _ _ _) _ _);refine yY rfl omA omA ?_) | ((with_reducible show uF _ _ _ _ _ _ _ _ _);refine uV hJ (by first | rfl | (simp;done)) (by simp) (by rfl) (by rfl) (by rfl) (by omega) ?_)) <;> simp [-qt,-qd,-ql,rgs,hJ]) | ((first | (with_reducible refine zA ?_ ?_)) <;> intro qb <;> (have qp:=qb;try simp only [psq] at qp) <;> simp [-qt,-qd,-ql,rgs,hJ,qb])
  all_goals first
   | (have hlt:i < xs.length:=(by first | omega | (simp at *; omega));refine hnx.go () (by omega) (by simp [zM hlt hlim]) (by simp) zK (by first | omega | (simp;omega)) ?_;(try dsimp only);refine ⟨by simp,by first | omega | (simp;omega)⟩)
   | (rw [zF9 (by first | omega | (simp at *; omega))] at hJ;exact yU zK (by first | omega | (simp;omega)) (by omega) (by simp [hJ]) rfl (by simp))
theorem f_toTaskS {p:Bool} {xs:List Tsk} (hm:xs.length ≤ zY):FC ctx.P 44 [.view p 9 (xs.map vU)] (.ref 0 9 0 (xs.map vU).length) [.row 9 (xs.map vU)]:=by
 have hlim:xs.length ≤ LIM:=by simp only [zY,LIM] at *; omega
 refine FC.o1 okC Tryz.func44 rfl (zS tskC_fz xs) fun h nx hnx => ?_
 try simp [-qt,-qd,-ql,rgs,hm]
 repeat' first | done | ((first | ((with_reducible show zU _ _ _ _ _ _);refine zB rfl fun _ => ?_) | ((with_reducible show zJ _ _ _ _ _ _ _);refine zC rfl omA omA ?_)) <;> simp [-qt,-qd,-ql,rgs,hm]) | ((first | (with_reducible refine zA ?_ ?_)) <;> intro qb <;> (have qp:=qb;try simp only [psq] at qp) <;> simp [-qt,-qd,-ql,rgs,hm,qb])
 refine zW (h0:=h) (nx0:=nx) [4,8,9,10,11,12,13,14,15,16,17,18,19,20,21] (xs.length) (fun (i:Nat) a=>[(4,.int .i64 i)]) (fun i (_:Unit) h' n'=>h' (nx + 3) = some (.row 9 (zH4 vU [.int .i64 0,.int .i64 0,.int .i64 0,.int .i64 0,.int .i64 0,.int .i64 0,.int .i64 0,.int .i64 0,.int .i64 0] xs i)) ∧ nx + 4 ≤ n') (()) (by simp) ?_ zK (by omega) ?_
 ·simp [zI9]
 ·intro i a tm h' n' hle hJ hE hn' next hnx
  try dsimp only at hJ
  have hK:KeepB nx h' h:=KeepB.sub hE zK (by omega)
  simp [-qt,-qd,-ql]
  obtain ⟨hJ,hJn⟩:=hJ
  try simp [-qt,-qd,-ql,rgs,hJ]
  repeat' first | done | ((first | ((with_reducible show zU _ _ _ _ _ _);refine zB rfl fun _ => ?_) | ((with_reducible show zJ _ _ _ _ _ _ _);refine zC rfl omA omA ?_) | ((with_reducible show zG _ _ _ 134 _ _);refine zD (c_toTask) ?_) | ((with_reducible show zJ _ _ _ _ (.ref _ _ _ _) _ _);refine yY rfl omA omA ?_) | ((with_reducible show uF _ _ _ _ _ _ _ _ _);refine uV hJ (by first | rfl | (simp;done)) (by simp) (by rfl) (by rfl) (by rfl) (by omega) ?_)) <;> simp [-qt,-qd,-ql,rgs,hJ]) | ((first | (with_reducible refine zA ?_ ?_)) <;> intro qb <;> (have qp:=qb;try simp only [psq] at qp) <;> simp [-qt,-qd,-ql,rgs,hJ,qb])
  all_goals first
   | (have hlt:i < xs.length:=(by first | omega | (simp at *; omega));refine hnx.go () (by omega) (by simp [zM hlt hlim]) (by simp) zK (by first | omega | (simp;omega)) ?_;(try dsimp only);refine ⟨by simp,by first | omega | (simp;omega)⟩)
   | (rw [zF9 (by first | omega | (simp at *; omega))] at hJ;exact yU zK (by first | omega | (simp;omega)) (by omega) (by simp [hJ]) rfl (by simp))
theorem f_toSightS {p:Bool} {xs:List Sgt} (hm:xs.length ≤ zY):FC ctx.P 46 [.view p 4 (xs.map zA6)] (.ref 0 4 0 (xs.map zA6).length) [.row 4 (xs.map zA6)]:=by
 have hlim:xs.length ≤ LIM:=by simp only [zY,LIM] at *; omega
 refine FC.o1 okC Tryz.func46 rfl (zS sgtC_fz xs) fun h nx hnx => ?_
 try simp [-qt,-qd,-ql,rgs,hm]
 repeat' first | done | ((first | ((with_reducible show zU _ _ _ _ _ _);refine zB rfl fun _ => ?_) | ((with_reducible show zJ _ _ _ _ _ _ _);refine zC rfl omA omA ?_)) <;> simp [-qt,-qd,-ql,rgs,hm]) | ((first | (with_reducible refine zA ?_ ?_)) <;> intro qb <;> (have qp:=qb;try simp only [psq] at qp) <;> simp [-qt,-qd,-ql,rgs,hm,qb])
 refine zW (h0:=h) (nx0:=nx) [4,8,9,10,11,12,13,14,15,16,17,18,19,20,21] (xs.length) (fun (i:Nat) a=>[(4,.int .i64 i)]) (fun i (_:Unit) h' n'=>h' (nx + 3) = some (.row 4 (zH4 zA6 [.int .i64 0,.int .i64 0,.int .i64 0,.int .i64 0] xs i)) ∧ nx + 4 ≤ n') (()) (by simp) ?_ zK (by omega) ?_
 ·simp [zI9]
 ·intro i a tm h' n' hle hJ hE hn' next hnx
  try dsimp only at hJ
  have hK:KeepB nx h' h:=KeepB.sub hE zK (by omega)
  simp [-qt,-qd,-ql]
  obtain ⟨hJ,hJn⟩:=hJ
  try simp [-qt,-qd,-ql,rgs,hJ]
  repeat' first | done | ((first | ((with_reducible show zU _ _ _ _ _ _);refine zB rfl fun _ => ?_) | ((with_reducible show zJ _ _ _ _ _ _ _);refine zC rfl omA omA ?_) | ((with_reducible show zG _ _ _ 136 _ _);refine zD (c_toSight) ?_) | ((with_reducible show zJ _ _ _ _ (.ref _ _ _ _) _ _);refine yY rfl omA omA ?_) | ((with_reducible show uF _ _ _ _ _ _ _ _ _);refine uV hJ (by first | rfl | (simp;done)) (by simp) (by rfl) (by rfl) (by rfl) (by omega) ?_)) <;> simp [-qt,-qd,-ql,rgs,hJ]) | ((first | (with_reducible refine zA ?_ ?_)) <;> intro qb <;> (have qp:=qb;try simp only [psq] at qp) <;> simp [-qt,-qd,-ql,rgs,hJ,qb])
  all_goals first
   | (have hlt:i < xs.length:=(by first | omega | (simp at *; omega));refine hnx.go () (by omega) (by simp [zM hlt hlim]) (by simp) zK (by first | omega | (simp;omega)) ?_;(try dsimp only);refine ⟨by simp,by first | omega | (simp;omega)⟩)
   | (rw [zF9 (by first | omega | (simp at *; omega))] at hJ;exact yU zK (by first | omega | (simp;omega)) (by omega) (by simp [hJ]) rfl (by simp))
theorem zN1 {p:Bool} {xs:List Int} (hm:xs.length ≤ zY):FC ctx.P 47 [.view p 1 (xs.map iv)] (.ref 0 1 0 (xs.map iv).length) [.row 1 (xs.map iv)]:=by
 have hlim:xs.length ≤ LIM:=by simp only [zY,LIM] at *; omega
 refine FC.o1 okC Tryz.func47 rfl (zS zE6 xs) fun h nx hnx => ?_
 try simp [-qt,-qd,-ql,rgs,hm]
 repeat' first | done | ((first | ((with_reducible show zU _ _ _ _ _ _);refine zB rfl fun _ => ?_) | ((with_reducible show zJ _ _ _ _ _ _ _);refine zC rfl omA omA ?_)) <;> simp [-qt,-qd,-ql,rgs,hm]) | ((first | (with_reducible refine zA ?_ ?_)) <;> intro qb <;> (have qp:=qb;try simp only [psq] at qp) <;> simp [-qt,-qd,-ql,rgs,hm,qb])
 refine zW (h0:=h) (nx0:=nx) [4,8,9,10,11,12,13,14,15,16,17,18,19,20] (xs.length) (fun (i:Nat) a=>[(4,.int .i64 i)]) (fun i (_:Unit) h' n'=>h' (nx + 3) = some (.row 1 (zH4 iv [.int .i64 0] xs i)) ∧ nx + 4 ≤ n') (()) (by simp) ?_ zK (by omega) ?_
 ·simp [zI9]
 ·intro i a tm h' n' hle hJ hE hn' next hnx
  try dsimp only at hJ
  have hK:KeepB nx h' h:=KeepB.sub hE zK (by omega)
  simp [-qt,-qd,-ql]
  obtain ⟨hJ,hJn⟩:=hJ
  try simp [-qt,-qd,-ql,rgs,hJ,iv]
  repeat' first | done | ((first | ((with_reducible show zU _ _ _ _ _ _);refine zB rfl fun _ => ?_) | ((with_reducible show zJ _ _ _ _ _ _ _);refine zC rfl omA omA ?_) | ((with_reducible show zJ _ _ _ _ (.ref _ _ _ _) _ _);refine yY rfl omA omA ?_) | ((with_reducible show uF _ _ _ _ _ _ _ _ _);refine uV hJ (by first | rfl | (simp;done)) (by simp) (by rfl) (by rfl) (by rfl) (by omega) ?_)) <;> simp [-qt,-qd,-ql,rgs,hJ,iv]) | ((first | (with_reducible refine zA ?_ ?_)) <;> intro qb <;> (have qp:=qb;try simp only [psq] at qp) <;> simp [-qt,-qd,-ql,rgs,hJ,iv,qb])
  all_goals first
   | (have hlt:i < xs.length:=(by first | omega | (simp at *; omega));refine hnx.go () (by omega) (by simp [zM hlt hlim]) (by simp) zK (by first | omega | (simp;omega)) ?_;(try dsimp only);refine ⟨by simp,by first | omega | (simp;omega)⟩)
   | (rw [zF9 (by first | omega | (simp at *; omega))] at hJ;exact yU zK (by first | omega | (simp;omega)) (by omega) (by simp [hJ]) rfl (by simp))
theorem f_toBoolS {p:Bool} {xs:List Bool} (hm:xs.length ≤ zY):FC ctx.P 129 [.view p 1 (xs.map bv)] (.ref 0 1 0 (xs.map bv).length) [.row 1 (xs.map bv)]:=by
 have hlim:xs.length ≤ LIM:=by simp only [zY,LIM] at *; omega
 refine FC.o1 okC Tryz.func129 rfl (zS zK1 xs) fun h nx hnx => ?_
 try simp [-qt,-qd,-ql,rgs,hm]
 repeat' first | done | ((first | ((with_reducible show zU _ _ _ _ _ _);refine zB rfl fun _ => ?_) | ((with_reducible show zJ _ _ _ _ _ _ _);refine zC rfl omA omA ?_)) <;> simp [-qt,-qd,-ql,rgs,hm]) | ((first | (with_reducible refine zA ?_ ?_)) <;> intro qb <;> (have qp:=qb;try simp only [psq] at qp) <;> simp [-qt,-qd,-ql,rgs,hm,qb])
 refine zW (h0:=h) (nx0:=nx) [4,8,9,10,11,12,13,14,15,16,17,18,19,20] (xs.length) (fun (i:Nat) a=>[(4,.int .i64 i)]) (fun i (_:Unit) h' n'=>h' (nx + 3) = some (.row 1 (zH4 bv [.bool false] xs i)) ∧ nx + 4 ≤ n') (()) (by simp) ?_ zK (by omega) ?_
 ·simp [zI9]
 ·intro i a tm h' n' hle hJ hE hn' next hnx
  try dsimp only at hJ
  have hK:KeepB nx h' h:=KeepB.sub hE zK (by omega)
  simp [-qt,-qd,-ql]
  obtain ⟨hJ,hJn⟩:=hJ
  try simp [-qt,-qd,-ql,rgs,hJ,bv]
  repeat' first | done | ((first | ((with_reducible show zU _ _ _ _ _ _);refine zB rfl fun _ => ?_) | ((with_reducible show zJ _ _ _ _ _ _ _);refine zC rfl omA omA ?_) | ((with_reducible show zJ _ _ _ _ (.ref _ _ _ _) _ _);refine yY rfl omA omA ?_) | ((with_reducible show uF _ _ _ _ _ _ _ _ _);refine uV hJ (by first | rfl | (simp;done)) (by simp) (by rfl) (by rfl) (by rfl) (by omega) ?_)) <;> simp [-qt,-qd,-ql,rgs,hJ,bv]) | ((first | (with_reducible refine zA ?_ ?_)) <;> intro qb <;> (have qp:=qb;try simp only [psq] at qp) <;> simp [-qt,-qd,-ql,rgs,hJ,bv,qb])
  all_goals first
   | (have hlt:i < xs.length:=(by first | omega | (simp at *; omega));refine hnx.go () (by omega) (by simp [zM hlt hlim]) (by simp) zK (by first | omega | (simp;omega)) ?_;(try dsimp only);refine ⟨by simp,by first | omega | (simp;omega)⟩)
   | (rw [zF9 (by first | omega | (simp at *; omega))] at hJ;exact yU zK (by first | omega | (simp;omega)) (by omega) (by simp [hJ]) rfl (by simp))
end Go.AE.Tryz
end
section
/- Contracts of the laws' copies of worlds as new rows. -/
set_option maxRecDepth 8000
set_option maxHeartbeats 2000000
namespace Go.AE.Tryz
open Go.Proofs
open List renaming map_take → qt,map_drop → qd,map_tail → ql
theorem w_toInsSS {p r:Bool} {xs:List (List Inn)} (hm:xs.length ≤ zY) (hi:∀ x ∈ xs,x.length ≤ zY):AC ctx.P 38 [.view p 1 (xs.map (zD2 r))] (fun _ _=>True)
 (fun h nx v h' nx'=>KeepB nx h' h ∧ ∃ id is,v = .ref id 1 0 xs.length ∧ h' id = some (.row 1 (List.zipWith prgR xs is)) ∧ is.length = xs.length ∧ nx ≤ id ∧ id < nx' ∧ Subs h' 3 (fun x:List Inn=>x.map uC) xs is (id + 1) nx'):=by
 have hlim:xs.length ≤ LIM:=by simp only [zY,LIM] at *; omega
 refine AC.o okC Tryz.func38 rfl fun h nx hfr hnx hpre => ?_
 try simp [-qt,-qd,-ql,rgs,hm]
 repeat' first | done | ((first | ((with_reducible show zU _ _ _ _ _ _);refine zB rfl fun _ => ?_) | ((with_reducible show zJ _ _ _ _ _ _ _);refine zC rfl omA omA ?_)) <;> simp [-qt,-qd,-ql,rgs,hm]) | ((first | (with_reducible refine zA ?_ ?_)) <;> intro qb <;> (have qp:=qb;try simp only [psq] at qp) <;> simp [-qt,-qd,-ql,rgs,hm,qb])
 refine zW (h0:=h) (nx0:=nx) [4,8,9,10,11,12,13,14,15,16,17,18,19,20,21] (xs.length) (fun (i:Nat) a=>[(4,.int .i64 i)]) (fun i (a:List Nat) h' n'=>a.length = i ∧ h' (nx + 3) = some (.row 1 (fillZ prgR [.nil] xs a)) ∧ Subs h' 3 (fun x:List Inn=>x.map uC) xs a (nx + 4) n' ∧ nx + 4 ≤ n') ([]) (by simp) ?_ zK (by omega) ?_
 ·simp [fillZ_0,Subs.nil]
 ·intro i a tm h' n' hle hJ hE hn' next hnx
  try dsimp only at hJ
  have hK:KeepB nx h' h:=KeepB.sub hE zK (by omega)
  simp [-qt,-qd,-ql]
  obtain ⟨hJa,hJ,hS,hJn⟩:=hJ
  have k1:∀ k,(nx + 3 = n' + k) = False:=fun k=>by simp only [eq_iff_iff,iff_false];omega
  subst hJa
  by_cases hlt:a.length < xs.length
  ·try simp [-qt,-qd,-ql,rgs,hJ,zD2,k1]
   repeat' first | done | ((first | ((with_reducible show zU _ _ _ _ _ _);refine zB rfl fun _ => ?_) | ((with_reducible show zJ _ _ _ _ _ _ _);refine zC rfl omA omA ?_) | ((with_reducible show zG _ _ _ 126 _ _);refine yD (f_toInsS (hi _ (zE3 (by omega) (by omega)))) ?_) | (((with_reducible show zJ _ _ _ _ (.ref _ _ _ _) _ _);refine yY rfl (by omega) (by omega) ?_)) | (((with_reducible show uF _ _ _ _ _ _ _ _ _);refine storeE_put (sz:=1) (xs:=fillZ prgR [.nil] xs a) (cells:=[.nil]) (by simp [hJ];omega) rfl rfl rfl (fillZ_get hlt) rfl ?_))) <;> simp [-qt,-qd,-ql,rgs,hJ,zD2,k1]) | ((first | (with_reducible refine zA ?_ ?_)) <;> intro qb <;> (have qp:=qb;try simp only [psq] at qp) <;> simp [-qt,-qd,-ql,rgs,hJ,zD2,k1,qb])
   all_goals first
   | omega
   | (refine hnx.go (a ++ [n' + 13]) (by omega) (by simp [zM hlt hlim]) (by simp) zK (by first | omega | (simp;omega)) ?_
      try dsimp only
      refine ⟨by simp,?_,hS.snoc (fun k hk => ?_) ?_ (by omega) (by omega) (by omega),by omega⟩
      ·simpa [prgR] using fillZ_set (f:=prgR) (z:=[.nil]) (xs:=xs) (is:=a) (by omega) (n' + 13)
      ·have:=hS.lo k hk
       have:=hS.hi k hk
       rw [zI _ _ _ _ (by omega),zI _ _ _ _ (by omega)]
      ·simp;omega)
  ·try simp [-qt,-qd,-ql,rgs,hJ,hlt]
   repeat' first | done | ((first | ((with_reducible show zU _ _ _ _ _ _);refine zB rfl fun _ => ?_) | ((with_reducible show zJ _ _ _ _ _ _ _);refine zC rfl omA omA ?_)) <;> simp [-qt,-qd,-ql,rgs,hJ,hlt]) | ((first | (with_reducible refine zA ?_ ?_)) <;> intro qb <;> (have qp:=qb;try simp only [psq] at qp) <;> simp [-qt,-qd,-ql,rgs,hJ,hlt,qb])
   exact ⟨zK,a,by rw [fillZ_end (by omega)],by omega,by omega,hS.keep (fun _ _=>rfl) (by omega) (by omega)⟩
theorem f_toGroup {r:Bool} {g:Grp} (hm:g.waits.length ≤ zY):FC ctx.P 135 [.agg (vD r g)] (.agg (uB g 0)) [.row 1 (g.waits.map iv)]:=by
 refine FC.o okC Tryz.func135 rfl ((by simp only [uB];exact .one _ (.agg _ fun c hc=>by simp at hc;rcases hc with rfl | rfl | rfl | rfl | rfl <;> first | exact .ref _ _ _ _ (by simp) | exact .fz _ (.int _ _)))) ((fun e he=>by simp at he;subst he;exact zS zE6 _)) fun h nx hnx => ?_
 try simp [-qt,-qd,-ql,rgs,vD]
 repeat' first | done | ((first | ((with_reducible show zG _ _ _ 47 _ _);refine yD (zN1 hm) ?_)) <;> simp [-qt,-qd,-ql,rgs,vD])
 exact finF1 (i:=nx + 20) zK (by omega) (by simp) (by simp [uB])
theorem w_toGroupS {p r:Bool} {xs:List Grp} (hm:xs.length ≤ zY) (hi:∀ x ∈ xs,x.waits.length ≤ zY):AC ctx.P 45 [.view p 5 (xs.map (vD r))] (fun _ _=>True)
 (fun h nx v h' nx'=>KeepB nx h' h ∧ ∃ id is,v = .ref id 5 0 xs.length ∧ h' id = some (.row 5 (List.zipWith uB xs is)) ∧ is.length = xs.length ∧ nx ≤ id ∧ id < nx' ∧ Subs h' 1 (fun x:Grp=>x.waits.map iv) xs is (id + 1) nx'):=by
 have hlim:xs.length ≤ LIM:=by simp only [zY,LIM] at *; omega
 refine AC.o okC Tryz.func45 rfl fun h nx hfr hnx hpre => ?_
 try simp [-qt,-qd,-ql,rgs,hm]
 repeat' first | done | ((first | ((with_reducible show zU _ _ _ _ _ _);refine zB rfl fun _ => ?_) | ((with_reducible show zJ _ _ _ _ _ _ _);refine zC rfl omA omA ?_)) <;> simp [-qt,-qd,-ql,rgs,hm]) | ((first | (with_reducible refine zA ?_ ?_)) <;> intro qb <;> (have qp:=qb;try simp only [psq] at qp) <;> simp [-qt,-qd,-ql,rgs,hm,qb])
 refine zW (h0:=h) (nx0:=nx) [4,8,9,10,11,12,13,14,15,16,17,18,19,20,21] (xs.length) (fun (i:Nat) a=>[(4,.int .i64 i)]) (fun i (a:List Nat) h' n'=>a.length = i ∧ h' (nx + 3) = some (.row 5 (fillZ uB [.int .i64 0,.int .i64 0,.int .i64 0,.nil,.int .i64 0] xs a)) ∧ Subs h' 1 (fun x:Grp=>x.waits.map iv) xs a (nx + 4) n' ∧ nx + 4 ≤ n') ([]) (by simp) ?_ zK (by omega) ?_
 ·simp [fillZ_0,Subs.nil]
 ·intro i a tm h' n' hle hJ hE hn' next hnx
  try dsimp only at hJ
  have hK:KeepB nx h' h:=KeepB.sub hE zK (by omega)
  simp [-qt,-qd,-ql]
  obtain ⟨hJa,hJ,hS,hJn⟩:=hJ
  subst hJa
  by_cases hlt:a.length < xs.length
  ·try simp [-qt,-qd,-ql,rgs,hJ,vD,uB]
   repeat' first | done | ((first | ((with_reducible show zU _ _ _ _ _ _);refine zB rfl fun _ => ?_) | ((with_reducible show zJ _ _ _ _ _ _ _);refine zC rfl omA omA ?_) | ((with_reducible show zG _ _ _ 135 _ _);refine yD (f_toGroup (hi _ (zE3 (by omega) (by omega)))) ?_) | (((with_reducible show zJ _ _ _ _ (.ref _ _ _ _) _ _);refine yY rfl (by omega) (by omega) ?_)) | (((with_reducible show uF _ _ _ _ _ _ _ _ _);refine storeE_put (sz:=5) (xs:=fillZ uB [.int .i64 0,.int .i64 0,.int .i64 0,.nil,.int .i64 0] xs a) (cells:=[.int .i64 0,.int .i64 0,.int .i64 0,.nil,.int .i64 0]) (by simp [hJ];omega) rfl rfl rfl (fillZ_get hlt) rfl ?_))) <;> simp [-qt,-qd,-ql,rgs,hJ,vD,uB]) | ((first | (with_reducible refine zA ?_ ?_)) <;> intro qb <;> (have qp:=qb;try simp only [psq] at qp) <;> simp [-qt,-qd,-ql,rgs,hJ,vD,uB,qb])
   all_goals first
   | omega
   | (refine hnx.go (a ++ [n' + 13]) (by omega) (by simp [zM hlt hlim]) (by simp) zK (by first | omega | (simp;omega)) ?_
      try dsimp only
      refine ⟨by simp,?_,hS.snoc (fun k hk => ?_) ?_ (by omega) (by omega) (by omega),by omega⟩
      ·simpa [uB] using fillZ_set (f:=uB) (z:=[.int .i64 0,.int .i64 0,.int .i64 0,.nil,.int .i64 0]) (xs:=xs) (is:=a) (by omega) (n' + 13)
      ·have:=hS.lo k hk
       have:=hS.hi k hk
       rw [zI _ _ _ _ (by omega),zI _ _ _ _ (by omega)]
      ·simp;omega)
  ·try simp [-qt,-qd,-ql,rgs,hJ,hlt]
   repeat' first | done | ((first | ((with_reducible show zU _ _ _ _ _ _);refine zB rfl fun _ => ?_) | ((with_reducible show zJ _ _ _ _ _ _ _);refine zC rfl omA omA ?_)) <;> simp [-qt,-qd,-ql,rgs,hJ,hlt]) | ((first | (with_reducible refine zA ?_ ?_)) <;> intro qb <;> (have qp:=qb;try simp only [psq] at qp) <;> simp [-qt,-qd,-ql,rgs,hJ,hlt,qb])
   exact ⟨zK,a,by rw [fillZ_end (by omega)],by omega,by omega,hS.keep (fun _ _=>rfl) (by omega) (by omega)⟩
theorem f_toSlots {F:Nat → Bool} {s:Slt} (h1:s.ages.length ≤ zY) (h2:s.used.length ≤ zY):FC ctx.P 132 [.agg (uJ F s)] (.agg [.ref 0 1 0 s.ages.length,.ref 1 1 0 s.used.length]) [.row 1 (s.ages.map iv),.row 1 (s.used.map bv)]:=by
 refine FC.o okC Tryz.func132 rfl ((.one _ (.agg _ fun c hc=>by simp at hc;rcases hc with rfl | rfl <;> first | exact .ref _ _ _ _ (by simp) | exact .fz _ (.int _ _)))) ((fun e he=>by simp at he;rcases he with rfl | rfl <;> first | exact zS zE6 _ | exact zS zK1 _ | exact zS vK _ | exact zS zC7 _ | exact zS zC6 _)) fun h nx hnx => ?_
 try simp [-qt,-qd,-ql,rgs,uJ]
 repeat' first | done | ((first | ((with_reducible show zG _ _ _ 47 _ _);refine yD (zN1 h1) ?_) | ((with_reducible show zG _ _ _ 129 _ _);refine yD (f_toBoolS h2) ?_)) <;> simp [-qt,-qd,-ql,rgs,uJ])
 exact finF2 (i:=nx + 8) (j:=nx + 14) zK (by omega) (by omega) (by omega) (by simp) (by simp) (by simp)
theorem f_toSpread {F:Nat → Bool} {s:Spr} (h1:s.told.length ≤ zY) (h2:s.work.length ≤ zY):FC ctx.P 41 [.agg (zC2 F s)] (.agg [.ref 0 1 0 s.told.length,.ref 1 1 0 s.work.length]) [.row 1 (s.told.map bv),.row 1 (s.work.map iv)]:=by
 refine FC.o okC Tryz.func41 rfl ((.one _ (.agg _ fun c hc=>by simp at hc;rcases hc with rfl | rfl <;> first | exact .ref _ _ _ _ (by simp) | exact .fz _ (.int _ _)))) ((fun e he=>by simp at he;rcases he with rfl | rfl <;> first | exact zS zE6 _ | exact zS zK1 _ | exact zS vK _ | exact zS zC7 _ | exact zS zC6 _)) fun h nx hnx => ?_
 try simp [-qt,-qd,-ql,rgs,zC2]
 repeat' first | done | ((first | ((with_reducible show zG _ _ _ 129 _ _);refine yD (f_toBoolS h1) ?_) | ((with_reducible show zG _ _ _ 47 _ _);refine yD (zN1 h2) ?_)) <;> simp [-qt,-qd,-ql,rgs,zC2])
 exact finF2 (i:=nx + 8) (j:=nx + 14) zK (by omega) (by omega) (by omega) (by simp) (by simp) (by simp)
theorem f_toTimers {F:Nat → Bool} {s:Tms} (h1:s.heap.length ≤ zY) (h2:s.list.length ≤ zY):FC ctx.P 42 [.agg (zA8 F s)] (.agg [.ref 0 3 0 s.heap.length,.ref 1 5 0 s.list.length,.int .i64 s.next]) [.row 3 (s.heap.map yQ),.row 5 (s.list.map vJ)]:=by
 refine FC.o okC Tryz.func42 rfl ((.one _ (.agg _ fun c hc=>by simp at hc;rcases hc with rfl | rfl | rfl <;> first | exact .ref _ _ _ _ (by simp) | exact .fz _ (.int _ _)))) ((fun e he=>by simp at he;rcases he with rfl | rfl <;> first | exact zS zE6 _ | exact zS zK1 _ | exact zS vK _ | exact zS zC7 _ | exact zS zC6 _)) fun h nx hnx => ?_
 try simp [-qt,-qd,-ql,rgs,zA8]
 repeat' first | done | ((first | ((with_reducible show zG _ _ _ 130 _ _);refine yD (f_toTwigS h1) ?_) | ((with_reducible show zG _ _ _ 131 _ _);refine yD (f_toTimerS h2) ?_)) <;> simp [-qt,-qd,-ql,rgs,zA8])
 exact finF2 (i:=nx + 8) (j:=nx + 14) zK (by omega) (by omega) (by omega) (by simp) (by simp) (by simp)
theorem f_toAfters {F:Nat → Bool} {s:Afs} (h1:s.slots.ages.length ≤ zY) (h2:s.slots.used.length ≤ zY) (h3:s.list.length ≤ zY):FC ctx.P 43 [.agg (zC3 F s)] (.agg [.ref 0 1 0 s.slots.ages.length,.ref 1 1 0 s.slots.used.length,.ref 2 5 0 s.list.length]) [.row 1 (s.slots.ages.map iv),.row 1 (s.slots.used.map bv),.row 5 (s.list.map vO)]:=by
 refine FC.o okC Tryz.func43 rfl ((.one _ (.agg _ fun c hc=>by simp at hc;rcases hc with rfl | rfl | rfl <;> first | exact .ref _ _ _ _ (by simp) | exact .fz _ (.int _ _)))) ((fun e he=>by simp at he;rcases he with rfl | rfl | rfl <;> first | exact zS zE6 _ | exact zS zK1 _ | exact zS vK _ | exact zS zC7 _ | exact zS zC6 _)) fun h nx hnx => ?_
 try simp [-qt,-qd,-ql,rgs,zC3,uJ]
 repeat' first | done | ((first | ((with_reducible show zG _ _ _ 132 _ _);refine yD (f_toSlots (s:=s.slots) (F:=F) h1 h2) ?_) | ((with_reducible show zG _ _ _ 133 _ _);refine yD (f_toAfterS h3) ?_)) <;> simp [-qt,-qd,-ql,rgs,zC3,uJ])
 exact finF3 (i:=nx + 8) (j:=nx + 9) (l:=nx + 15) zK (by omega) (by omega) (by omega) (by omega) (by omega) (by omega) (by simp) (by simp) (by simp) (by simp)
end Go.AE.Tryz
end
section
/- Contracts of the laws' copies of worlds as new rows. -/
set_option maxRecDepth 8000
set_option maxHeartbeats 2000000
namespace Go.AE.Tryz
open Go.Proofs
open List renaming map_take → qt,map_drop → qd,map_tail → ql
theorem w_toWorld {F:Nat → Bool} {s:Wld} (hs:zC9 s ≤ 1048576):AC ctx.P 10 [.agg (wldV F s)] (fun _ _=>True)
 (fun h nx v h' nx'=>KeepB nx h' h ∧ ∃ X,v = .agg (vN X s) ∧ WV h' X s ∧ ∀ id ∈ X.ids,nx ≤ id ∧ id < nx'):=by
 simp only [zC9,afssz,tmssz,sprsz,sltsz] at hs
 have hm:zY = 1099511627776:=rfl
 refine AC.o okC Tryz.func10 rfl fun h nx hfr hnx hpre => ?_
 try simp [-qt,-qd,-ql,rgs,wldV]
 refine yX (w_toInsSS (by omega) (fun x hx=>by have:=zD0 (·.length) hx;omega)) trivial ?_
 rintro r h1 n1 ⟨hK1,ip,isp,rfl,hrow1,hlen1,hlo1,hhi1,hS1⟩ hle1 hfr1
 dsimp only at hK1 hlo1 hle1
 have g0:=hK1 nx (by omega)
 have g1:=hK1 (nx + 1) (by omega)
 have g2:=hK1 (nx + 2) (by omega)
 simp at g0 g1 g2
 have k0:∀ k,(nx = n1 + k) = False:=fun k=>by simp only [eq_iff_iff,iff_false];omega
 have k2:∀ k,(nx + 2 = n1 + k) = False:=fun k=>by simp only [eq_iff_iff,iff_false];omega
 have k1:∀ k,(nx + 1 = n1 + k) = False:=fun k=>by simp only [eq_iff_iff,iff_false];omega
 have k5:(nx + 1 = n1) = False:=by simp only [eq_iff_iff,iff_false];omega
 have k3:(nx = n1) = False:=by simp only [eq_iff_iff,iff_false];omega
 have k4:(nx + 2 = n1) = False:=by simp only [eq_iff_iff,iff_false];omega
 try simp [-qt,-qd,-ql,rgs,wldV,g0,g2,k0,k2,k3,k4]
 repeat' first | done | ((first | ((with_reducible show zG _ _ _ 39 _ _);refine yD (f_toNodeS (by omega)) ?_) | ((with_reducible show zG _ _ _ 40 _ _);refine yD (f_toEventS (by omega)) ?_) | ((with_reducible show zG _ _ _ 41 _ _);refine yD (f_toSpread (s:=s.spread) (F:=F) (by omega) (by omega)) ?_) | ((with_reducible show zG _ _ _ 42 _ _);refine yD (f_toTimers (s:=s.timers) (F:=F) (by omega) (by omega)) ?_) | ((with_reducible show zG _ _ _ 43 _ _);refine yD (f_toAfters (s:=s.afters) (F:=F) (by omega) (by omega) (by omega)) ?_) | ((with_reducible show zG _ _ _ 44 _ _);refine yD (f_toTaskS (by omega)) ?_)) <;> simp [-qt,-qd,-ql,rgs,wldV,g0,g2,k0,k2,k3,k4])
 refine yX (w_toGroupS (by omega) (fun x hx=>by have:=zD0 (·.waits.length) hx;omega)) trivial ?_
 rintro r h2 n2 ⟨hK2,ig,isg,rfl,hrow2,hlen2,hlo2,hhi2,hS2⟩ hle2 hfr2
 dsimp only at hK2 hlo2 hle2
 have m0:=hK2 nx (by omega)
 have m1:=hK2 (nx + 1) (by omega)
 have m2:=hK2 (nx + 2) (by omega)
 simp [k0,k2,k3,k4,g0,g1,k1,k5] at m0 m1 m2
 have j0:∀ k,(nx = n2 + k) = False:=fun k=>by simp only [eq_iff_iff,iff_false];omega
 have j2:∀ k,(nx + 2 = n2 + k) = False:=fun k=>by simp only [eq_iff_iff,iff_false];omega
 have j1:∀ k,(nx + 1 = n2 + k) = False:=fun k=>by simp only [eq_iff_iff,iff_false];omega
 have j5:(nx + 1 = n2) = False:=by simp only [eq_iff_iff,iff_false];omega
 have j3:(nx = n2) = False:=by simp only [eq_iff_iff,iff_false];omega
 have j4:(nx + 2 = n2) = False:=by simp only [eq_iff_iff,iff_false];omega
 try simp [-qt,-qd,-ql,rgs,wldV,m0,m1,m2,j0,j1,j2,j3,j4,j5]
 repeat' first | done | ((first | ((with_reducible show zG _ _ _ 46 _ _);refine yD (f_toSightS (by omega)) ?_) | ((with_reducible show zG _ _ _ 47 _ _);refine yD (zN1 (by omega)) ?_)) <;> simp [-qt,-qd,-ql,rgs,wldV,m0,m1,m2,j0,j1,j2,j3,j4,j5])
 have hE:KeepB nx h1 h:=KeepB.sub hK1 zK (by omega)
 have hK:KeepB nx h2 h:=KeepB.sub hK2 zK (by omega)
 have up:∀ i,ip ≤ i → i < n1 → h2 i = h1 i:=fun i _ _=>by
  rw [hK2 i (by omega)]
  repeat rw [zI _ _ _ _ (by omega)]
 have q0:=up ip (by omega) hhi1
 rw [hrow1] at q0
 have q1:=hK2 (n1 + 5) (by omega)
 have q2:=hK2 (n1 + 11) (by omega)
 have q3:=hK2 (n1 + 17) (by omega)
 have q4:=hK2 (n1 + 18) (by omega)
 have q5:=hK2 (n1 + 24) (by omega)
 have q6:=hK2 (n1 + 25) (by omega)
 have q7:=hK2 (n1 + 31) (by omega)
 have q8:=hK2 (n1 + 32) (by omega)
 have q9:=hK2 (n1 + 33) (by omega)
 have q10:=hK2 (n1 + 39) (by omega)
 have l0:∀ k,(n1 + k = nx) = False:=fun k=>by simp only [eq_iff_iff,iff_false];omega
 have l2:∀ k,(n1 + k = nx + 2) = False:=fun k=>by simp only [eq_iff_iff,iff_false];omega
 simp [l0,l2] at q1 q2 q3 q4 q5 q6 q7 q8 q9 q10
 refine ⟨zK,WI.ofL [ip,n1 + 5,n1 + 11,n1 + 17,n1 + 18,n1 + 24,n1 + 25,n1 + 31,n1 + 32,n1 + 33,n1 + 39,ig,n2 + 5,n2 + 11,n2 + 17] isp isg,rfl,WV.ofL (a:=ip + 1) (b:=n1) (c:=ig + 1) (d:=n2) ?_ ?_ ?_ ?_ ?_ ?_ ?_ ?_ ?_ ?_ ?_ ?_ ?_ ?_ ?_ hlen1 hlen2 ?_ ?_ (by omega) ?_ ?_,?_⟩
 ·repeat rw [zI _ _ _ _ (by omega)]
  exact q0
 ·repeat rw [zI _ _ _ _ (by omega)]
  exact q1
 ·repeat rw [zI _ _ _ _ (by omega)]
  exact q2
 ·repeat rw [zI _ _ _ _ (by omega)]
  exact q3
 ·repeat rw [zI _ _ _ _ (by omega)]
  exact q4
 ·repeat rw [zI _ _ _ _ (by omega)]
  exact q5
 ·repeat rw [zI _ _ _ _ (by omega)]
  exact q6
 ·repeat rw [zI _ _ _ _ (by omega)]
  exact q7
 ·repeat rw [zI _ _ _ _ (by omega)]
  exact q8
 ·repeat rw [zI _ _ _ _ (by omega)]
  exact q9
 ·repeat rw [zI _ _ _ _ (by omega)]
  exact q10
 ·repeat rw [zI _ _ _ _ (by omega)]
  exact hrow2
 ·repeat rw [zI _ _ _ _ (by omega)]
  rw [zL]
 ·repeat rw [zI _ _ _ _ (by omega)]
  rw [zL]
 ·repeat rw [zI _ _ _ _ (by omega)]
  rw [zL]
 ·refine hS1.keep (fun i hi => ?_) (Nat.le_refl _) (Nat.le_refl _)
  have:=hS1.lo i hi
  have:=hS1.hi i hi
  repeat rw [zI _ _ _ _ (by omega)]
  exact up i (by omega) (by omega)
 ·refine hS2.keep (fun i hi => ?_) (Nat.le_refl _) (Nat.le_refl _)
  have:=hS2.lo i hi
  have:=hS2.hi i hi
  repeat rw [zI _ _ _ _ (by omega)]
 ·simp only [List.nodup_cons,List.mem_cons,List.not_mem_nil,or_false,not_or,List.nodup_nil,and_true,not_false_eq_true]
  omega
 ·intro t ht
  simp only [List.mem_cons,List.not_mem_nil,or_false] at ht
  omega
 ·intro id hid
  rw [WI.ofL_ids] at hid
  rcases List.mem_append.1 hid with hid | hid
  ·simp only [List.mem_cons,List.not_mem_nil,or_false] at hid
   omega
  ·rcases List.mem_append.1 hid with hid | hid
   ·have:=hS1.lo id hid
    have:=hS1.hi id hid
    omega
   ·have:=hS2.lo id hid
    have:=hS2.hi id hid
    omega
end Go.AE.Tryz
end
section
/- Contracts of the laws' marks. -/
set_option maxRecDepth 8000
set_option maxHeartbeats 4000000
namespace Go.AE.Tryz
open Go.Proofs
open List renaming map_take → qt,map_drop → qd,map_tail → ql
def mkNod (k:Int):Nod:=⟨k,k + 1,k + 2,k + 3,k + 4⟩
theorem m_markNodeS {id:Nat} {xs:List Nod} {k:Int} (hlim:xs.length ≤ LIM) (h0:0 ≤ k) (h1:k ≤ 1152921504606846976):AC ctx.P 64 [.ref id 5 0 xs.length,.int .i64 k] (fun h _=>h id = some (.row 5 (xs.map yC)))
 (fun h nx v h' nx'=>v = .int .i64 (k + (5:Nat) * xs.length) ∧ h' id = some (.row 5 ((yN mkNod 5 k xs.length).map yC)) ∧ ∀ j,j < nx → j ≠ id → h' j = h j):=by
 refine AC.o okC Tryz.func64 rfl fun h nx hfr hnx hpre => ?_
 have hid:id < nx:=hnx id (by rw [hpre];simp)
 try simp [-qt,-qd,-ql,rgs]
 repeat' first | done | ((first | ((with_reducible show zU _ _ _ _ _ _);refine zB rfl fun _ => ?_) | ((with_reducible show zJ _ _ _ _ _ _ _);refine zC rfl omA omA ?_)) <;> simp [-qt,-qd,-ql,rgs]) | ((first | (with_reducible refine zA ?_ ?_)) <;> intro qb <;> (have qp:=qb;try simp only [psq] at qp) <;> simp [-qt,-qd,-ql,rgs,qb])
 refine zW (h0:=h) (nx0:=0) [1,5,6,7,8,9,10,11,12,13,14,15,16,17,18,19,20,21,22,23,24,25,26,27,28,29,30,31,32,33,34,35,36,37,38,39,40,41,42,43,44,45,46] (xs.length) (fun (i:Nat) a=>[(5,.int .i64 i),(1,.int .i64 (k + (5:Nat) * i))]) (fun i (_:Unit) h' n'=>h' id = some (.row 5 (uW yC mkNod 5 k xs i)) ∧ (∀ j,j < nx → j ≠ id → h' j = h j) ∧ nx ≤ n') (()) (by simp) ?_ (fun j hj=>absurd hj (by omega)) (Nat.zero_le _) ?_
 ·simp [zI8,hpre]
 ·intro i a tm h' n' hle hJ hE hn' next hnx
  try dsimp only at hJ
  simp [-qt,-qd,-ql]
  obtain ⟨hJ,hJf,hJn⟩:=hJ
  by_cases hlt:i < xs.length
  ·have hl:(uW yC mkNod 5 k xs i).length = xs.length:=zC5 (by omega)
   rw [zC0 hlt] at hJ
   have hlim0:=hlim
   simp only [LIM] at hlim
   try simp [-qt,-qd,-ql,rgs,hJ,yC,zH (x:=k + 5 * (i:Int) + 1) (by omega),zH (x:=k + 5 * (i:Int) + 1 + 1) (by omega),zH (x:=k + 5 * (i:Int) + 1 + 1 + 1) (by omega),zH (x:=k + 5 * (i:Int) + 1 + 1 + 1 + 1) (by omega),zH (x:=k + 5 * (i:Int) + 1 + 1 + 1 + 1 + 1) (by omega)]
   repeat' first | done | ((first | ((with_reducible show zU _ _ _ _ _ _);refine zB rfl fun _ => ?_) | ((with_reducible show zJ _ _ _ _ _ _ _);refine zC rfl omA omA ?_) | (((with_reducible show zJ _ _ _ _ (.ref _ _ _ _) _ _);refine yY rfl (by omega) (by omega) ?_)) | (((with_reducible show uF _ _ _ _ _ _ _ _ _);refine uP (xs:=uW yC mkNod 5 k xs i) (by first | exact hJ | exact zL _ _ _) (by omega) rfl rfl (by omega) ?_))) <;> simp [-qt,-qd,-ql,rgs,hJ,yC,zH (x:=k + 5 * (i:Int) + 1) (by omega),zH (x:=k + 5 * (i:Int) + 1 + 1) (by omega),zH (x:=k + 5 * (i:Int) + 1 + 1 + 1) (by omega),zH (x:=k + 5 * (i:Int) + 1 + 1 + 1 + 1) (by omega),zH (x:=k + 5 * (i:Int) + 1 + 1 + 1 + 1 + 1) (by omega)]) | ((first | (with_reducible refine zA ?_ ?_)) <;> intro qb <;> (have qp:=qb;try simp only [psq] at qp) <;> simp [-qt,-qd,-ql,rgs,hJ,yC,zH (x:=k + 5 * (i:Int) + 1) (by omega),zH (x:=k + 5 * (i:Int) + 1 + 1) (by omega),zH (x:=k + 5 * (i:Int) + 1 + 1 + 1) (by omega),zH (x:=k + 5 * (i:Int) + 1 + 1 + 1 + 1) (by omega),zH (x:=k + 5 * (i:Int) + 1 + 1 + 1 + 1 + 1) (by omega),qb])
   all_goals first
   | omega
   | (refine hnx.go () ?_ ?_ ?_ ?_ ?_ ?_
      ·omega
      ·simp [zM hlt hlim0] <;> omega
      ·simp
      ·exact fun j hj=>absurd hj (by omega)
      ·exact Nat.zero_le _
      try dsimp only
      refine ⟨?_,fun j hj hji => ?_,by omega⟩
      ·rw [← zD4 hlt]
       simp [mkNod,yC,Int.add_assoc]
      ·simp [hji]
       exact hJf j hj hji)
  ·try simp [-qt,-qd,-ql,rgs,hJ,hlt]
   repeat' first | done | ((first | ((with_reducible show zU _ _ _ _ _ _);refine zB rfl fun _ => ?_) | ((with_reducible show zJ _ _ _ _ _ _ _);refine zC rfl omA omA ?_)) <;> simp [-qt,-qd,-ql,rgs,hJ,hlt]) | ((first | (with_reducible refine zA ?_ ?_)) <;> intro qb <;> (have qp:=qb;try simp only [psq] at qp) <;> simp [-qt,-qd,-ql,rgs,hJ,hlt,qb])
   refine ⟨by omega,?_,hJf⟩
   have:i = xs.length:=by omega
   subst this
   exact zD8 (Nat.le_refl _)
def mkEvt (k:Int):Evt:=⟨k,k + 1,k + 2,k + 3⟩
theorem m_markEventS {id:Nat} {xs:List Evt} {k:Int} (hlim:xs.length ≤ LIM) (h0:0 ≤ k) (h1:k ≤ 1152921504606846976):AC ctx.P 65 [.ref id 4 0 xs.length,.int .i64 k] (fun h _=>h id = some (.row 4 (xs.map yS)))
 (fun h nx v h' nx'=>v = .int .i64 (k + (4:Nat) * xs.length) ∧ h' id = some (.row 4 ((yN mkEvt 4 k xs.length).map yS)) ∧ ∀ j,j < nx → j ≠ id → h' j = h j):=by
 refine AC.o okC Tryz.func65 rfl fun h nx hfr hnx hpre => ?_
 have hid:id < nx:=hnx id (by rw [hpre];simp)
 try simp [-qt,-qd,-ql,rgs]
 repeat' first | done | ((first | ((with_reducible show zU _ _ _ _ _ _);refine zB rfl fun _ => ?_) | ((with_reducible show zJ _ _ _ _ _ _ _);refine zC rfl omA omA ?_)) <;> simp [-qt,-qd,-ql,rgs]) | ((first | (with_reducible refine zA ?_ ?_)) <;> intro qb <;> (have qp:=qb;try simp only [psq] at qp) <;> simp [-qt,-qd,-ql,rgs,qb])
 refine zW (h0:=h) (nx0:=0) [1,5,6,7,8,9,10,11,12,13,14,15,16,17,18,19,20,21,22,23,24,25,26,27,28,29,30,31,32,33,34,35,36,37,38,39] (xs.length) (fun (i:Nat) a=>[(5,.int .i64 i),(1,.int .i64 (k + (4:Nat) * i))]) (fun i (_:Unit) h' n'=>h' id = some (.row 4 (uW yS mkEvt 4 k xs i)) ∧ (∀ j,j < nx → j ≠ id → h' j = h j) ∧ nx ≤ n') (()) (by simp) ?_ (fun j hj=>absurd hj (by omega)) (Nat.zero_le _) ?_
 ·simp [zI8,hpre]
 ·intro i a tm h' n' hle hJ hE hn' next hnx
  try dsimp only at hJ
  simp [-qt,-qd,-ql]
  obtain ⟨hJ,hJf,hJn⟩:=hJ
  by_cases hlt:i < xs.length
  ·have hl:(uW yS mkEvt 4 k xs i).length = xs.length:=zC5 (by omega)
   rw [zC0 hlt] at hJ
   have hlim0:=hlim
   simp only [LIM] at hlim
   try simp [-qt,-qd,-ql,rgs,hJ,yS,zH (x:=k + 4 * (i:Int) + 1) (by omega),zH (x:=k + 4 * (i:Int) + 1 + 1) (by omega),zH (x:=k + 4 * (i:Int) + 1 + 1 + 1) (by omega),zH (x:=k + 4 * (i:Int) + 1 + 1 + 1 + 1) (by omega)]
   repeat' first | done | ((first | ((with_reducible show zU _ _ _ _ _ _);refine zB rfl fun _ => ?_) | ((with_reducible show zJ _ _ _ _ _ _ _);refine zC rfl omA omA ?_) | (((with_reducible show zJ _ _ _ _ (.ref _ _ _ _) _ _);refine yY rfl (by omega) (by omega) ?_)) | (((with_reducible show uF _ _ _ _ _ _ _ _ _);refine uP (xs:=uW yS mkEvt 4 k xs i) (by first | exact hJ | exact zL _ _ _) (by omega) rfl rfl (by omega) ?_))) <;> simp [-qt,-qd,-ql,rgs,hJ,yS,zH (x:=k + 4 * (i:Int) + 1) (by omega),zH (x:=k + 4 * (i:Int) + 1 + 1) (by omega),zH (x:=k + 4 * (i:Int) + 1 + 1 + 1) (by omega),zH (x:=k + 4 * (i:Int) + 1 + 1 + 1 + 1) (by omega)]) | ((first | (with_reducible refine zA ?_ ?_)) <;> intro qb <;> (have qp:=qb;try simp only [psq] at qp) <;> simp [-qt,-qd,-ql,rgs,hJ,yS,zH (x:=k + 4 * (i:Int) + 1) (by omega),zH (x:=k + 4 * (i:Int) + 1 + 1) (by omega),zH (x:=k + 4 * (i:Int) + 1 + 1 + 1) (by omega),zH (x:=k + 4 * (i:Int) + 1 + 1 + 1 + 1) (by omega),qb])
   all_goals first
   | omega
   | (refine hnx.go () ?_ ?_ ?_ ?_ ?_ ?_
      ·omega
      ·simp [zM hlt hlim0] <;> omega
      ·simp
      ·exact fun j hj=>absurd hj (by omega)
      ·exact Nat.zero_le _
      try dsimp only
      refine ⟨?_,fun j hj hji => ?_,by omega⟩
      ·rw [← zD4 hlt]
       simp [mkEvt,yS,Int.add_assoc]
      ·simp [hji]
       exact hJf j hj hji)
  ·try simp [-qt,-qd,-ql,rgs,hJ,hlt]
   repeat' first | done | ((first | ((with_reducible show zU _ _ _ _ _ _);refine zB rfl fun _ => ?_) | ((with_reducible show zJ _ _ _ _ _ _ _);refine zC rfl omA omA ?_)) <;> simp [-qt,-qd,-ql,rgs,hJ,hlt]) | ((first | (with_reducible refine zA ?_ ?_)) <;> intro qb <;> (have qp:=qb;try simp only [psq] at qp) <;> simp [-qt,-qd,-ql,rgs,hJ,hlt,qb])
   refine ⟨by omega,?_,hJf⟩
   have:i = xs.length:=by omega
   subst this
   exact zD8 (Nat.le_refl _)
def zL9 (k:Int):Twg:=⟨k,k + 1,k + 2⟩
theorem m_markTwigS {id:Nat} {xs:List Twg} {k:Int} (hlim:xs.length ≤ LIM) (h0:0 ≤ k) (h1:k ≤ 1152921504606846976):AC ctx.P 155 [.ref id 3 0 xs.length,.int .i64 k] (fun h _=>h id = some (.row 3 (xs.map yQ)))
 (fun h nx v h' nx'=>v = .int .i64 (k + (3:Nat) * xs.length) ∧ h' id = some (.row 3 ((yN zL9 3 k xs.length).map yQ)) ∧ ∀ j,j < nx → j ≠ id → h' j = h j):=by
 refine AC.o okC Tryz.func155 rfl fun h nx hfr hnx hpre => ?_
 have hid:id < nx:=hnx id (by rw [hpre];simp)
 try simp [-qt,-qd,-ql,rgs]
 repeat' first | done | ((first | ((with_reducible show zU _ _ _ _ _ _);refine zB rfl fun _ => ?_) | ((with_reducible show zJ _ _ _ _ _ _ _);refine zC rfl omA omA ?_)) <;> simp [-qt,-qd,-ql,rgs]) | ((first | (with_reducible refine zA ?_ ?_)) <;> intro qb <;> (have qp:=qb;try simp only [psq] at qp) <;> simp [-qt,-qd,-ql,rgs,qb])
 refine zW (h0:=h) (nx0:=0) [1,5,6,7,8,9,10,11,12,13,14,15,16,17,18,19,20,21,22,23,24,25,26,27,28,29,30,31,32] (xs.length) (fun (i:Nat) a=>[(5,.int .i64 i),(1,.int .i64 (k + (3:Nat) * i))]) (fun i (_:Unit) h' n'=>h' id = some (.row 3 (uW yQ zL9 3 k xs i)) ∧ (∀ j,j < nx → j ≠ id → h' j = h j) ∧ nx ≤ n') (()) (by simp) ?_ (fun j hj=>absurd hj (by omega)) (Nat.zero_le _) ?_
 ·simp [zI8,hpre]
 ·intro i a tm h' n' hle hJ hE hn' next hnx
  try dsimp only at hJ
  simp [-qt,-qd,-ql]
  obtain ⟨hJ,hJf,hJn⟩:=hJ
  by_cases hlt:i < xs.length
  ·have hl:(uW yQ zL9 3 k xs i).length = xs.length:=zC5 (by omega)
   rw [zC0 hlt] at hJ
   have hlim0:=hlim
   simp only [LIM] at hlim
   try simp [-qt,-qd,-ql,rgs,hJ,yQ,zH (x:=k + 3 * (i:Int) + 1) (by omega),zH (x:=k + 3 * (i:Int) + 1 + 1) (by omega),zH (x:=k + 3 * (i:Int) + 1 + 1 + 1) (by omega)]
   repeat' first | done | ((first | ((with_reducible show zU _ _ _ _ _ _);refine zB rfl fun _ => ?_) | ((with_reducible show zJ _ _ _ _ _ _ _);refine zC rfl omA omA ?_) | (((with_reducible show zJ _ _ _ _ (.ref _ _ _ _) _ _);refine yY rfl (by omega) (by omega) ?_)) | (((with_reducible show uF _ _ _ _ _ _ _ _ _);refine uP (xs:=uW yQ zL9 3 k xs i) (by first | exact hJ | exact zL _ _ _) (by omega) rfl rfl (by omega) ?_))) <;> simp [-qt,-qd,-ql,rgs,hJ,yQ,zH (x:=k + 3 * (i:Int) + 1) (by omega),zH (x:=k + 3 * (i:Int) + 1 + 1) (by omega),zH (x:=k + 3 * (i:Int) + 1 + 1 + 1) (by omega)]) | ((first | (with_reducible refine zA ?_ ?_)) <;> intro qb <;> (have qp:=qb;try simp only [psq] at qp) <;> simp [-qt,-qd,-ql,rgs,hJ,yQ,zH (x:=k + 3 * (i:Int) + 1) (by omega),zH (x:=k + 3 * (i:Int) + 1 + 1) (by omega),zH (x:=k + 3 * (i:Int) + 1 + 1 + 1) (by omega),qb])
   all_goals first
   | omega
   | (refine hnx.go () ?_ ?_ ?_ ?_ ?_ ?_
      ·omega
      ·simp [zM hlt hlim0] <;> omega
      ·simp
      ·exact fun j hj=>absurd hj (by omega)
      ·exact Nat.zero_le _
      try dsimp only
      refine ⟨?_,fun j hj hji => ?_,by omega⟩
      ·rw [← zD4 hlt]
       simp [zL9,yQ,Int.add_assoc]
      ·simp [hji]
       exact hJf j hj hji)
  ·try simp [-qt,-qd,-ql,rgs,hJ,hlt]
   repeat' first | done | ((first | ((with_reducible show zU _ _ _ _ _ _);refine zB rfl fun _ => ?_) | ((with_reducible show zJ _ _ _ _ _ _ _);refine zC rfl omA omA ?_)) <;> simp [-qt,-qd,-ql,rgs,hJ,hlt]) | ((first | (with_reducible refine zA ?_ ?_)) <;> intro qb <;> (have qp:=qb;try simp only [psq] at qp) <;> simp [-qt,-qd,-ql,rgs,hJ,hlt,qb])
   refine ⟨by omega,?_,hJf⟩
   have:i = xs.length:=by omega
   subst this
   exact zD8 (Nat.le_refl _)
def zL6 (k:Int):Tmr:=⟨k,k + 1,k + 2,k + 3,(k + 4).tmod 3 == 0⟩
theorem m_markTimerS {id:Nat} {xs:List Tmr} {k:Int} (hlim:xs.length ≤ LIM) (h0:0 ≤ k) (h1:k ≤ 1152921504606846976):AC ctx.P 156 [.ref id 5 0 xs.length,.int .i64 k] (fun h _=>h id = some (.row 5 (xs.map vJ)))
 (fun h nx v h' nx'=>v = .int .i64 (k + (5:Nat) * xs.length) ∧ h' id = some (.row 5 ((yN zL6 5 k xs.length).map vJ)) ∧ ∀ j,j < nx → j ≠ id → h' j = h j):=by
 refine AC.o okC Tryz.func156 rfl fun h nx hfr hnx hpre => ?_
 have hid:id < nx:=hnx id (by rw [hpre];simp)
 try simp [-qt,-qd,-ql,rgs]
 repeat' first | done | ((first | ((with_reducible show zU _ _ _ _ _ _);refine zB rfl fun _ => ?_) | ((with_reducible show zJ _ _ _ _ _ _ _);refine zC rfl omA omA ?_)) <;> simp [-qt,-qd,-ql,rgs]) | ((first | (with_reducible refine zA ?_ ?_)) <;> intro qb <;> (have qp:=qb;try simp only [psq] at qp) <;> simp [-qt,-qd,-ql,rgs,qb])
 refine zW (h0:=h) (nx0:=0) [1,5,6,7,8,9,10,11,12,13,14,15,16,17,18,19,20,21,22,23,24,25,26,27,28,29,30,31,32,33,34,35,36,37,38,39,40,41,42,43,44,45,46,47,48] (xs.length) (fun (i:Nat) a=>[(5,.int .i64 i),(1,.int .i64 (k + (5:Nat) * i))]) (fun i (_:Unit) h' n'=>h' id = some (.row 5 (uW vJ zL6 5 k xs i)) ∧ (∀ j,j < nx → j ≠ id → h' j = h j) ∧ nx ≤ n') (()) (by simp) ?_ (fun j hj=>absurd hj (by omega)) (Nat.zero_le _) ?_
 ·simp [zI8,hpre]
 ·intro i a tm h' n' hle hJ hE hn' next hnx
  try dsimp only at hJ
  simp [-qt,-qd,-ql]
  obtain ⟨hJ,hJf,hJn⟩:=hJ
  by_cases hlt:i < xs.length
  ·have hl:(uW vJ zL6 5 k xs i).length = xs.length:=zC5 (by omega)
   rw [zC0 hlt] at hJ
   have hlim0:=hlim
   simp only [LIM] at hlim
   try simp [-qt,-qd,-ql,rgs,hJ,vJ,zH (x:=k + 5 * (i:Int) + 1) (by omega),zH (x:=k + 5 * (i:Int) + 1 + 1) (by omega),zH (x:=k + 5 * (i:Int) + 1 + 1 + 1) (by omega),zH (x:=k + 5 * (i:Int) + 1 + 1 + 1 + 1) (by omega),zH (x:=k + 5 * (i:Int) + 1 + 1 + 1 + 1 + 1) (by omega)]
   repeat' first | done | ((first | ((with_reducible show zU _ _ _ _ _ _);refine zB rfl fun _ => ?_) | ((with_reducible show zJ _ _ _ _ _ _ _);refine zC rfl omA omA ?_) | (((with_reducible show zJ _ _ _ _ (.ref _ _ _ _) _ _);refine yY rfl (by omega) (by omega) ?_)) | (((with_reducible show uF _ _ _ _ _ _ _ _ _);refine uP (xs:=uW vJ zL6 5 k xs i) (by first | exact hJ | exact zL _ _ _) (by omega) rfl rfl (by omega) ?_))) <;> simp [-qt,-qd,-ql,rgs,hJ,vJ,zH (x:=k + 5 * (i:Int) + 1) (by omega),zH (x:=k + 5 * (i:Int) + 1 + 1) (by omega),zH (x:=k + 5 * (i:Int) + 1 + 1 + 1) (by omega),zH (x:=k + 5 * (i:Int) + 1 + 1 + 1 + 1) (by omega),zH (x:=k + 5 * (i:Int) + 1 + 1 + 1 + 1 + 1) (by omega)]) | ((first | (with_reducible refine zA ?_ ?_)) <;> intro qb <;> (have qp:=qb;try simp only [psq] at qp) <;> simp [-qt,-qd,-ql,rgs,hJ,vJ,zH (x:=k + 5 * (i:Int) + 1) (by omega),zH (x:=k + 5 * (i:Int) + 1 + 1) (by omega),zH (x:=k + 5 * (i:Int) + 1 + 1 + 1) (by omega),zH (x:=k + 5 * (i:Int) + 1 + 1 + 1 + 1) (by omega),zH (x:=k + 5 * (i:Int) + 1 + 1 + 1 + 1 + 1) (by omega),qb])
   all_goals first
   | omega
   | (refine hnx.go () ?_ ?_ ?_ ?_ ?_ ?_
      ·omega
      ·simp [zM hlt hlim0] <;> omega
      ·simp
      ·exact fun j hj=>absurd hj (by omega)
      ·exact Nat.zero_le _
      try dsimp only
      refine ⟨?_,fun j hj hji => ?_,by omega⟩
      ·rw [← zD4 hlt]
       simp [zL6,vJ,Int.add_assoc]
      ·simp [hji]
       exact hJf j hj hji)
  ·try simp [-qt,-qd,-ql,rgs,hJ,hlt]
   repeat' first | done | ((first | ((with_reducible show zU _ _ _ _ _ _);refine zB rfl fun _ => ?_) | ((with_reducible show zJ _ _ _ _ _ _ _);refine zC rfl omA omA ?_)) <;> simp [-qt,-qd,-ql,rgs,hJ,hlt]) | ((first | (with_reducible refine zA ?_ ?_)) <;> intro qb <;> (have qp:=qb;try simp only [psq] at qp) <;> simp [-qt,-qd,-ql,rgs,hJ,hlt,qb])
   refine ⟨by omega,?_,hJf⟩
   have:i = xs.length:=by omega
   subst this
   exact zD8 (Nat.le_refl _)
def zL7 (k:Int):Afr:=⟨⟨k,k + 1⟩,k + 2,k + 3,(k + 4).tmod 3 == 0⟩
theorem m_markAfterS {id:Nat} {xs:List Afr} {k:Int} (hlim:xs.length ≤ LIM) (h0:0 ≤ k) (h1:k ≤ 1152921504606846976):AC ctx.P 158 [.ref id 5 0 xs.length,.int .i64 k] (fun h _=>h id = some (.row 5 (xs.map vO)))
 (fun h nx v h' nx'=>v = .int .i64 (k + (5:Nat) * xs.length) ∧ h' id = some (.row 5 ((yN zL7 5 k xs.length).map vO)) ∧ ∀ j,j < nx → j ≠ id → h' j = h j):=by
 refine AC.o okC Tryz.func158 rfl fun h nx hfr hnx hpre => ?_
 have hid:id < nx:=hnx id (by rw [hpre];simp)
 try simp [-qt,-qd,-ql,rgs]
 repeat' first | done | ((first | ((with_reducible show zU _ _ _ _ _ _);refine zB rfl fun _ => ?_) | ((with_reducible show zJ _ _ _ _ _ _ _);refine zC rfl omA omA ?_)) <;> simp [-qt,-qd,-ql,rgs]) | ((first | (with_reducible refine zA ?_ ?_)) <;> intro qb <;> (have qp:=qb;try simp only [psq] at qp) <;> simp [-qt,-qd,-ql,rgs,qb])
 refine zW (h0:=h) (nx0:=0) [1,5,6,7,8,9,10,11,12,13,14,15,16,17,18,19,20,21,22,23,24,25,26,27,28,29,30,31,32,33,34,35,36,37,38,39,40,41,42,43,44,45,46,47,48,49,50] (xs.length) (fun (i:Nat) a=>[(5,.int .i64 i),(1,.int .i64 (k + (5:Nat) * i))]) (fun i (_:Unit) h' n'=>h' id = some (.row 5 (uW vO zL7 5 k xs i)) ∧ (∀ j,j < nx → j ≠ id → h' j = h j) ∧ nx ≤ n') (()) (by simp) ?_ (fun j hj=>absurd hj (by omega)) (Nat.zero_le _) ?_
 ·simp [zI8,hpre]
 ·intro i a tm h' n' hle hJ hE hn' next hnx
  try dsimp only at hJ
  simp [-qt,-qd,-ql]
  obtain ⟨hJ,hJf,hJn⟩:=hJ
  by_cases hlt:i < xs.length
  ·have hl:(uW vO zL7 5 k xs i).length = xs.length:=zC5 (by omega)
   rw [zC0 hlt] at hJ
   have hlim0:=hlim
   simp only [LIM] at hlim
   try simp [-qt,-qd,-ql,rgs,hJ,vO,zH (x:=k + 5 * (i:Int) + 1) (by omega),zH (x:=k + 5 * (i:Int) + 1 + 1) (by omega),zH (x:=k + 5 * (i:Int) + 1 + 1 + 1) (by omega),zH (x:=k + 5 * (i:Int) + 1 + 1 + 1 + 1) (by omega),zH (x:=k + 5 * (i:Int) + 1 + 1 + 1 + 1 + 1) (by omega)]
   repeat' first | done | ((first | ((with_reducible show zU _ _ _ _ _ _);refine zB rfl fun _ => ?_) | ((with_reducible show zJ _ _ _ _ _ _ _);refine zC rfl omA omA ?_) | (((with_reducible show zJ _ _ _ _ (.ref _ _ _ _) _ _);refine yY rfl (by omega) (by omega) ?_)) | (((with_reducible show uF _ _ _ _ _ _ _ _ _);refine uP (xs:=uW vO zL7 5 k xs i) (by first | exact hJ | exact zL _ _ _) (by omega) rfl rfl (by omega) ?_))) <;> simp [-qt,-qd,-ql,rgs,hJ,vO,zH (x:=k + 5 * (i:Int) + 1) (by omega),zH (x:=k + 5 * (i:Int) + 1 + 1) (by omega),zH (x:=k + 5 * (i:Int) + 1 + 1 + 1) (by omega),zH (x:=k + 5 * (i:Int) + 1 + 1 + 1 + 1) (by omega),zH (x:=k + 5 * (i:Int) + 1 + 1 + 1 + 1 + 1) (by omega)]) | ((first | (with_reducible refine zA ?_ ?_)) <;> intro qb <;> (have qp:=qb;try simp only [psq] at qp) <;> simp [-qt,-qd,-ql,rgs,hJ,vO,zH (x:=k + 5 * (i:Int) + 1) (by omega),zH (x:=k + 5 * (i:Int) + 1 + 1) (by omega),zH (x:=k + 5 * (i:Int) + 1 + 1 + 1) (by omega),zH (x:=k + 5 * (i:Int) + 1 + 1 + 1 + 1) (by omega),zH (x:=k + 5 * (i:Int) + 1 + 1 + 1 + 1 + 1) (by omega),qb])
   all_goals first
   | omega
   | (refine hnx.go () ?_ ?_ ?_ ?_ ?_ ?_
      ·omega
      ·simp [zM hlt hlim0] <;> omega
      ·simp
      ·exact fun j hj=>absurd hj (by omega)
      ·exact Nat.zero_le _
      try dsimp only
      refine ⟨?_,fun j hj hji => ?_,by omega⟩
      ·rw [← zD4 hlt]
       simp [zL7,vO,Int.add_assoc]
      ·simp [hji]
       exact hJf j hj hji)
  ·try simp [-qt,-qd,-ql,rgs,hJ,hlt]
   repeat' first | done | ((first | ((with_reducible show zU _ _ _ _ _ _);refine zB rfl fun _ => ?_) | ((with_reducible show zJ _ _ _ _ _ _ _);refine zC rfl omA omA ?_)) <;> simp [-qt,-qd,-ql,rgs,hJ,hlt]) | ((first | (with_reducible refine zA ?_ ?_)) <;> intro qb <;> (have qp:=qb;try simp only [psq] at qp) <;> simp [-qt,-qd,-ql,rgs,hJ,hlt,qb])
   refine ⟨by omega,?_,hJf⟩
   have:i = xs.length:=by omega
   subst this
   exact zD8 (Nat.le_refl _)
def mkTsk (k:Int):Tsk:=⟨k,k + 1,k + 2,k + 3,k + 4,k + 5,k + 6,k + 7,k + 8⟩
theorem m_markTaskS {id:Nat} {xs:List Tsk} {k:Int} (hlim:xs.length ≤ LIM) (h0:0 ≤ k) (h1:k ≤ 1152921504606846976):AC ctx.P 69 [.ref id 9 0 xs.length,.int .i64 k] (fun h _=>h id = some (.row 9 (xs.map vU)))
 (fun h nx v h' nx'=>v = .int .i64 (k + (9:Nat) * xs.length) ∧ h' id = some (.row 9 ((yN mkTsk 9 k xs.length).map vU)) ∧ ∀ j,j < nx → j ≠ id → h' j = h j):=by
 refine AC.o okC Tryz.func69 rfl fun h nx hfr hnx hpre => ?_
 have hid:id < nx:=hnx id (by rw [hpre];simp)
 try simp [-qt,-qd,-ql,rgs]
 repeat' first | done | ((first | ((with_reducible show zU _ _ _ _ _ _);refine zB rfl fun _ => ?_) | ((with_reducible show zJ _ _ _ _ _ _ _);refine zC rfl omA omA ?_)) <;> simp [-qt,-qd,-ql,rgs]) | ((first | (with_reducible refine zA ?_ ?_)) <;> intro qb <;> (have qp:=qb;try simp only [psq] at qp) <;> simp [-qt,-qd,-ql,rgs,qb])
 refine zW (h0:=h) (nx0:=0) [1,5,6,7,8,9,10,11,12,13,14,15,16,17,18,19,20,21,22,23,24,25,26,27,28,29,30,31,32,33,34,35,36,37,38,39,40,41,42,43,44,45,46,47,48,49,50,51,52,53,54,55,56,57,58,59,60,61,62,63,64,65,66,67,68,69,70,71,72,73,74] (xs.length) (fun (i:Nat) a=>[(5,.int .i64 i),(1,.int .i64 (k + (9:Nat) * i))]) (fun i (_:Unit) h' n'=>h' id = some (.row 9 (uW vU mkTsk 9 k xs i)) ∧ (∀ j,j < nx → j ≠ id → h' j = h j) ∧ nx ≤ n') (()) (by simp) ?_ (fun j hj=>absurd hj (by omega)) (Nat.zero_le _) ?_
 ·simp [zI8,hpre]
 ·intro i a tm h' n' hle hJ hE hn' next hnx
  try dsimp only at hJ
  simp [-qt,-qd,-ql]
  obtain ⟨hJ,hJf,hJn⟩:=hJ
  by_cases hlt:i < xs.length
  ·have hl:(uW vU mkTsk 9 k xs i).length = xs.length:=zC5 (by omega)
   rw [zC0 hlt] at hJ
   have hlim0:=hlim
   simp only [LIM] at hlim
   try simp [-qt,-qd,-ql,rgs,hJ,vU,zH (x:=k + 9 * (i:Int) + 1) (by omega),zH (x:=k + 9 * (i:Int) + 1 + 1) (by omega),zH (x:=k + 9 * (i:Int) + 1 + 1 + 1) (by omega),zH (x:=k + 9 * (i:Int) + 1 + 1 + 1 + 1) (by omega),zH (x:=k + 9 * (i:Int) + 1 + 1 + 1 + 1 + 1) (by omega),zH (x:=k + 9 * (i:Int) + 1 + 1 + 1 + 1 + 1 + 1) (by omega),zH (x:=k + 9 * (i:Int) + 1 + 1 + 1 + 1 + 1 + 1 + 1) (by omega),zH (x:=k + 9 * (i:Int) + 1 + 1 + 1 + 1 + 1 + 1 + 1 + 1) (by omega),zH (x:=k + 9 * (i:Int) + 1 + 1 + 1 + 1 + 1 + 1 + 1 + 1 + 1) (by omega)]
   repeat' first | done | ((first | ((with_reducible show zU _ _ _ _ _ _);refine zB rfl fun _ => ?_) | ((with_reducible show zJ _ _ _ _ _ _ _);refine zC rfl omA omA ?_) | (((with_reducible show zJ _ _ _ _ (.ref _ _ _ _) _ _);refine yY rfl (by omega) (by omega) ?_)) | (((with_reducible show uF _ _ _ _ _ _ _ _ _);refine uP (xs:=uW vU mkTsk 9 k xs i) (by first | exact hJ | exact zL _ _ _) (by omega) rfl rfl (by omega) ?_))) <;> simp [-qt,-qd,-ql,rgs,hJ,vU,zH (x:=k + 9 * (i:Int) + 1) (by omega),zH (x:=k + 9 * (i:Int) + 1 + 1) (by omega),zH (x:=k + 9 * (i:Int) + 1 + 1 + 1) (by omega),zH (x:=k + 9 * (i:Int) + 1 + 1 + 1 + 1) (by omega),zH (x:=k + 9 * (i:Int) + 1 + 1 + 1 + 1 + 1) (by omega),zH (x:=k + 9 * (i:Int) + 1 + 1 + 1 + 1 + 1 + 1) (by omega),zH (x:=k + 9 * (i:Int) + 1 + 1 + 1 + 1 + 1 + 1 + 1) (by omega),zH (x:=k + 9 * (i:Int) + 1 + 1 + 1 + 1 + 1 + 1 + 1 + 1) (by omega),zH (x:=k + 9 * (i:Int) + 1 + 1 + 1 + 1 + 1 + 1 + 1 + 1 + 1) (by omega)]) | ((first | (with_reducible refine zA ?_ ?_)) <;> intro qb <;> (have qp:=qb;try simp only [psq] at qp) <;> simp [-qt,-qd,-ql,rgs,hJ,vU,zH (x:=k + 9 * (i:Int) + 1) (by omega),zH (x:=k + 9 * (i:Int) + 1 + 1) (by omega),zH (x:=k + 9 * (i:Int) + 1 + 1 + 1) (by omega),zH (x:=k + 9 * (i:Int) + 1 + 1 + 1 + 1) (by omega),zH (x:=k + 9 * (i:Int) + 1 + 1 + 1 + 1 + 1) (by omega),zH (x:=k + 9 * (i:Int) + 1 + 1 + 1 + 1 + 1 + 1) (by omega),zH (x:=k + 9 * (i:Int) + 1 + 1 + 1 + 1 + 1 + 1 + 1) (by omega),zH (x:=k + 9 * (i:Int) + 1 + 1 + 1 + 1 + 1 + 1 + 1 + 1) (by omega),zH (x:=k + 9 * (i:Int) + 1 + 1 + 1 + 1 + 1 + 1 + 1 + 1 + 1) (by omega),qb])
   all_goals first
   | omega
   | (refine hnx.go () ?_ ?_ ?_ ?_ ?_ ?_
      ·omega
      ·simp [zM hlt hlim0] <;> omega
      ·simp
      ·exact fun j hj=>absurd hj (by omega)
      ·exact Nat.zero_le _
      try dsimp only
      refine ⟨?_,fun j hj hji => ?_,by omega⟩
      ·rw [← zD4 hlt]
       simp [mkTsk,vU,Int.add_assoc]
      ·simp [hji]
       exact hJf j hj hji)
  ·try simp [-qt,-qd,-ql,rgs,hJ,hlt]
   repeat' first | done | ((first | ((with_reducible show zU _ _ _ _ _ _);refine zB rfl fun _ => ?_) | ((with_reducible show zJ _ _ _ _ _ _ _);refine zC rfl omA omA ?_)) <;> simp [-qt,-qd,-ql,rgs,hJ,hlt]) | ((first | (with_reducible refine zA ?_ ?_)) <;> intro qb <;> (have qp:=qb;try simp only [psq] at qp) <;> simp [-qt,-qd,-ql,rgs,hJ,hlt,qb])
   refine ⟨by omega,?_,hJf⟩
   have:i = xs.length:=by omega
   subst this
   exact zD8 (Nat.le_refl _)
def mkSgt (k:Int):Sgt:=⟨k,k + 1,k + 2,k + 3⟩
theorem m_markSightS {id:Nat} {xs:List Sgt} {k:Int} (hlim:xs.length ≤ LIM) (h0:0 ≤ k) (h1:k ≤ 1152921504606846976):AC ctx.P 71 [.ref id 4 0 xs.length,.int .i64 k] (fun h _=>h id = some (.row 4 (xs.map zA6)))
 (fun h nx v h' nx'=>v = .int .i64 (k + (4:Nat) * xs.length) ∧ h' id = some (.row 4 ((yN mkSgt 4 k xs.length).map zA6)) ∧ ∀ j,j < nx → j ≠ id → h' j = h j):=by
 refine AC.o okC Tryz.func71 rfl fun h nx hfr hnx hpre => ?_
 have hid:id < nx:=hnx id (by rw [hpre];simp)
 try simp [-qt,-qd,-ql,rgs]
 repeat' first | done | ((first | ((with_reducible show zU _ _ _ _ _ _);refine zB rfl fun _ => ?_) | ((with_reducible show zJ _ _ _ _ _ _ _);refine zC rfl omA omA ?_)) <;> simp [-qt,-qd,-ql,rgs]) | ((first | (with_reducible refine zA ?_ ?_)) <;> intro qb <;> (have qp:=qb;try simp only [psq] at qp) <;> simp [-qt,-qd,-ql,rgs,qb])
 refine zW (h0:=h) (nx0:=0) [1,5,6,7,8,9,10,11,12,13,14,15,16,17,18,19,20,21,22,23,24,25,26,27,28,29,30,31,32,33,34,35,36,37,38,39] (xs.length) (fun (i:Nat) a=>[(5,.int .i64 i),(1,.int .i64 (k + (4:Nat) * i))]) (fun i (_:Unit) h' n'=>h' id = some (.row 4 (uW zA6 mkSgt 4 k xs i)) ∧ (∀ j,j < nx → j ≠ id → h' j = h j) ∧ nx ≤ n') (()) (by simp) ?_ (fun j hj=>absurd hj (by omega)) (Nat.zero_le _) ?_
 ·simp [zI8,hpre]
 ·intro i a tm h' n' hle hJ hE hn' next hnx
  try dsimp only at hJ
  simp [-qt,-qd,-ql]
  obtain ⟨hJ,hJf,hJn⟩:=hJ
  by_cases hlt:i < xs.length
  ·have hl:(uW zA6 mkSgt 4 k xs i).length = xs.length:=zC5 (by omega)
   rw [zC0 hlt] at hJ
   have hlim0:=hlim
   simp only [LIM] at hlim
   try simp [-qt,-qd,-ql,rgs,hJ,zA6,zH (x:=k + 4 * (i:Int) + 1) (by omega),zH (x:=k + 4 * (i:Int) + 1 + 1) (by omega),zH (x:=k + 4 * (i:Int) + 1 + 1 + 1) (by omega),zH (x:=k + 4 * (i:Int) + 1 + 1 + 1 + 1) (by omega)]
   repeat' first | done | ((first | ((with_reducible show zU _ _ _ _ _ _);refine zB rfl fun _ => ?_) | ((with_reducible show zJ _ _ _ _ _ _ _);refine zC rfl omA omA ?_) | (((with_reducible show zJ _ _ _ _ (.ref _ _ _ _) _ _);refine yY rfl (by omega) (by omega) ?_)) | (((with_reducible show uF _ _ _ _ _ _ _ _ _);refine uP (xs:=uW zA6 mkSgt 4 k xs i) (by first | exact hJ | exact zL _ _ _) (by omega) rfl rfl (by omega) ?_))) <;> simp [-qt,-qd,-ql,rgs,hJ,zA6,zH (x:=k + 4 * (i:Int) + 1) (by omega),zH (x:=k + 4 * (i:Int) + 1 + 1) (by omega),zH (x:=k + 4 * (i:Int) + 1 + 1 + 1) (by omega),zH (x:=k + 4 * (i:Int) + 1 + 1 + 1 + 1) (by omega)]) | ((first | (with_reducible refine zA ?_ ?_)) <;> intro qb <;> (have qp:=qb;try simp only [psq] at qp) <;> simp [-qt,-qd,-ql,rgs,hJ,zA6,zH (x:=k + 4 * (i:Int) + 1) (by omega),zH (x:=k + 4 * (i:Int) + 1 + 1) (by omega),zH (x:=k + 4 * (i:Int) + 1 + 1 + 1) (by omega),zH (x:=k + 4 * (i:Int) + 1 + 1 + 1 + 1) (by omega),qb])
   all_goals first
   | omega
   | (refine hnx.go () ?_ ?_ ?_ ?_ ?_ ?_
      ·omega
      ·simp [zM hlt hlim0] <;> omega
      ·simp
      ·exact fun j hj=>absurd hj (by omega)
      ·exact Nat.zero_le _
      try dsimp only
      refine ⟨?_,fun j hj hji => ?_,by omega⟩
      ·rw [← zD4 hlt]
       simp [mkSgt,zA6,Int.add_assoc]
      ·simp [hji]
       exact hJf j hj hji)
  ·try simp [-qt,-qd,-ql,rgs,hJ,hlt]
   repeat' first | done | ((first | ((with_reducible show zU _ _ _ _ _ _);refine zB rfl fun _ => ?_) | ((with_reducible show zJ _ _ _ _ _ _ _);refine zC rfl omA omA ?_)) <;> simp [-qt,-qd,-ql,rgs,hJ,hlt]) | ((first | (with_reducible refine zA ?_ ?_)) <;> intro qb <;> (have qp:=qb;try simp only [psq] at qp) <;> simp [-qt,-qd,-ql,rgs,hJ,hlt,qb])
   refine ⟨by omega,?_,hJf⟩
   have:i = xs.length:=by omega
   subst this
   exact zD8 (Nat.le_refl _)
def mkInn (k:Int):Inn:=⟨k,k + 1,k + 2⟩
theorem m_markInsS {id:Nat} {xs:List Inn} {k:Int} (hlim:xs.length ≤ LIM) (h0:0 ≤ k) (h1:k ≤ 1152921504606846976):AC ctx.P 153 [.ref id 3 0 xs.length,.int .i64 k] (fun h _=>h id = some (.row 3 (xs.map uC)))
 (fun h nx v h' nx'=>v = .int .i64 (k + (3:Nat) * xs.length) ∧ h' id = some (.row 3 ((yN mkInn 3 k xs.length).map uC)) ∧ ∀ j,j < nx → j ≠ id → h' j = h j):=by
 refine AC.o okC Tryz.func153 rfl fun h nx hfr hnx hpre => ?_
 have hid:id < nx:=hnx id (by rw [hpre];simp)
 try simp [-qt,-qd,-ql,rgs]
 repeat' first | done | ((first | ((with_reducible show zU _ _ _ _ _ _);refine zB rfl fun _ => ?_) | ((with_reducible show zJ _ _ _ _ _ _ _);refine zC rfl omA omA ?_)) <;> simp [-qt,-qd,-ql,rgs]) | ((first | (with_reducible refine zA ?_ ?_)) <;> intro qb <;> (have qp:=qb;try simp only [psq] at qp) <;> simp [-qt,-qd,-ql,rgs,qb])
 refine zW (h0:=h) (nx0:=0) [1,5,6,7,8,9,10,11,12,13,14,15,16,17,18,19,20,21,22,23,24,25,26,27,28,29,30,31,32] (xs.length) (fun (i:Nat) a=>[(5,.int .i64 i),(1,.int .i64 (k + (3:Nat) * i))]) (fun i (_:Unit) h' n'=>h' id = some (.row 3 (uW uC mkInn 3 k xs i)) ∧ (∀ j,j < nx → j ≠ id → h' j = h j) ∧ nx ≤ n') (()) (by simp) ?_ (fun j hj=>absurd hj (by omega)) (Nat.zero_le _) ?_
 ·simp [zI8,hpre]
 ·intro i a tm h' n' hle hJ hE hn' next hnx
  try dsimp only at hJ
  simp [-qt,-qd,-ql]
  obtain ⟨hJ,hJf,hJn⟩:=hJ
  by_cases hlt:i < xs.length
  ·have hl:(uW uC mkInn 3 k xs i).length = xs.length:=zC5 (by omega)
   rw [zC0 hlt] at hJ
   have hlim0:=hlim
   simp only [LIM] at hlim
   try simp [-qt,-qd,-ql,rgs,hJ,uC,zH (x:=k + 3 * (i:Int) + 1) (by omega),zH (x:=k + 3 * (i:Int) + 1 + 1) (by omega),zH (x:=k + 3 * (i:Int) + 1 + 1 + 1) (by omega)]
   repeat' first | done | ((first | ((with_reducible show zU _ _ _ _ _ _);refine zB rfl fun _ => ?_) | ((with_reducible show zJ _ _ _ _ _ _ _);refine zC rfl omA omA ?_) | (((with_reducible show zJ _ _ _ _ (.ref _ _ _ _) _ _);refine yY rfl (by omega) (by omega) ?_)) | (((with_reducible show uF _ _ _ _ _ _ _ _ _);refine uP (xs:=uW uC mkInn 3 k xs i) (by first | exact hJ | exact zL _ _ _) (by omega) rfl rfl (by omega) ?_))) <;> simp [-qt,-qd,-ql,rgs,hJ,uC,zH (x:=k + 3 * (i:Int) + 1) (by omega),zH (x:=k + 3 * (i:Int) + 1 + 1) (by omega),zH (x:=k + 3 * (i:Int) + 1 + 1 + 1) (by omega)]) | ((first | (with_reducible refine zA ?_ ?_)) <;> intro qb <;> (have qp:=qb;try simp only [psq] at qp) <;> simp [-qt,-qd,-ql,rgs,hJ,uC,zH (x:=k + 3 * (i:Int) + 1) (by omega),zH (x:=k + 3 * (i:Int) + 1 + 1) (by omega),zH (x:=k + 3 * (i:Int) + 1 + 1 + 1) (by omega),qb])
   all_goals first
   | omega
   | (refine hnx.go () ?_ ?_ ?_ ?_ ?_ ?_
      ·omega
      ·simp [zM hlt hlim0] <;> omega
      ·simp
      ·exact fun j hj=>absurd hj (by omega)
      ·exact Nat.zero_le _
      try dsimp only
      refine ⟨?_,fun j hj hji => ?_,by omega⟩
      ·rw [← zD4 hlt]
       simp [mkInn,uC,Int.add_assoc]
      ·simp [hji]
       exact hJf j hj hji)
  ·try simp [-qt,-qd,-ql,rgs,hJ,hlt]
   repeat' first | done | ((first | ((with_reducible show zU _ _ _ _ _ _);refine zB rfl fun _ => ?_) | ((with_reducible show zJ _ _ _ _ _ _ _);refine zC rfl omA omA ?_)) <;> simp [-qt,-qd,-ql,rgs,hJ,hlt]) | ((first | (with_reducible refine zA ?_ ?_)) <;> intro qb <;> (have qp:=qb;try simp only [psq] at qp) <;> simp [-qt,-qd,-ql,rgs,hJ,hlt,qb])
   refine ⟨by omega,?_,hJf⟩
   have:i = xs.length:=by omega
   subst this
   exact zD8 (Nat.le_refl _)
def zF1 (k:Int):Int:=k
theorem zG2 {id:Nat} {xs:List Int} {k:Int} (hlim:xs.length ≤ LIM) (h0:0 ≤ k) (h1:k ≤ 1152921504606846976):AC ctx.P 72 [.ref id 1 0 xs.length,.int .i64 k] (fun h _=>h id = some (.row 1 (xs.map iv)))
 (fun h nx v h' nx'=>v = .int .i64 (k + (1:Nat) * xs.length) ∧ h' id = some (.row 1 ((yN zF1 1 k xs.length).map iv)) ∧ ∀ j,j < nx → j ≠ id → h' j = h j):=by
 refine AC.o okC Tryz.func72 rfl fun h nx hfr hnx hpre => ?_
 have hid:id < nx:=hnx id (by rw [hpre];simp)
 try simp [-qt,-qd,-ql,rgs]
 repeat' first | done | ((first | ((with_reducible show zU _ _ _ _ _ _);refine zB rfl fun _ => ?_) | ((with_reducible show zJ _ _ _ _ _ _ _);refine zC rfl omA omA ?_)) <;> simp [-qt,-qd,-ql,rgs]) | ((first | (with_reducible refine zA ?_ ?_)) <;> intro qb <;> (have qp:=qb;try simp only [psq] at qp) <;> simp [-qt,-qd,-ql,rgs,qb])
 refine zW (h0:=h) (nx0:=0) [1,5,6,7,8,9,10,11,12,13,14,15,16,17] (xs.length) (fun (i:Nat) a=>[(5,.int .i64 i),(1,.int .i64 (k + (1:Nat) * i))]) (fun i (_:Unit) h' n'=>h' id = some (.row 1 (uW iv zF1 1 k xs i)) ∧ (∀ j,j < nx → j ≠ id → h' j = h j) ∧ nx ≤ n') (()) (by simp) ?_ (fun j hj=>absurd hj (by omega)) (Nat.zero_le _) ?_
 ·simp [zI8,hpre]
 ·intro i a tm h' n' hle hJ hE hn' next hnx
  try dsimp only at hJ
  simp [-qt,-qd,-ql]
  obtain ⟨hJ,hJf,hJn⟩:=hJ
  by_cases hlt:i < xs.length
  ·have hl:(uW iv zF1 1 k xs i).length = xs.length:=zC5 (by omega)
   rw [zC0 hlt] at hJ
   have hlim0:=hlim
   simp only [LIM] at hlim
   try simp [-qt,-qd,-ql,rgs,hJ,iv,zH (x:=k + (i:Int) + 1) (by omega)]
   repeat' first | done | ((first | ((with_reducible show zU _ _ _ _ _ _);refine zB rfl fun _ => ?_) | ((with_reducible show zJ _ _ _ _ _ _ _);refine zC rfl omA omA ?_) | (((with_reducible show zJ _ _ _ _ (.ref _ _ _ _) _ _);refine yY rfl (by omega) (by omega) ?_)) | (((with_reducible show uF _ _ _ _ _ _ _ _ _);refine uP (xs:=uW iv zF1 1 k xs i) (by first | exact hJ | exact zL _ _ _) (by omega) rfl rfl (by omega) ?_))) <;> simp [-qt,-qd,-ql,rgs,hJ,iv,zH (x:=k + (i:Int) + 1) (by omega)]) | ((first | (with_reducible refine zA ?_ ?_)) <;> intro qb <;> (have qp:=qb;try simp only [psq] at qp) <;> simp [-qt,-qd,-ql,rgs,hJ,iv,zH (x:=k + (i:Int) + 1) (by omega),qb])
   all_goals first
   | omega
   | (refine hnx.go () ?_ ?_ ?_ ?_ ?_ ?_
      ·omega
      ·simp [zM hlt hlim0] <;> omega
      ·simp
      ·exact fun j hj=>absurd hj (by omega)
      ·exact Nat.zero_le _
      try dsimp only
      refine ⟨?_,fun j hj hji => ?_,by omega⟩
      ·rw [← zD4 hlt]
       simp [zF1,iv,Int.add_assoc]
      ·simp [hji]
       exact hJf j hj hji)
  ·try simp [-qt,-qd,-ql,rgs,hJ,hlt]
   repeat' first | done | ((first | ((with_reducible show zU _ _ _ _ _ _);refine zB rfl fun _ => ?_) | ((with_reducible show zJ _ _ _ _ _ _ _);refine zC rfl omA omA ?_)) <;> simp [-qt,-qd,-ql,rgs,hJ,hlt]) | ((first | (with_reducible refine zA ?_ ?_)) <;> intro qb <;> (have qp:=qb;try simp only [psq] at qp) <;> simp [-qt,-qd,-ql,rgs,hJ,hlt,qb])
   refine ⟨by omega,?_,hJf⟩
   have:i = xs.length:=by omega
   subst this
   exact zD8 (Nat.le_refl _)
def zB7 (k:Int):Bool:=k.tmod 3 == 0
theorem m_markBoolS {id:Nat} {xs:List Bool} {k:Int} (hlim:xs.length ≤ LIM) (h0:0 ≤ k) (h1:k ≤ 1152921504606846976):AC ctx.P 154 [.ref id 1 0 xs.length,.int .i64 k] (fun h _=>h id = some (.row 1 (xs.map bv)))
 (fun h nx v h' nx'=>v = .int .i64 (k + (1:Nat) * xs.length) ∧ h' id = some (.row 1 ((yN zB7 1 k xs.length).map bv)) ∧ ∀ j,j < nx → j ≠ id → h' j = h j):=by
 refine AC.o okC Tryz.func154 rfl fun h nx hfr hnx hpre => ?_
 have hid:id < nx:=hnx id (by rw [hpre];simp)
 try simp [-qt,-qd,-ql,rgs]
 repeat' first | done | ((first | ((with_reducible show zU _ _ _ _ _ _);refine zB rfl fun _ => ?_) | ((with_reducible show zJ _ _ _ _ _ _ _);refine zC rfl omA omA ?_)) <;> simp [-qt,-qd,-ql,rgs]) | ((first | (with_reducible refine zA ?_ ?_)) <;> intro qb <;> (have qp:=qb;try simp only [psq] at qp) <;> simp [-qt,-qd,-ql,rgs,qb])
 refine zW (h0:=h) (nx0:=0) [1,5,6,7,8,9,10,11,12,13,14,15,16,17,18,19] (xs.length) (fun (i:Nat) a=>[(5,.int .i64 i),(1,.int .i64 (k + (1:Nat) * i))]) (fun i (_:Unit) h' n'=>h' id = some (.row 1 (uW bv zB7 1 k xs i)) ∧ (∀ j,j < nx → j ≠ id → h' j = h j) ∧ nx ≤ n') (()) (by simp) ?_ (fun j hj=>absurd hj (by omega)) (Nat.zero_le _) ?_
 ·simp [zI8,hpre]
 ·intro i a tm h' n' hle hJ hE hn' next hnx
  try dsimp only at hJ
  simp [-qt,-qd,-ql]
  obtain ⟨hJ,hJf,hJn⟩:=hJ
  by_cases hlt:i < xs.length
  ·have hl:(uW bv zB7 1 k xs i).length = xs.length:=zC5 (by omega)
   rw [zC0 hlt] at hJ
   have hlim0:=hlim
   simp only [LIM] at hlim
   try simp [-qt,-qd,-ql,rgs,hJ,bv,zH (x:=k + (i:Int) + 1) (by omega)]
   repeat' first | done | ((first | ((with_reducible show zU _ _ _ _ _ _);refine zB rfl fun _ => ?_) | ((with_reducible show zJ _ _ _ _ _ _ _);refine zC rfl omA omA ?_) | (((with_reducible show zJ _ _ _ _ (.ref _ _ _ _) _ _);refine yY rfl (by omega) (by omega) ?_)) | (((with_reducible show uF _ _ _ _ _ _ _ _ _);refine uP (xs:=uW bv zB7 1 k xs i) (by first | exact hJ | exact zL _ _ _) (by omega) rfl rfl (by omega) ?_))) <;> simp [-qt,-qd,-ql,rgs,hJ,bv,zH (x:=k + (i:Int) + 1) (by omega)]) | ((first | (with_reducible refine zA ?_ ?_)) <;> intro qb <;> (have qp:=qb;try simp only [psq] at qp) <;> simp [-qt,-qd,-ql,rgs,hJ,bv,zH (x:=k + (i:Int) + 1) (by omega),qb])
   all_goals first
   | omega
   | (refine hnx.go () ?_ ?_ ?_ ?_ ?_ ?_
      ·omega
      ·simp [zM hlt hlim0] <;> omega
      ·simp
      ·exact fun j hj=>absurd hj (by omega)
      ·exact Nat.zero_le _
      try dsimp only
      refine ⟨?_,fun j hj hji => ?_,by omega⟩
      ·rw [← zD4 hlt]
       simp [zB7,bv,Int.add_assoc]
      ·simp [hji]
       exact hJf j hj hji)
  ·try simp [-qt,-qd,-ql,rgs,hJ,hlt]
   repeat' first | done | ((first | ((with_reducible show zU _ _ _ _ _ _);refine zB rfl fun _ => ?_) | ((with_reducible show zJ _ _ _ _ _ _ _);refine zC rfl omA omA ?_)) <;> simp [-qt,-qd,-ql,rgs,hJ,hlt]) | ((first | (with_reducible refine zA ?_ ?_)) <;> intro qb <;> (have qp:=qb;try simp only [psq] at qp) <;> simp [-qt,-qd,-ql,rgs,hJ,hlt,qb])
   refine ⟨by omega,?_,hJf⟩
   have:i = xs.length:=by omega
   subst this
   exact zD8 (Nat.le_refl _)
end Go.AE.Tryz
end
