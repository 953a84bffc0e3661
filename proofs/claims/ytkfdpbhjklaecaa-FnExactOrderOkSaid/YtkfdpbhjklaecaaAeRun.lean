/- Abstract machine: the run, one step a rewrite. -/
import Derived.Test.YtkfdpbhjklaecaaAeFn
namespace Go.AE
set_option linter.unusedVariables false

inductive Kont where
  | fin (Q : AX → St → Prop)
  | seq (c : Code) (k : Kont)
  | block (id : Nat) (k : Kont)
  | loop (next : St → Prop) (k : Kont)

def den (C : Ctx) : Kont → AX → St → Prop
  | .fin Q => Q
  | .seq c k => AX.then (WpA C c (den C k)) (den C k)
  | .block id k => AX.inBlock id (den C k)
  | .loop next k => AX.then next (den C k)

def goC (C : Ctx) (c : Code) (st : St) (k : Kont) : Prop := WpA C c (den C k) st
def outS (C : Ctx) (e : AX) (st : St) (k : Kont) : Prop := den C k e st

section
variable {C : Ctx}

@[simp] theorem go_seq (a b : Code) (st : St) (k : Kont) : goC C (.seq a b) st k = goC C a st (.seq b k) := propext Iff.rfl
@[simp] theorem go_skip (st : St) (k : Kont) : goC C .skip st k = outS C .normal st k := propext Iff.rfl
@[simp] theorem go_label (l) (st : St) (k : Kont) : goC C (.label l) st k = outS C .normal st k := propext Iff.rfl
@[simp] theorem go_exit (i) (st : St) (k : Kont) : goC C (.exit i) st k = outS C (.exit i) st k := propext Iff.rfl
@[simp] theorem go_ret (st : St) (k : Kont) : goC C .ret st k = outS C .ret st k := propext Iff.rfl
@[simp] theorem go_block (i c) (st : St) (k : Kont) : goC C (.block i c) st k = goC C c st (.block i k) := propext Iff.rfl
@[simp] theorem out_seq (c) (st : St) (k : Kont) : outS C .normal st (.seq c k) = goC C c st k := propext Iff.rfl
@[simp] theorem out_seq_exit (c i) (st : St) (k : Kont) : outS C (.exit i) st (.seq c k) = outS C (.exit i) st k := propext Iff.rfl
@[simp] theorem out_seq_ret (c) (st : St) (k : Kont) : outS C .ret st (.seq c k) = outS C .ret st k := propext Iff.rfl
@[simp] theorem out_block (i) (st : St) (k : Kont) : outS C .normal st (.block i k) = outS C .normal st k := propext Iff.rfl
@[simp] theorem out_block_ret (i) (st : St) (k : Kont) : outS C .ret st (.block i k) = outS C .ret st k := propext Iff.rfl
@[simp] theorem out_block_exit (i j) (st : St) (k : Kont) : outS C (.exit j) st (.block i k) = if j = i then outS C .normal st k else outS C (.exit j) st k := propext Iff.rfl
@[simp] theorem out_loop (next) (st : St) (k : Kont) : outS C .normal st (.loop next k) = next st := propext Iff.rfl
@[simp] theorem out_loop_exit (next i) (st : St) (k : Kont) : outS C (.exit i) st (.loop next k) = outS C (.exit i) st k := propext Iff.rfl
@[simp] theorem out_loop_ret (next) (st : St) (k : Kont) : outS C .ret st (.loop next k) = outS C .ret st k := propext Iff.rfl
theorem go_loop {c : Code} {st : St} {k : Kont} (Inv : St → Prop) (μ : St → Nat) (h0 : Inv st) (hr : ∀ s, Inv s → goC C c s (.loop (fun s' => Inv s' ∧ μ s' < μ s) k)) : goC C (.loop c) st k :=
  ⟨Inv, μ, h0, fun s hs => hr s hs⟩
@[simp] theorem out_fin (e) (st : St) (Q) : outS C e st (.fin Q) = Q e st := propext Iff.rfl

/-- What is still to come behind an operation. -/
structure Nxt where
  n0 : Nat
  gd : List (Option Tmp)
  i : Nat
  os : List Oper
  k : Kont

def runS (C : Ctx) (n0 : Nat) (gd : List (Option Tmp)) (i : Nat) (os : List Oper) (st : St) (k : Kont) : Prop :=
  runA C n0 (fun j => (gd[j]?).bind id) i os st (fun s => den C k .normal s)

def nextS (C : Ctx) (n : Nxt) (st : St) : Prop := runS C n.n0 n.gd n.i n.os st n.k

@[simp] theorem go_region (i : Nat) (ops : List Oper) (dr : Bool) (st : St) (k : Kont) :
    goC C (.region i ops.toArray dr) st k = runS C st.nx (ops.map (·.dst)) 0 ops { st with nx := st.nx + ops.length } k := by
  have : gdOf ops.toArray = fun j => ((ops.map (·.dst))[j]?).bind id := by
    funext j
    simp only [gdOf, List.getElem?_toArray, List.getElem?_map]
    cases ops[j]? <;> rfl
  simp [goC, WpA, runS, this]

@[simp] theorem run_nil (n0 gd i) (st : St) (k : Kont) : runS C n0 gd i [] st k = outS C .normal st k := propext Iff.rfl

def guardS (C : Ctx) (o : Oper) (want : Bool) (d : Option Tmp) (v : AV) (n0 : Nat) (gd : List (Option Tmp)) (i : Nat) (os : List Oper) (st : St) (k : Kont) : Prop :=
  grdA v want (runS C n0 gd i ({ o with guard := none } :: os) st k) (runS C n0 gd (i + 1) os (st.put d (.tup [])) k)

theorem run_guard (dst op ty ps af j want d) (n0 gd i os) (st : St) (k : Kont) (hg : (gd[j]?).bind id = some d) :
    runS C n0 gd i (⟨dst, op, ty, ps, af, some (j, want)⟩ :: os) st k = guardS C ⟨dst, op, ty, ps, af, none⟩ want dst (st.t d) n0 gd i os st k := by
  simp only [runS, runA, hg, guardS, Option.some.injEq]
  apply propext
  constructor
  · rintro ⟨d', rfl, h1⟩; exact h1
  · rintro h1; exact ⟨d, rfl, h1⟩

@[simp] theorem guardS_tt (o d n0 gd i os) (st : St) (k : Kont) : guardS C o true d (.bool true) n0 gd i os st k = runS C n0 gd i ({ o with guard := none } :: os) st k := by simp [guardS, grdA]
@[simp] theorem guardS_ff (o d n0 gd i os) (st : St) (k : Kont) : guardS C o false d (.bool false) n0 gd i os st k = runS C n0 gd i ({ o with guard := none } :: os) st k := by simp [guardS, grdA]
@[simp] theorem guardS_tf (o d n0 gd i os) (st : St) (k : Kont) : guardS C o true d (.bool false) n0 gd i os st k = runS C n0 gd (i + 1) os (st.put d (.tup [])) k := by simp [guardS, grdA]
@[simp] theorem guardS_ft (o d n0 gd i os) (st : St) (k : Kont) : guardS C o false d (.bool true) n0 gd i os st k = runS C n0 gd (i + 1) os (st.put d (.tup [])) k := by simp [guardS, grdA]
@[simp] theorem guardS_und (o d w n0 gd i os) (st : St) (k : Kont) : guardS C o w d (.tup []) n0 gd i os st k = runS C n0 gd (i + 1) os (st.put d (.tup [])) k := by simp [guardS, grdA]
theorem guardS_split {o want d b n0 gd i os} {st : St} {k : Kont} (h1 : b = true → guardS C o want d (.bool true) n0 gd i os st k) (h2 : b = false → guardS C o want d (.bool false) n0 gd i os st k) :
    guardS C o want d (.bool b) n0 gd i os st k := by
  cases b
  · exact h2 rfl
  · exact h1 rfl

@[simp] theorem run_move (d x ty ps af n0 gd i os) (st : St) (k : Kont) :
    runS C n0 gd i (⟨d, .move x, ty, ps, af, none⟩ :: os) st k = runS C n0 gd (i + 1) os (st.put d (st.ev x)) k := propext Iff.rfl
@[simp] theorem run_assign (d x ty ps af n0 gd i os) (st : St) (k : Kont) :
    runS C n0 gd i (⟨d, .assign x, ty, ps, af, none⟩ :: os) st k = runS C n0 gd (i + 1) os (st.put d (st.ev x)) k := propext Iff.rfl

def pickS (C : Ctx) (n : Nxt) (d : Option Tmp) (c x y : AV) (st : St) : Prop := ∃ b, c = .bool b ∧ nextS C n (st.put d (if b then x else y))
@[simp] theorem run_pick (d c x y ty ps af n0 gd i os) (st : St) (k : Kont) :
    runS C n0 gd i (⟨d, .pick c x y, ty, ps, af, none⟩ :: os) st k = pickS C ⟨n0, gd, i + 1, os, k⟩ d (st.ev c) (st.ev x) (st.ev y) st := propext Iff.rfl
@[simp] theorem pickS_bool (n d b x y) (st : St) : pickS C n d (.bool b) x y st = runS C n.n0 n.gd n.i n.os (st.put d (if b then x else y)) n.k := by
  simp [pickS, nextS]

def binS (C : Ctx) (n : Nxt) (d : Option Tmp) (v : Option AV) (st : St) : Prop := ∃ u, v = some u ∧ nextS C n (st.put d u)
@[simp] theorem run_bin (d op t x y t2 ty ps af n0 gd i os) (st : St) (k : Kont) :
    runS C n0 gd i (⟨d, .binOp op t x y t2, ty, ps, af, none⟩ :: os) st k = binS C ⟨n0, gd, i + 1, os, k⟩ d (binA (C.eqA t (st.ev x) (st.ev y)) op (st.ev x) (st.ev y)) st := propext Iff.rfl
@[simp] theorem binS_some (n d v) (st : St) : binS C n d (some v) st = runS C n.n0 n.gd n.i n.os (st.put d v) n.k := by
  simp [binS, nextS]

@[simp] theorem bin_add (e k a b) : binA e .add (.int k a) (.int k b) = some (.int k (k.wrap (a + b))) := by simp [binA]
@[simp] theorem bin_sub (e k a b) : binA e .sub (.int k a) (.int k b) = some (.int k (k.wrap (a - b))) := by simp [binA]
@[simp] theorem bin_mul (e k a b) : binA e .mul (.int k a) (.int k b) = some (.int k (k.wrap (a * b))) := by simp [binA]
@[simp] theorem bin_eql (e k a b) : binA e .eql (.int k a) (.int k b) = some (.bool (a == b)) := by simp [binA]
@[simp] theorem bin_neq (e k a b) : binA e .neq (.int k a) (.int k b) = some (.bool (a != b)) := by simp [binA]
@[simp] theorem bin_eqlb (e a b) : binA e .eql (.bool a) (.bool b) = e.map .bool := by simp [binA]
@[simp] theorem bin_neqb (e a b) : binA e .neq (.bool a) (.bool b) = e.map fun b => .bool (!b) := by simp [binA]
@[simp] theorem bin_eqls (e a b) : binA e .eql (.str a) (.str b) = some (.bool (a.toList == b.toList)) := by simp [binA]
@[simp] theorem bin_neqs (e a b) : binA e .neq (.str a) (.str b) = some (.bool (!(a.toList == b.toList))) := by simp [binA]
@[simp] theorem bin_eqla (e a b) : binA e .eql (.agg a) (.agg b) = e.map .bool := by simp [binA]
@[simp] theorem bin_neqa (e a b) : binA e .neq (.agg a) (.agg b) = e.map fun b => .bool (!b) := by simp [binA]
@[simp] theorem bin_lss (e k a b) : binA e .lss (.int k a) (.int k b) = some (.bool (a < b)) := by simp [binA]
@[simp] theorem bin_leq (e k a b) : binA e .leq (.int k a) (.int k b) = some (.bool (a ≤ b)) := by simp [binA]
@[simp] theorem bin_gtr (e k a b) : binA e .gtr (.int k a) (.int k b) = some (.bool (b < a)) := by simp [binA]
@[simp] theorem bin_geq (e k a b) : binA e .geq (.int k a) (.int k b) = some (.bool (b ≤ a)) := by simp [binA]

@[simp] theorem ev_tmp (s : St) (t) : s.ev (.tmp t) = s.t t := rfl
@[simp] theorem ev_bool (s : St) (b) : s.ev (.const (.bool b)) = .bool b := rfl
@[simp] theorem ev_int (s : St) (k n) : s.ev (.const (.int k n)) = .int k n := rfl
@[simp] theorem ev_str (s : St) (b) : s.ev (.const (.string b)) = .str b := rfl
@[simp] theorem ev_nil (s : St) : s.ev (.const (.slice none 0 0)) = .nil := rfl
@[simp] theorem ev_fn (s : St) (f) : s.ev (.func f) = .fn f [] := rfl
@[simp] theorem put_some (t h nx d v) : St.put ⟨t, h, nx⟩ (some d) v = ⟨upd t d v, h, nx⟩ := rfl
@[simp] theorem put_none (s : St) (v) : s.put none v = s := rfl
@[simp] theorem upd_at {α : Type} (f : Nat → α) (i j : Nat) (v : α) : upd f i v j = if j = i then v else f j := rfl

@[simp] theorem argT_0 (a l) : argT (a :: l) 0 = a := rfl
@[simp] theorem argT_s (a l n) : argT (a :: l) (n + 1) = argT l n := rfl

def condS (C : Ctx) (v : AV) (x y : Code) (st : St) (k : Kont) : Prop := ∃ b, v = .bool b ∧ (b = true → goC C x st k) ∧ (b = false → goC C y st k)
@[simp] theorem go_cond (c x y) (st : St) (k : Kont) : goC C (.cond c x y) st k = condS C (st.ev c) x y st k := propext Iff.rfl
@[simp] theorem condS_true (x y) (st : St) (k : Kont) : condS C (.bool true) x y st k = goC C x st k := by simp [condS]
@[simp] theorem condS_false (x y) (st : St) (k : Kont) : condS C (.bool false) x y st k = goC C y st k := by simp [condS]
theorem condS_split {b x y} {st : St} {k : Kont} (h1 : b = true → goC C x st k) (h2 : b = false → goC C y st k) : condS C (.bool b) x y st k := ⟨b, rfl, h1, h2⟩


/-! ### memory -/
def runN (C : Ctx) (n : Nxt) (st : St) : Prop := runS C n.n0 n.gd n.i n.os st n.k
@[simp] theorem runN_mk (n0 gd i os k) (st : St) : runN C ⟨n0, gd, i, os, k⟩ st = runS C n0 gd i os st k := propext Iff.rfl

def allocS (C : Ctx) (id : Nat) (n : Nxt) (d : Option Tmp) (ty : Option TyD) (st : St) : Prop := ∃ dT, ty = some dT ∧ runN C n ((st.new id (.obj dT.zero)).put d (.ptr id 0))
@[simp] theorem run_alloc (d e ty ps af n0 gd i os) (st : St) (k : Kont) :
    runS C n0 gd i (⟨d, .alloc e, ty, ps, af, none⟩ :: os) st k = allocS C (n0 + i) ⟨n0, gd, i + 1, os, k⟩ d (C.ty e) st := propext Iff.rfl
@[simp] theorem allocS_some (id n d dT) (st : St) : allocS C id n d (some dT) st = runN C n ((st.new id (.obj dT.zero)).put d (.ptr id 0)) := by simp [allocS]
@[simp] theorem new_mk (t h nx id e) : St.new ⟨t, h, nx⟩ id e = ⟨t, upd h id (some e), nx⟩ := rfl

@[simp] theorem run_box (d e x ty ps af n0 gd i os) (st : St) (k : Kont) :
    runS C n0 gd i (⟨d, .box e x, ty, ps, af, none⟩ :: os) st k = ((st.ev x).known = true ∧ runS C n0 gd (i + 1) os ((st.new (n0 + i) (.obj (st.ev x).cells)).put d (.ptr (n0 + i) 0)) k) := propext Iff.rfl
@[simp] theorem known_bool (b) : (AV.bool b).known = true := rfl
@[simp] theorem known_int (k n) : (AV.int k n).known = true := rfl
@[simp] theorem known_str (k) : (AV.str k).known = true := rfl
@[simp] theorem known_nil : AV.nil.known = true := rfl
@[simp] theorem known_view (p s x) : (AV.view p s x).known = true := rfl
@[simp] theorem known_ref (i s o l) : (AV.ref i s o l).known = true := rfl
@[simp] theorem known_ptr (i o) : (AV.ptr i o).known = true := rfl
@[simp] theorem known_ep (i x o) : (AV.ep i x o).known = true := rfl
@[simp] theorem known_vptr (c) : (AV.vptr c).known = true := rfl
@[simp] theorem known_fn (f c) : (AV.fn f c).known = true := rfl
@[simp] theorem known_agg (c) : (AV.agg c).known = true := rfl
@[simp] theorem known_tup (c) : (AV.tup c).known = true := rfl
@[simp] theorem one_bool (b) : (AV.bool b).one = true := rfl
@[simp] theorem one_int (k n) : (AV.int k n).one = true := rfl
@[simp] theorem one_str (k) : (AV.str k).one = true := rfl
@[simp] theorem one_nil : AV.nil.one = true := rfl
@[simp] theorem one_view (p s x) : (AV.view p s x).one = true := rfl
@[simp] theorem one_ref (i s o l) : (AV.ref i s o l).one = true := rfl
@[simp] theorem one_ptr (i o) : (AV.ptr i o).one = true := rfl
@[simp] theorem one_ep (i x o) : (AV.ep i x o).one = true := rfl
@[simp] theorem one_vptr (c) : (AV.vptr c).one = true := rfl
@[simp] theorem one_fn (f c) : (AV.fn f c).one = true := rfl
@[simp] theorem cells_agg (c) : (AV.agg c).cells = c := rfl
@[simp] theorem cells_bool (b) : (AV.bool b).cells = [.bool b] := rfl
@[simp] theorem cells_int (k n) : (AV.int k n).cells = [.int k n] := rfl
@[simp] theorem cells_str (b) : (AV.str b).cells = [.str b] := rfl
@[simp] theorem cells_nil : AV.nil.cells = [.nil] := rfl
@[simp] theorem cells_view (p s x) : (AV.view p s x).cells = [.view p s x] := rfl
@[simp] theorem cells_ref (i s o l) : (AV.ref i s o l).cells = [.ref i s o l] := rfl
@[simp] theorem cells_ptr (i o) : (AV.ptr i o).cells = [.ptr i o] := rfl
@[simp] theorem cells_fn (i o) : (AV.fn i o).cells = [.fn i o] := rfl

/-- A value, if there is one. -/
def valS (C : Ctx) (n : Nxt) (d : Option Tmp) (v : Option AV) (st : St) : Prop := ∃ u, v = some u ∧ runN C n (st.put d u)
@[simp] theorem valS_some (n d v) (st : St) : valS C n d (some v) st = runN C n (st.put d v) := by simp [valS]

def loadH (C : Ctx) (n : Nxt) (d : Option Tmp) (dT : TyD) (off : Nat) (e : Option Ent) (st : St) : Prop := ∃ cells, e = some (.obj cells) ∧ valS C n d (loadA dT cells off) st
def loadE (C : Ctx) (n : Nxt) (d : Option Tmp) (dT : TyD) (idx off : Nat) (e : Option Ent) (st : St) : Prop :=
  ∃ sz xs, e = some (.row sz xs) ∧ idx < xs.length ∧ ∀ cells, xs[idx]? = some cells → valS C n d (loadA dT cells off) st
def loadS (C : Ctx) (n : Nxt) (d : Option Tmp) (ty : Option TyD) (a : AV) (st : St) : Prop :=
  match a with
  | .ptr p off => ∃ dT, ty = some dT ∧ loadH C n d dT off (st.h p) st
  | .ep p idx off => ∃ dT, ty = some dT ∧ loadE C n d dT idx off (st.h p) st
  | .vptr cells => ∃ dT, ty = some dT ∧ valS C n d (loadA dT cells 0) st
  | _ => False
@[simp] theorem run_load (d t a ty ps af n0 gd i os) (st : St) (k : Kont) :
    runS C n0 gd i (⟨d, .load t a, ty, ps, af, none⟩ :: os) st k = loadS C ⟨n0, gd, i + 1, os, k⟩ d (C.ty t) (st.ev a) st := by
  simp only [runS, runA, stepA, loadS, loadH, loadE, valS, runN]
  apply propext
  generalize st.ev a = av
  cases av
  case ptr => exact ⟨fun ⟨dT, cells, v, h1, h2, h3, h4⟩ => ⟨dT, h1, cells, h2, v, h3, h4⟩, fun ⟨dT, h1, cells, h2, v, h3, h4⟩ => ⟨dT, cells, v, h1, h2, h3, h4⟩⟩
  case ep => exact ⟨fun ⟨dT, sz, xs, h1, h2, h3, h4⟩ => ⟨dT, h1, sz, xs, h2, h3, h4⟩, fun ⟨dT, h1, sz, xs, h2, h3, h4⟩ => ⟨dT, sz, xs, h1, h2, h3, h4⟩⟩
  case vptr => exact ⟨fun ⟨dT, v, h1, h2, h3⟩ => ⟨dT, h1, v, h2, h3⟩, fun ⟨dT, h1, v, h2, h3⟩ => ⟨dT, v, h1, h2, h3⟩⟩
  all_goals exact Iff.rfl
@[simp] theorem loadS_ptr (n d dT p off) (st : St) : loadS C n d (some dT) (.ptr p off) st = loadH C n d dT off (st.h p) st := by simp [loadS]
@[simp] theorem loadS_ep (n d dT p idx off) (st : St) : loadS C n d (some dT) (.ep p idx off) st = loadE C n d dT idx off (st.h p) st := by simp [loadS]
@[simp] theorem loadS_vptr (n d dT cells) (st : St) : loadS C n d (some dT) (.vptr cells) st = valS C n d (loadA dT cells 0) st := by simp [loadS]
@[simp] theorem loadH_obj (n d dT off cells) (st : St) : loadH C n d dT off (some (.obj cells)) st = valS C n d (loadA dT cells off) st := by simp [loadH]
theorem loadE_row {n d dT idx off sz xs cells} {st : St} (h : xs[idx]? = some cells) (hr : valS C n d (loadA dT cells off) st) : loadE C n d dT idx off (some (.row sz xs)) st :=
  ⟨sz, xs, rfl, (List.getElem?_eq_some_iff.1 h).1, fun c hc => by rw [h] at hc; cases hc; exact hr⟩
@[simp] theorem loadA_agg (s b z e ik is f cells off) : loadA ⟨s, b, true, z, e, ik, is, f⟩ cells off = if off + s ≤ cells.length then some (.agg ((cells.drop off).take s)) else none := by simp [loadA]
@[simp] theorem loadA_one (s b z e ik is f cells off) : loadA ⟨s, b, false, z, e, ik, is, f⟩ cells off = cells[off]? := by simp [loadA]

def storeH (C : Ctx) (n : Nxt) (d : Option Tmp) (dT : TyD) (p off : Nat) (e : Option Ent) (vs : List AV) (st : St) : Prop :=
  ∃ cells, e = some (.obj cells) ∧ vs.length = dT.size ∧ off + dT.size ≤ cells.length ∧ runN C n ({ st with h := upd st.h p (some (.obj (splice cells off vs))) }.put d .dead)
def storeE (C : Ctx) (n : Nxt) (d : Option Tmp) (dT : TyD) (p idx off : Nat) (vs : List AV) (st : St) : Prop :=
  ∃ sz xs ws h', frz st.h vs = some (ws, h') ∧ h' p = some (.row sz xs) ∧ ws.length = dT.size ∧ off + dT.size ≤ sz ∧ idx < xs.length ∧
        ∀ cells, xs[idx]? = some cells → runN C n ({ st with h := upd h' p (some (.row sz (xs.set idx (splice cells off ws)))) }.put d .dead)
def storeS (C : Ctx) (n : Nxt) (d : Option Tmp) (ty : Option TyD) (a : AV) (vs : List AV) (st : St) : Prop :=
  vs.all AV.one = true ∧
  match a with
  | .ptr p off => ∃ dT, ty = some dT ∧ storeH C n d dT p off (st.h p) vs st
  | .ep p idx off => ∃ dT, ty = some dT ∧ storeE C n d dT p idx off vs st
  | _ => False
@[simp] theorem run_store (d t a x ty ps af n0 gd i os) (st : St) (k : Kont) :
    runS C n0 gd i (⟨d, .store t a x, ty, ps, af, none⟩ :: os) st k = storeS C ⟨n0, gd, i + 1, os, k⟩ d (C.ty t) (st.ev a) (st.ev x).cells st := by
  simp only [runS, runA, stepA, storeS, storeH, storeE, runN]
  apply propext
  refine and_congr Iff.rfl ?_
  generalize st.ev a = av
  cases av
  case ptr => exact ⟨fun ⟨dT, cells, h1, h2, h3, h4, h5⟩ => ⟨dT, h1, cells, h2, h3, h4, h5⟩, fun ⟨dT, h1, cells, h2, h3, h4, h5⟩ => ⟨dT, cells, h1, h2, h3, h4, h5⟩⟩
  case ep => exact ⟨fun ⟨dT, sz, xs, vs, h', h1, h2, h3, h4, h5, h6, h7⟩ => ⟨dT, h1, sz, xs, vs, h', h2, h3, h4, h5, h6, h7⟩, fun ⟨dT, h1, sz, xs, vs, h', h2, h3, h4, h5, h6, h7⟩ => ⟨dT, sz, xs, vs, h', h1, h2, h3, h4, h5, h6, h7⟩⟩
  all_goals exact Iff.rfl
@[simp] theorem storeS_ptr (n d dT p off vs) (st : St) : storeS C n d (some dT) (.ptr p off) vs st = (vs.all AV.one = true ∧ storeH C n d dT p off (st.h p) vs st) := by simp [storeS]
@[simp] theorem storeS_ep (n d dT p idx off vs) (st : St) : storeS C n d (some dT) (.ep p idx off) vs st = (vs.all AV.one = true ∧ storeE C n d dT p idx off vs st) := by simp [storeS]
@[simp] theorem storeH_obj (n d dT p off cells vs) (st : St) : storeH C n d dT p off (some (.obj cells)) vs st =
    (vs.length = dT.size ∧ off + dT.size ≤ cells.length ∧ runN C n ({ st with h := upd st.h p (some (.obj (splice cells off vs))) }.put d .dead)) := by simp [storeH]
theorem storeE_row {n d dT p idx off vs sz xs ws cells} {h' : Heap} {st : St} (hf : frz st.h vs = some (ws, h')) (hp : h' p = some (.row sz xs)) (hl : ws.length = dT.size) (ho : off + dT.size ≤ sz) (hc : xs[idx]? = some cells)
    (hr : runN C n ({ st with h := upd h' p (some (.row sz (xs.set idx (splice cells off ws)))) }.put d .dead)) : storeE C n d dT p idx off vs st :=
  ⟨sz, xs, ws, h', hf, hp, hl, ho, (List.getElem?_eq_some_iff.1 hc).1, fun c h => by rw [hc] at h; cases h; exact hr⟩
@[simp] theorem splice_mk (cs off vs) : splice cs off vs = cs.take off ++ vs ++ cs.drop (off + vs.length) := rfl

def faddrS (C : Ctx) (n : Nxt) (d : Option Tmp) (f : Option (Nat × Nat × TypeId)) (a : AV) (st : St) : Prop :=
  ∃ off sz ft, f = some (off, sz, ft) ∧ 0 < sz ∧
   match a with
   | .ptr p o1 => runN C n (st.put d (.ptr p (o1 + off)))
   | .ep p i o1 => runN C n (st.put d (.ep p i (o1 + off)))
   | .vptr cells => runN C n (st.put d (.vptr (cells.drop off)))
   | _ => False
def fieldOf (ty : Option TyD) (f : Nat) : Option (Nat × Nat × TypeId) := ty.bind fun d => if d.agg then d.fields[f]? else none
@[simp] theorem fieldOf_mk (s b z e ik is fs f) : fieldOf (some ⟨s, b, true, z, e, ik, is, fs⟩) f = fs[f]? := by simp [fieldOf]
@[simp] theorem run_faddr (d s x f ty ps af n0 gd i os) (st : St) (k : Kont) :
    runS C n0 gd i (⟨d, .fieldAddr s x f, ty, ps, af, none⟩ :: os) st k = faddrS C ⟨n0, gd, i + 1, os, k⟩ d (fieldOf (C.ty s) f) (st.ev x) st := by
  simp only [runS, runA, stepA, faddrS, fieldOf, runN]
  apply propext
  constructor
  · rintro ⟨dT, off, sz, ft, h1, h2, h3, h4, h5⟩; exact ⟨off, sz, ft, by simp [h1, h2, h3], h4, h5⟩
  · rintro ⟨off, sz, ft, h1, h4, h5⟩
    cases hty : C.ty s with
    | none => simp [hty] at h1
    | some dT =>
      simp only [hty, Option.bind_some] at h1
      split at h1
      · exact ⟨dT, off, sz, ft, rfl, by assumption, h1, h4, h5⟩
      · cases h1
@[simp] theorem faddrS_ptr (n d off sz ft p o1) (st : St) : faddrS C n d (some (off, sz, ft)) (.ptr p o1) st = (0 < sz ∧ runN C n (st.put d (.ptr p (o1 + off)))) := by
  exact propext ⟨fun ⟨_, _, _, h1, h2, h3⟩ => by cases h1; exact ⟨h2, h3⟩, fun ⟨h2, h3⟩ => ⟨_, _, _, rfl, h2, h3⟩⟩
@[simp] theorem faddrS_ep (n d off sz ft p i o1) (st : St) : faddrS C n d (some (off, sz, ft)) (.ep p i o1) st = (0 < sz ∧ runN C n (st.put d (.ep p i (o1 + off)))) := by
  exact propext ⟨fun ⟨_, _, _, h1, h2, h3⟩ => by cases h1; exact ⟨h2, h3⟩, fun ⟨h2, h3⟩ => ⟨_, _, _, rfl, h2, h3⟩⟩
@[simp] theorem faddrS_vptr (n d off sz ft cells) (st : St) : faddrS C n d (some (off, sz, ft)) (.vptr cells) st = (0 < sz ∧ runN C n (st.put d (.vptr (cells.drop off)))) := by
  exact propext ⟨fun ⟨_, _, _, h1, h2, h3⟩ => by cases h1; exact ⟨h2, h3⟩, fun ⟨h2, h3⟩ => ⟨_, _, _, rfl, h2, h3⟩⟩

def elemOf (C : Ctx) (t : TypeId) : Option TyD := ((C.ty t).bind (·.elem)).bind C.ty

def iaddrS (C : Ctx) (n : Nxt) (d : Option Tmp) (de : Option TyD) (x i : AV) (st : St) : Prop :=
  ∃ e k z, de = some e ∧ i = .int k z ∧
  match x with
  | .view _ sz xs => sz = e.size ∧ (0 ≤ z ∧ z < xs.length) ∧ ∀ cells, xs[z.toNat]? = some cells → runN C n (st.put d (.vptr cells))
  | .ref r s off len => s = e.size ∧ (0 ≤ z ∧ z < len) ∧ runN C n (st.put d (.ep r (off + z.toNat) 0))
  | _ => False
@[simp] theorem run_iaddr (d t x j ty ps af n0 gd i os) (st : St) (k : Kont) :
    runS C n0 gd i (⟨d, .indexAddr t x j, ty, ps, af, none⟩ :: os) st k = iaddrS C ⟨n0, gd, i + 1, os, k⟩ d (elemOf C t) (st.ev x) (st.ev j) st := by
  simp only [runS, runA, stepA, iaddrS, elemOf, runN]
  apply propext
  constructor
  · rintro ⟨dT, e, de, kk, z, h1, h2, h3, h4, h5⟩; exact ⟨de, kk, z, by simp [h1, h2, h3], h4, h5⟩
  · rintro ⟨de, kk, z, h1, h4, h5⟩
    simp only [Option.bind_eq_some_iff] at h1
    obtain ⟨e, ⟨dT, h1, h2⟩, h3⟩ := h1
    exact ⟨dT, e, de, kk, z, h1, h2, h3, h4, h5⟩
theorem iaddr_view {n d e p sz xs kk} {z : Int} {cells} {st : St} (hs : sz = e.size) (h0 : 0 ≤ z) (hc : xs[z.toNat]? = some cells) (hr : runN C n (st.put d (.vptr cells))) :
    iaddrS C n d (some e) (.view p sz xs) (.int kk z) st := by
  have hlt := (List.getElem?_eq_some_iff.1 hc).1
  exact ⟨e, kk, z, rfl, rfl, hs, ⟨h0, by omega⟩, fun c h => by rw [hc] at h; cases h; exact hr⟩
theorem iaddr_ref {n d e r s off kk} {len : Nat} {z : Int} {st : St} (hs : s = e.size) (h0 : 0 ≤ z) (h1 : z < len) (hr : runN C n (st.put d (.ep r (off + z.toNat) 0))) :
    iaddrS C n d (some e) (.ref r s off len) (.int kk z) st := ⟨e, kk, z, rfl, rfl, hs, ⟨h0, h1⟩, hr⟩

/-! ### calls, len, the rest -/
def doCall (C : Ctx) (n : Nxt) (d : Option Tmp) (g : FuncId) (args : List AV) (st : St) : Prop :=
  ACall C.P g args st.h st.nx fun r h' nx' => runN C n (({ st with h := h', nx := nx' } : St).put d r)
def callS (C : Ctx) (n : Nxt) (d : Option Tmp) (f : AV) (args : List AV) (st : St) : Prop :=
  match f with
  | .fn g caps => doCall C n d g (args ++ caps) st
  | _ => False
@[simp] theorem run_call (d f args ats ty ps af n0 gd i os) (st : St) (k : Kont) :
    runS C n0 gd i (⟨d, .call ⟨.value f, args, ats⟩, ty, ps, af, none⟩ :: os) st k = callS C ⟨n0, gd, i + 1, os, k⟩ d (st.ev f) (args.toList.map st.ev) st := by
  simp only [runS, runA, stepA, callS, doCall, runN]
  cases st.ev f <;> rfl
@[simp] theorem callS_fn (n d g caps args) (st : St) : callS C n d (.fn g caps) args st = doCall C n d g (args ++ caps) st := propext Iff.rfl

def lenS (C : Ctx) (n : Nxt) (d : Option Tmp) (ty : Option TyD) (l : Option (Nat × Bool)) (st : St) : Prop :=
  ∃ dT m b, ty = some dT ∧ l = some (m, b) ∧ (if b then dT.elem.isSome = true else dT.isStr = true) ∧ ((b = true → m ≤ LIM) → runN C n (st.put d (.int .i64 m)))
@[simp] theorem run_len (d x t ty ps af n0 gd i os) (st : St) (k : Kont) :
    runS C n0 gd i (⟨d, .call ⟨.builtin .len, #[x], #[t]⟩, ty, ps, af, none⟩ :: os) st k = lenS C ⟨n0, gd, i + 1, os, k⟩ d (C.ty t) (lenA (st.ev x)) st := propext Iff.rfl
theorem lenS_slice {n d dT m} {st : St} (he : dT.elem.isSome = true) (h : m ≤ LIM → runN C n (st.put d (.int .i64 m))) : lenS C n d (some dT) (some (m, true)) st :=
  ⟨dT, m, true, rfl, rfl, he, fun h' => h (h' rfl)⟩
@[simp] theorem lenS_str (n d s b z e ik f m) (st : St) : lenS C n d (some ⟨s, b, false, z, e, ik, true, f⟩) (some (m, false)) st = runN C n (st.put d (.int .i64 m)) := by
  simp [lenS]
@[simp] theorem lenA_nil : lenA .nil = some (0, true) := rfl
@[simp] theorem lenA_view (p s xs) : lenA (.view p s xs) = some (xs.length, true) := rfl
@[simp] theorem lenA_ref (i s o l) : lenA (.ref i s o l) = some (l, true) := rfl
@[simp] theorem lenA_str (s) : lenA (.str s) = some (s.size, false) := rfl

def notS (C : Ctx) (n : Nxt) (d : Option Tmp) (v : AV) (st : St) : Prop := match v with | .bool b => runN C n (st.put d (.bool !b)) | _ => False
@[simp] theorem run_not (d t x ty ps af n0 gd i os) (st : St) (k : Kont) : runS C n0 gd i (⟨d, .unOp .not t x, ty, ps, af, none⟩ :: os) st k = notS C ⟨n0, gd, i + 1, os, k⟩ d (st.ev x) st := by
  simp only [runS, runA, stepA, notS, runN]; cases st.ev x <;> rfl
@[simp] theorem notS_bool (n d b) (st : St) : notS C n d (.bool b) st = runN C n (st.put d (.bool !b)) := propext Iff.rfl
def negS (C : Ctx) (n : Nxt) (d : Option Tmp) (v : AV) (st : St) : Prop := match v with | .int k z => runN C n (st.put d (.int k (k.wrap (0 - z)))) | _ => False
@[simp] theorem run_neg (d t x ty ps af n0 gd i os) (st : St) (k : Kont) : runS C n0 gd i (⟨d, .unOp .neg t x, ty, ps, af, none⟩ :: os) st k = negS C ⟨n0, gd, i + 1, os, k⟩ d (st.ev x) st := by
  simp only [runS, runA, stepA, negS, runN]; cases st.ev x <;> rfl
@[simp] theorem negS_int (n d k z) (st : St) : negS C n d (.int k z) st = runN C n (st.put d (.int k (k.wrap (0 - z)))) := propext Iff.rfl

def convS (C : Ctx) (n : Nxt) (d : Option Tmp) (ts tyd : Option TyD) (v : AV) (st : St) : Prop :=
  match v with
  | .int _ z => ∃ ds dT k, ts = some ds ∧ tyd = some dT ∧ dT.ik = some k ∧ runN C n (st.put d (.int k (k.wrap z)))
  | _ => False
@[simp] theorem run_conv (d s t x ty ps af n0 gd i os) (st : St) (k : Kont) : runS C n0 gd i (⟨d, .convert s t x, ty, ps, af, none⟩ :: os) st k = convS C ⟨n0, gd, i + 1, os, k⟩ d (C.ty s) (C.ty t) (st.ev x) st := by
  simp only [runS, runA, stepA, convS, runN]; cases st.ev x <;> rfl
@[simp] theorem convS_int (n d ds s b a z e kk is f k v) (st : St) : convS C n d (some ds) (some ⟨s, b, a, z, e, some kk, is, f⟩) (.int k v) st = runN C n (st.put d (.int kk (kk.wrap v))) := by
  simp [convS]

@[simp] theorem run_mkfn (d f caps ty ps af n0 gd i os) (st : St) (k : Kont) :
    runS C n0 gd i (⟨d, .makeFunc (.func f) #[] caps, ty, ps, af, none⟩ :: os) st k = runS C n0 gd (i + 1) os (st.put d (.fn f (caps.toList.map st.ev))) k := by
  simp [runS, runA, stepA]

def extrS (C : Ctx) (n : Nxt) (d : Option Tmp) (v : AV) (j : Nat) (st : St) : Prop := match v with | .tup vs => valS C n d vs[j]? st | _ => False
@[simp] theorem run_extr (d x j ty ps af n0 gd i os) (st : St) (k : Kont) : runS C n0 gd i (⟨d, .extract x j, ty, ps, af, none⟩ :: os) st k = extrS C ⟨n0, gd, i + 1, os, k⟩ d (st.ev x) j st := by
  simp only [runS, runA, stepA, extrS, runN, valS]; cases st.ev x <;> rfl
@[simp] theorem extrS_tup (n d vs j) (st : St) : extrS C n d (.tup vs) j st = valS C n d vs[j]? st := propext Iff.rfl

def nilS (C : Ctx) (n : Nxt) (d : Option Tmp) (v : AV) (st : St) : Prop := (match v with | .ptr .. | .ep .. | .vptr _ => True | _ => False) ∧ runN C n (st.put d v)
@[simp] theorem run_nilc (d x ty ps af n0 gd i os) (st : St) (k : Kont) : runS C n0 gd i (⟨d, .nilCheck x, ty, ps, af, none⟩ :: os) st k = nilS C ⟨n0, gd, i + 1, os, k⟩ d (st.ev x) st := propext Iff.rfl
@[simp] theorem nilS_ptr (n d p o) (st : St) : nilS C n d (.ptr p o) st = runN C n (st.put d (.ptr p o)) := by simp [nilS]
@[simp] theorem nilS_ep (n d p x o) (st : St) : nilS C n d (.ep p x o) st = runN C n (st.put d (.ep p x o)) := by simp [nilS]
@[simp] theorem nilS_vptr (n d c) (st : St) : nilS C n d (.vptr c) st = runN C n (st.put d (.vptr c)) := by simp [nilS]

def fieldS (C : Ctx) (n : Nxt) (d : Option Tmp) (f : Option (Nat × Nat × TypeId)) (v : AV) (st : St) : Prop :=
  ∃ off sz ft dt, f = some (off, sz, ft) ∧ C.ty ft = some dt ∧ match v with | .agg cells => valS C n d (loadA dt cells off) st | _ => False
@[simp] theorem run_field (d t x f ty ps af n0 gd i os) (st : St) (k : Kont) :
    runS C n0 gd i (⟨d, .field t x f, ty, ps, af, none⟩ :: os) st k = fieldS C ⟨n0, gd, i + 1, os, k⟩ d (fieldOf (C.ty t) f) (st.ev x) st := by
  simp only [runS, runA, stepA, fieldS, fieldOf, runN, valS]
  apply propext
  constructor
  · rintro ⟨dT, off, sz, ft, dt, v, h1, h2, h3, h4, h5⟩
    refine ⟨off, sz, ft, dt, by simp [h1, h2, h3], h4, ?_⟩
    cases hx : st.ev x <;> simp only [hx] at h5 ⊢ <;> first | exact h5.elim | exact ⟨v, h5⟩
  · rintro ⟨off, sz, ft, dt, h1, h4, h5⟩
    cases hty : C.ty t with
    | none => simp [hty] at h1
    | some dT =>
      simp only [hty, Option.bind_some] at h1
      split at h1
      · cases hx : st.ev x <;> simp only [hx] at h5 ⊢ <;> first | exact h5.elim | (obtain ⟨v, h5⟩ := h5; exact ⟨dT, off, sz, ft, dt, v, rfl, by assumption, h1, h4, h5⟩)
      · cases h1

def buildS (C : Ctx) (n : Nxt) (d : Option Tmp) (ty : Option TyD) (parts : List (Nat × AV)) (st : St) : Prop :=
  ∃ dT, ty = some dT ∧ dT.agg = true ∧ (parts.all fun p => p.2.known) = true ∧ valS C n d ((fillA (dT.fields.map fun f => (f.1, f.2.1)) parts dT.zero).map .agg) st
@[simp] theorem run_build (d t parts ty ps af n0 gd i os) (st : St) (k : Kont) :
    runS C n0 gd i (⟨d, .build t parts, ty, ps, af, none⟩ :: os) st k = buildS C ⟨n0, gd, i + 1, os, k⟩ d (C.ty t) (parts.toList.map fun p => (p.1, st.ev p.2)) st := by
  simp only [runS, runA, stepA, buildS, runN, valS, List.all_map, Function.comp_def]
  apply propext
  constructor
  · rintro ⟨dT, cs, h1, h2, h3, h4, h5⟩; exact ⟨dT, h1, h2, h3, _, by simp [h4], h5⟩
  · rintro ⟨dT, h1, h2, h3, v, h4, h5⟩
    simp only [Option.map_eq_some_iff] at h4
    obtain ⟨cs, h4, rfl⟩ := h4
    exact ⟨dT, cs, h1, h2, h3, h4, h5⟩
@[simp] theorem buildS_mk (n d s b z e ik is f parts) (st : St) : buildS C n d (some ⟨s, b, true, z, e, ik, is, f⟩) parts st =
    ((parts.all fun p => p.2.known) = true ∧ valS C n d ((fillA (f.map fun f => (f.1, f.2.1)) parts z).map .agg) st) := by simp [buildS]
@[simp] theorem fillA_nil (fs cs) : fillA fs [] cs = some cs := rfl
@[simp] theorem fillA_cons (fs i v r cs) : fillA fs ((i, v) :: r) cs = match fs[i]? with
    | some (off, size) => if v.cells.length = size ∧ off + size ≤ cs.length then fillA fs r (splice cs off v.cells) else none
    | none => none := rfl


/-! ### rows -/
@[simp] theorem frz_nil (h : Heap) : frz h [] = some ([], h) := by unfold frz; rfl
@[simp] theorem frz_bool (h : Heap) (b cs) : frz h (.bool b :: cs) = (frz h cs).map fun p => (.bool b :: p.1, p.2) := by rw [frz]; cases frz h cs <;> rfl
@[simp] theorem frz_int (h : Heap) (k n cs) : frz h (.int k n :: cs) = (frz h cs).map fun p => (.int k n :: p.1, p.2) := by rw [frz]; cases frz h cs <;> rfl
@[simp] theorem frz_str (h : Heap) (n cs) : frz h (.str n :: cs) = (frz h cs).map fun p => (.str n :: p.1, p.2) := by rw [frz]; cases frz h cs <;> rfl
@[simp] theorem frz_nilS (h : Heap) (cs) : frz h (.nil :: cs) = (frz h cs).map fun p => (.nil :: p.1, p.2) := by rw [frz]; cases frz h cs <;> rfl
@[simp] theorem frz_view (h : Heap) (s x cs) : frz h (.view true s x :: cs) = (frz h cs).map fun p => (.view true s x :: p.1, p.2) := by rw [frz]; cases frz h cs <;> rfl
def frzRef (h : Heap) (id off len : Nat) (e : Option Ent) (cs : List AV) : Option (List AV × Heap) :=
  match e with
  | some (.row sz xs) => if off + len ≤ xs.length then (frz (upd h id none) cs).map fun p => (.view true sz ((xs.drop off).take len) :: p.1, p.2) else none
  | _ => none
@[simp] theorem frz_ref (h : Heap) (id s off len cs) : frz h (.ref id s off len :: cs) = frzRef h id off len (h id) cs := by
  unfold frzRef
  cases hh : h id with
  | none => unfold frz; simp only [hh]
  | some e =>
    cases e with
    | obj => unfold frz; simp only [hh]
    | row sz xs =>
      rw [frz]; simp only [hh]
      by_cases hl : off + len ≤ xs.length
      · simp only [hl, if_true]
        cases frz (upd h id none) cs with
        | none => rfl
        | some p => cases p; rfl
      · simp only [hl, if_false]
@[simp] theorem frzRef_row (h : Heap) (id off len sz xs cs) : frzRef h id off len (some (.row sz xs)) cs =
    if off + len ≤ xs.length then (frz (upd h id none) cs).map fun p => (.view true sz ((xs.drop off).take len) :: p.1, p.2) else none := rfl

def rowK (n : Nat) (r : List (Nat × AV)) (xs : List (List AV)) (i : Nat) : Option (List AV × Heap) → Option (List (List AV) × Heap)
  | some (cs, h') => rowA n h' r (xs.set i cs)
  | none => none
@[simp] theorem rowA_nil (n) (h : Heap) (xs) : rowA n h [] xs = some (xs, h) := by rw [rowA]
@[simp] theorem rowA_cons (n) (h : Heap) (i v r xs) : rowA n h ((i, v) :: r) xs = if v.cells.length = n ∧ i < xs.length ∧ v.known = true then rowK n r xs i (frz h v.cells) else none := by
  rw [rowA]; split
  · cases frz h v.cells <;> rfl
  · rfl
@[simp] theorem rowK_some (n r xs i cs) (h' : Heap) : rowK n r xs i (some (cs, h')) = rowA n h' r (xs.set i cs) := rfl

def bsliceK (C : Ctx) (id : Nat) (n : Nxt) (d : Option Tmp) (sz len : Nat) (st : St) (r : Option (List (List AV) × Heap)) : Prop :=
  ∃ xs h', r = some (xs, h') ∧ runN C n ((({ st with h := h' } : St).new id (.row sz xs)).put d (.ref id sz 0 len))
def bsliceS (C : Ctx) (id : Nat) (n : Nxt) (d : Option Tmp) (de : Option TyD) (len : Nat) (parts : List (Nat × AV)) (st : St) : Prop :=
  ∃ e, de = some e ∧ 0 < e.size ∧ len * e.size ≤ 2 ^ 24 ∧ e.zero.all AV.known = true ∧ bsliceK C id n d e.size len st (rowA e.size st.h parts (List.replicate len e.zero))
@[simp] theorem run_bslice (d t len parts ty ps af n0 gd i os) (st : St) (k : Kont) :
    runS C n0 gd i (⟨d, .buildSlice t len parts, ty, ps, af, none⟩ :: os) st k = bsliceS C (n0 + i) ⟨n0, gd, i + 1, os, k⟩ d (elemOf C t) len (parts.toList.map fun p => (p.1, st.ev p.2)) st := by
  simp only [runS, runA, stepA, bsliceS, bsliceK, elemOf, runN]
  apply propext
  constructor
  · rintro ⟨dT, e, de, xs, h', h1, h2, h3, h4, h5, h6, h7, h8⟩
    exact ⟨de, by simp [h1, h2, h3], h4, h5, h6, xs, h', h7, h8⟩
  · rintro ⟨de, h1, h4, h5, h6, xs, h', h7, h8⟩
    simp only [Option.bind_eq_some_iff] at h1
    obtain ⟨e, ⟨dT, h1, h2⟩, h3⟩ := h1
    exact ⟨dT, e, de, xs, h', h1, h2, h3, h4, h5, h6, h7, h8⟩
@[simp] theorem bsliceS_mk (id n d e len parts) (st : St) : bsliceS C id n d (some e) len parts st =
    (0 < e.size ∧ len * e.size ≤ 2 ^ 24 ∧ e.zero.all AV.known = true ∧ bsliceK C id n d e.size len st (rowA e.size st.h parts (List.replicate len e.zero))) := by
  simp [bsliceS]
@[simp] theorem bsliceK_some (id n d sz len) (st : St) (xs h') : bsliceK C id n d sz len st (some (xs, h')) = runN C n ((({ st with h := h' } : St).new id (.row sz xs)).put d (.ref id sz 0 len)) :=
  propext ⟨fun ⟨_, _, h1, h2⟩ => by cases h1; exact h2, fun h => ⟨_, _, rfl, h⟩⟩

def mksliceS (C : Ctx) (id : Nat) (n : Nxt) (d : Option Tmp) (de : Option TyD) (l c : AV) (st : St) : Prop :=
  ∃ e k k' z, de = some e ∧ l = .int k z ∧ c = .int k' z ∧ 0 < e.size ∧ e.bytes ≤ 128 ∧ 0 ≤ z ∧ z ≤ LIM ∧ runN C n ((st.new id (.row e.size (List.replicate z.toNat e.zero))).put d (.ref id e.size 0 z.toNat))
@[simp] theorem run_mkslice (d t l c ty ps af n0 gd i os) (st : St) (k : Kont) :
    runS C n0 gd i (⟨d, .makeSlice t l c, ty, ps, af, none⟩ :: os) st k = mksliceS C (n0 + i) ⟨n0, gd, i + 1, os, k⟩ d (elemOf C t) (st.ev l) (st.ev c) st := by
  simp only [runS, runA, stepA, mksliceS, elemOf, runN]
  apply propext
  generalize st.ev l = lv
  generalize st.ev c = cv
  constructor
  · intro h
    cases lv <;> cases cv <;> first | exact h.elim | skip
    obtain ⟨dT, e, de, h1, h2, h3, h4, h5, rfl, h7, h8, h9⟩ := h
    exact ⟨de, _, _, _, by simp [h1, h2, h3], rfl, rfl, h4, h5, h7, h8, h9⟩
  · rintro ⟨de, k1, k2, z, h1, rfl, rfl, h4, h5, h7, h8, h9⟩
    simp only [Option.bind_eq_some_iff] at h1
    obtain ⟨e, ⟨dT, h1, h2⟩, h3⟩ := h1
    exact ⟨dT, e, de, h1, h2, h3, h4, h5, rfl, h7, h8, h9⟩
@[simp] theorem mksliceS_mk (id n d e k k' z) (st : St) : mksliceS C id n d (some e) (.int k z) (.int k' z) st =
    (0 < e.size ∧ e.bytes ≤ 128 ∧ 0 ≤ z ∧ z ≤ LIM ∧ runN C n ((st.new id (.row e.size (List.replicate z.toNat e.zero))).put d (.ref id e.size 0 z.toNat))) := by
  apply propext
  constructor
  · rintro ⟨e', a, b, c, h1, h2, h3, h⟩; cases h1; cases h2; exact h
  · intro h; exact ⟨e, k, k', z, rfl, rfl, rfl, h⟩

def sliceS (C : Ctx) (n : Nxt) (d : Option Tmp) (de : Option TyD) (x : AV) (lo hi : Option AV) (st : St) : Prop :=
  ∃ e m l h, de = some e ∧ lenA x = some (m, true) ∧
      (match lo with | none => l = 0 | some v => ∃ k z, v = .int k z ∧ 0 ≤ z ∧ l = z.toNat) ∧
      (match hi with | none => h = m | some v => ∃ k z, v = .int k z ∧ 0 ≤ z ∧ h = z.toNat) ∧ l ≤ h ∧ h ≤ m ∧
      (match x with
       | .nil => runN C n (st.put d .nil)
       | .view p sz xs => sz = e.size ∧ runN C n (st.put d (.view p sz ((xs.drop l).take (h - l))))
       | .ref r s off _ => s = e.size ∧ runN C n (st.put d (.ref r s (off + l) (h - l)))
       | _ => False)
@[simp] theorem run_slice (d t x lo hi ty ps af n0 gd i os) (st : St) (k : Kont) :
    runS C n0 gd i (⟨d, .slice t x lo hi none, ty, ps, af, none⟩ :: os) st k = sliceS C ⟨n0, gd, i + 1, os, k⟩ d (elemOf C t) (st.ev x) (lo.map st.ev) (hi.map st.ev) st := by
  simp only [runS, runA, stepA, sliceS, elemOf, runN]
  apply propext
  constructor
  · rintro ⟨_, dT, e, de, m, l, h, h1, h2, h3, h4, h5, h6, h7, h8, h9⟩
    exact ⟨de, m, l, h, by simp [h1, h2, h3], h4, by cases lo <;> exact h5, by cases hi <;> exact h6, h7, h8, h9⟩
  · rintro ⟨de, m, l, h, h1, h4, h5, h6, h7, h8, h9⟩
    simp only [Option.bind_eq_some_iff] at h1
    obtain ⟨e, ⟨dT, h1, h2⟩, h3⟩ := h1
    exact ⟨trivial, dT, e, de, m, l, h, h1, h2, h3, h4, by cases lo <;> exact h5, by cases hi <;> exact h6, h7, h8, h9⟩
def bndA (m : Nat) : Option AV → Option Nat
  | none => some m
  | some (.int _ z) => if 0 ≤ z then some z.toNat else none
  | _ => none
theorem slice_view {n d e p sz xs lo hi l h} {st : St} (hs : sz = e.size) (hl : bndA 0 lo = some l) (hh : bndA xs.length hi = some h) (h1 : l ≤ h) (h2 : h ≤ xs.length)
    (hr : runN C n (st.put d (.view p sz ((xs.drop l).take (h - l))))) : sliceS C n d (some e) (.view p sz xs) lo hi st := by
  refine ⟨e, xs.length, l, h, rfl, rfl, ?_, ?_, h1, h2, hs, hr⟩
  · unfold bndA at hl; split at hl
    · cases hl; rfl
    · split at hl
      · cases hl; exact ⟨_, _, rfl, by assumption, rfl⟩
      · cases hl
    · cases hl
  · unfold bndA at hh; split at hh
    · cases hh; rfl
    · split at hh
      · cases hh; exact ⟨_, _, rfl, by assumption, rfl⟩
      · cases hh
    · cases hh
theorem slice_ref {n d e r sz off m lo hi l h} {st : St} (hs : sz = e.size) (hl : bndA 0 lo = some l) (hh : bndA m hi = some h) (h1 : l ≤ h) (h2 : h ≤ m)
    (hr : runN C n (st.put d (.ref r sz (off + l) (h - l)))) : sliceS C n d (some e) (.ref r sz off m) lo hi st := by
  refine ⟨e, m, l, h, rfl, rfl, ?_, ?_, h1, h2, hs, hr⟩
  · unfold bndA at hl; split at hl
    · cases hl; rfl
    · split at hl
      · cases hl; exact ⟨_, _, rfl, by assumption, rfl⟩
      · cases hl
    · cases hl
  · unfold bndA at hh; split at hh
    · cases hh; rfl
    · split at hh
      · cases hh; exact ⟨_, _, rfl, by assumption, rfl⟩
      · cases hh
    · cases hh

def appS (C : Ctx) (id : Nat) (n : Nxt) (d : Option Tmp) (t : TypeId) (s x : AV) (st : St) : Prop := appendA C id s x t st fun r s' => runN C n (s'.put d r)
@[simp] theorem run_append (d s x t ty ps af n0 gd i os) (st : St) (k : Kont) :
    runS C n0 gd i (⟨d, .call ⟨.builtin .append, #[s, x], #[t, t]⟩, ty, ps, af, none⟩ :: os) st k = appS C (n0 + i) ⟨n0, gd, i + 1, os, k⟩ d t (st.ev s) (st.ev x) st := by
  simp [runS, runA, stepA, appS, runN]
theorem app_ref {id n d t e r off len x xs ys} {st : St} (he : elemOf C t = some e) (hp : 0 < e.size) (hb : e.bytes ≤ 128) (hrow : st.h r = some (.row e.size xs)) (hx : rowOf st.h e.size x = some ys)
    (hend : off + len = xs.length) (hl : len + ys.length ≤ LIM) (ho : ys.all (fun cs => cs.all AV.one) = true)
    (hr : runN C n ((({ st with h := upd st.h r none } : St).new id (.row e.size (xs.drop off ++ ys))).put d (.ref id e.size 0 (len + ys.length)))) :
    appS C id n d t (.ref r e.size off len) x st := by
  unfold elemOf at he
  simp only [Option.bind_eq_some_iff] at he
  obtain ⟨te, ⟨dT, h1, h2⟩, h3⟩ := he
  have hd : (xs.drop off).take len = xs.drop off := List.take_of_length_le (by simp; omega)
  refine ⟨dT, te, e, xs.drop off, ys, h1, h2, h3, hp, hb, ?_, hx, by simp; omega, ho, fun s' ws hw => ?_, ?_⟩
  · simp [rowOf, hrow, hd]; omega
  · rw [hrow] at hw; cases hw; exact hend
  · have : (xs.drop off ++ ys).length = len + ys.length := by simp; omega
    rw [this]; exact hr
theorem app_nil {id n d t e x ys} {st : St} (he : elemOf C t = some e) (hp : 0 < e.size) (hb : e.bytes ≤ 128) (hx : rowOf st.h e.size x = some ys) (hl : ys.length ≤ LIM) (ho : ys.all (fun cs => cs.all AV.one) = true)
    (hr : runN C n ((st.new id (.row e.size ys)).put d (.ref id e.size 0 ys.length))) : appS C id n d t .nil x st := by
  unfold elemOf at he
  simp only [Option.bind_eq_some_iff] at he
  obtain ⟨te, ⟨dT, h1, h2⟩, h3⟩ := he
  exact ⟨dT, te, e, [], ys, h1, h2, h3, hp, hb, rfl, hx, by simpa using hl, ho, hr⟩
@[simp] theorem rowOf_nil (h : Heap) (sz) : rowOf h sz .nil = some [] := rfl
@[simp] theorem rowOf_view (h : Heap) (sz p s xs) : rowOf h sz (.view p s xs) = if s = sz then some xs else none := rfl
def rowOfE (sz s0 off len : Nat) : Option Ent → Option (List (List AV))
  | some (.row s xs) => if s = sz ∧ s0 = sz ∧ off + len ≤ xs.length then some ((xs.drop off).take len) else none
  | _ => none
@[simp] theorem rowOf_ref (h : Heap) (sz id s off len) : rowOf h sz (.ref id s off len) = rowOfE sz s off len (h id) := by
  cases hh : h id with
  | none => simp only [rowOf, hh]; rfl
  | some e => cases e <;> (simp only [rowOf, hh]; rfl)
@[simp] theorem rowOfE_row (sz s0 off len s xs) : rowOfE sz s0 off len (some (.row s xs)) = if s = sz ∧ s0 = sz ∧ off + len ≤ xs.length then some ((xs.drop off).take len) else none := rfl

/-! ### contracts -/
/-- A function that tells a value, and leaves memory as it was. -/
def PC (P : Program) (f : FuncId) (args : List AV) (r : AV) : Prop := ∀ (h : Heap) (nx : Nat) (Q : AV → Heap → Nat → Prop), Q r h nx → ACall P f args h nx Q

theorem call_pc {n d g args r} {st : St} (hc : PC C.P g args r) (hr : runN C n (st.put d r)) : doCall C n d g args st := hc _ _ _ hr

theorem PC.of_body (ok : C.Ok) {f : FuncId} {fn : Func} {c : Code} {args : List AV} {r : AV} (hf : C.P.funcs[f]? = some fn) (hb : fn.body = some c)
    (hname : (fn.name == "runtime.NumGoroutine") = false) (hc : codeOk fn.ntmps c = true) (hargs : args.length ≤ fn.ntmps) (hp : Plain r)
    (hw : ∀ (h : Heap) (nx : Nat), (∀ j, h j ≠ none → j < nx) → goC C c ⟨argT args, h, nx⟩ (.fin (RetK C fn.results.toList fun r' h' _ => r' = r ∧ ∀ j, j < nx → h' j = h j))) : PC C.P f args r := by
  intro h nx Q hQ
  refine ⟨⟨fn, hf, hname, by simp [hb]⟩, fun ρ I w vs hnm H hv => ?_⟩
  have hlt : ∀ j, h j ≠ none → j < nx := by
    intro j hj
    cases he : h j with
    | none => exact absurd he hj
    | some e => obtain ⟨B, hB⟩ := (H.ent he).base; exact hnm j B hB
  have hcall := ACall.of_body (Q := fun r' h' _ => r' = r ∧ ∀ j, j < nx → h' j = h j) ok hf hb hname hc hargs (hw h nx hlt)
  have := ACall.pure (R := fun r' => r' = r) (Q := Q) (hcall.mono (Q' := fun r' h1 _ => (∀ id e, h id = some e → h1 id = some e) ∧ Plain r' ∧ r' = r) fun r' h' nx' ⟨h1, h2⟩ =>
    ⟨fun id e he => by rw [h2 id (hlt id (by rw [he]; simp))]; exact he, h1 ▸ hp, h1⟩) (fun r' hr => hr ▸ hQ)
  exact this.2 ρ I w vs hnm H hv

end
end Go.AE
