/- Abstract machine: states, one operation. -/
import Derived.Test.YtkfdpbhjklaecaaAeDefs
namespace Go.AE
set_option linter.unusedVariables false

structure TyD where
  size : Nat
  bytes : Nat
  agg : Bool
  zero : List AV
  elem : Option TypeId := none
  ik : Option IntKind := none
  isStr : Bool := false
  fields : List (Nat × Nat × TypeId) := []

structure Ctx where
  P : Program
  ty : TypeId → Option TyD
  eqA : TypeId → AV → AV → Option Bool

structure St where
  t : Nat → AV
  h : Heap
  nx : Nat

def upd {α : Type} (f : Nat → α) (i : Nat) (v : α) : Nat → α := fun j => if j = i then v else f j

@[simp] theorem upd_same {α : Type} (f : Nat → α) (i : Nat) (v : α) : upd f i v i = v := by simp [upd]
theorem upd_ne {α : Type} (f : Nat → α) (i j : Nat) (v : α) (h : j ≠ i) : upd f i v j = f j := by simp [upd, h]

def St.put (s : St) (d : Option Tmp) (v : AV) : St :=
  match d with
  | some d => { s with t := upd s.t d v }
  | none => s

def constA : Value → AV
  | .bool b => .bool b
  | .int k n => .int k n
  | .string s => .str s
  | .slice none 0 0 => .nil
  | _ => .dead

def St.ev (s : St) : Operand → AV
  | .tmp t => s.t t
  | .const v => constA v
  | .func f => .fn f []
  | .global _ => .dead

/-- A new entry under a name that was kept free. -/
def St.new (s : St) (id : Nat) (e : Ent) : St := { s with h := upd s.h id (some e) }

/-- The cells of a list from a place on, replaced. -/
def splice (cs : List AV) (off : Nat) (vs : List AV) : List AV := cs.take off ++ vs ++ cs.drop (off + vs.length)

def loadA (d : TyD) (cells : List AV) (off : Nat) : Option AV :=
  if d.agg then (if off + d.size ≤ cells.length then some (.agg ((cells.drop off).take d.size)) else none) else cells[off]?

/-- Slices in one value's cells that are headers of own rows become immutable: what is laid into a row's element. -/
def frz : Heap → List AV → Option (List AV × Heap)
  | h, [] => some ([], h)
  | h, c :: cs =>
    match c with
    | .ref id _ off len =>
      match h id with
      | some (.row sz xs) =>
        if off + len ≤ xs.length then
          match frz (upd h id none) cs with
          | some (r, h') => some (.view true sz ((xs.drop off).take len) :: r, h')
          | none => none
        else none
      | _ => none
    | .bool _ | .int _ _ | .str _ | .nil | .view true _ _ =>
      match frz h cs with
      | some (r, h') => some (c :: r, h')
      | none => none
    | _ => none

/-- A struct's cells, its given fields laid over them. -/
def fillA (fs : List (Nat × Nat)) : List (Nat × AV) → List AV → Option (List AV)
  | [], cs => some cs
  | (i, v) :: r, cs =>
    match fs[i]? with
    | some (off, size) => if v.cells.length = size ∧ off + size ≤ cs.length then fillA fs r (splice cs off v.cells) else none
    | none => none

def binA (eq : Option Bool) (op : BinOp) (x y : AV) : Option AV :=
  match x, y with
  | .int k a, .int k' b =>
    if k = k' then
      match op with
      | .add => some (.int k (k.wrap (a + b)))
      | .sub => some (.int k (k.wrap (a - b)))
      | .mul => some (.int k (k.wrap (a * b)))
      | .quo => if b = 0 then none else some (.int k (k.wrap (a.tdiv b)))
      | .rem => if b = 0 then none else some (.int k (a.tmod b))
      | .eql => some (.bool (a == b))
      | .neq => some (.bool (a != b))
      | .lss => some (.bool (a < b))
      | .leq => some (.bool (a ≤ b))
      | .gtr => some (.bool (a > b))
      | .geq => some (.bool (a ≥ b))
      | _ => none
    else none
  | .str a, .str b =>
    match op with
    | .eql => some (.bool (a.toList == b.toList))
    | .neq => some (.bool (!(a.toList == b.toList)))
    | _ => none
  | _, _ =>
    match op with
    | .eql => eq.map .bool
    | .neq => eq.map fun b => .bool (!b)
    | _ => none

def rowA (n : Nat) : Heap → List (Nat × AV) → List (List AV) → Option (List (List AV) × Heap)
  | h, [], xs => some (xs, h)
  | h, (i, v) :: r, xs =>
    if v.cells.length = n ∧ i < xs.length ∧ v.known = true then
      match frz h v.cells with
      | some (cs, h') => rowA n h' r (xs.set i cs)
      | none => none
    else none

def VRs (ρ : Names) (I : Imm) (w : World) (args : List AV) (vs : Array Value) : Prop :=
  vs.size = args.length ∧ ∀ (i : Nat) x u, args[i]? = some x → vs[i]? = some u → VR ρ I w x u

/-- New names are from nx on. -/
def Fresh (nx : Nat) (ρ ρ' : Names) : Prop := ∀ id B, ρ' id = some B → ρ id = some B ∨ nx ≤ id

/-- The function can be entered. -/
def Enters (P : Program) (f : FuncId) : Prop :=
  ∃ fn, P.funcs[f]? = some fn ∧ (fn.name == "runtime.NumGoroutine") = false ∧ fn.body.isNone = false

/-- What a call does to abstract memory. -/
def ACall (P : Program) (f : FuncId) (args : List AV) (h : Heap) (nx : Nat) (Q : AV → Heap → Nat → Prop) : Prop :=
  Enters P f ∧ ∀ (ρ : Names) (I : Imm) (w : World) (vs : Array Value), (∀ id B, ρ id = some B → id < nx) → HRel ρ I w h → VRs ρ I w args vs →
    Calls P f vs w fun e w' => ∃ v r h' nx' ρ' I', e = .returned v ∧ Q r h' nx' ∧ VR ρ' I' w' r v ∧ HRel ρ' I' w' h' ∧
      Ext h ρ I w h' ρ' I' w' ∧ Fresh nx ρ ρ' ∧ nx ≤ nx' ∧ ∀ id B, ρ' id = some B → id < nx'

def lenA : AV → Option (Nat × Bool)
  | .nil => some (0, true)
  | .view _ _ xs => some (xs.length, true)
  | .ref _ _ _ len => some (len, true)
  | .str s => some (s.size, false)
  | _ => none

/-- What a header shows. -/
def rowOf (h : Heap) (sz : Nat) : AV → Option (List (List AV))
  | .nil => some []
  | .view _ s xs => if s = sz then some xs else none
  | .ref id s0 off len =>
    match h id with
    | some (.row s xs) => if s = sz ∧ s0 = sz ∧ off + len ≤ xs.length then some ((xs.drop off).take len) else none
    | _ => none
  | _ => none

def appendA (C : Ctx) (id : Nat) (s x : AV) (t : TypeId) (st : St) (K : AV → St → Prop) : Prop :=
  ∃ d e de xs ys, C.ty t = some d ∧ d.elem = some e ∧ C.ty e = some de ∧ 0 < de.size ∧ de.bytes ≤ 128 ∧ rowOf st.h de.size s = some xs ∧ rowOf st.h de.size x = some ys ∧
    xs.length + ys.length ≤ LIM ∧ ys.all (fun cs => cs.all AV.one) = true ∧
    match s with
    | .nil => K (.ref id de.size 0 ys.length) (st.new id (.row de.size ys))
    | .ref r _ off len => (∀ s' ws, st.h r = some (.row s' ws) → off + len = ws.length) ∧ K (.ref id de.size 0 (xs ++ ys).length) (({ st with h := upd st.h r none } : St).new id (.row de.size (xs ++ ys)))
    | _ => False

/-- One operation, on a state; 'id': the name for what it may make. -/
def stepA (C : Ctx) (id : Nat) (o : Oper) (st : St) (K : St → Prop) : Prop :=
  match o.op with
  | .move x | .assign x => K (st.put o.dst (st.ev x))
  | .pick c x y => ∃ b, st.ev c = .bool b ∧ K (st.put o.dst (if b then st.ev x else st.ev y))
  | .alloc e => ∃ d, C.ty e = some d ∧ K ((st.new id (.obj d.zero)).put o.dst (.ptr id 0))
  | .box _ x => (st.ev x).known = true ∧ K ((st.new id (.obj (st.ev x).cells)).put o.dst (.ptr id 0))
  | .build t parts => ∃ d cs, C.ty t = some d ∧ d.agg = true ∧ (parts.toList.all fun p => (st.ev p.2).known) = true ∧
      fillA (d.fields.map fun f => (f.1, f.2.1)) (parts.toList.map fun (i, x) => (i, st.ev x)) d.zero = some cs ∧ K (st.put o.dst (.agg cs))
  | .buildSlice t len parts => ∃ d e de xs h', C.ty t = some d ∧ d.elem = some e ∧ C.ty e = some de ∧ 0 < de.size ∧ len * de.size ≤ 2 ^ 24 ∧ de.zero.all AV.known = true ∧
      rowA de.size st.h (parts.toList.map fun (i, x) => (i, st.ev x)) (List.replicate len de.zero) = some (xs, h') ∧
      K ((({ st with h := h' } : St).new id (.row de.size xs)).put o.dst (.ref id de.size 0 len))
  | .load t a =>
    match st.ev a with
    | .ptr p off => ∃ d cells v, C.ty t = some d ∧ st.h p = some (.obj cells) ∧ loadA d cells off = some v ∧ K (st.put o.dst v)
    | .ep p idx off => ∃ d sz xs, C.ty t = some d ∧ st.h p = some (.row sz xs) ∧ idx < xs.length ∧
        ∀ cells, xs[idx]? = some cells → ∃ v, loadA d cells off = some v ∧ K (st.put o.dst v)
    | .vptr cells => ∃ d v, C.ty t = some d ∧ loadA d cells 0 = some v ∧ K (st.put o.dst v)
    | _ => False
  | .store t a x =>
    (st.ev x).cells.all AV.one = true ∧
    match st.ev a with
    | .ptr p off => ∃ d cells, C.ty t = some d ∧ st.h p = some (.obj cells) ∧ (st.ev x).cells.length = d.size ∧ off + d.size ≤ cells.length ∧
        K ({ st with h := upd st.h p (some (.obj (splice cells off (st.ev x).cells))) }.put o.dst .dead)
    | .ep p idx off => ∃ d sz xs vs h', C.ty t = some d ∧ frz st.h (st.ev x).cells = some (vs, h') ∧ h' p = some (.row sz xs) ∧ vs.length = d.size ∧ off + d.size ≤ sz ∧ idx < xs.length ∧
        ∀ cells, xs[idx]? = some cells → K ({ st with h := upd h' p (some (.row sz (xs.set idx (splice cells off vs)))) }.put o.dst .dead)
    | _ => False
  | .nilCheck x => (match st.ev x with | .ptr .. | .ep .. | .vptr _ => True | _ => False) ∧ K (st.put o.dst (st.ev x))
  | .binOp op t x y _ => ∃ v, binA (C.eqA t (st.ev x) (st.ev y)) op (st.ev x) (st.ev y) = some v ∧ K (st.put o.dst v)
  | .unOp op _ x =>
    match op, st.ev x with
    | .not, .bool b => K (st.put o.dst (.bool !b))
    | .neg, .int k n => K (st.put o.dst (.int k (k.wrap (0 - n))))
    | _, _ => False
  | .convert src dst x =>
    match st.ev x with
    | .int _ n => ∃ ds d k, C.ty src = some ds ∧ C.ty dst = some d ∧ d.ik = some k ∧ K (st.put o.dst (.int k (k.wrap n)))
    | _ => False
  | .makeFunc fn first captured =>
    match fn with
    | .func f => first = #[] ∧ K (st.put o.dst (.fn f (captured.toList.map st.ev)))
    | _ => False
  | .makeSlice t l c =>
    match st.ev l, st.ev c with
    | .int _ n, .int _ m => ∃ d e de, C.ty t = some d ∧ d.elem = some e ∧ C.ty e = some de ∧ 0 < de.size ∧ de.bytes ≤ 128 ∧ n = m ∧ 0 ≤ n ∧ n ≤ LIM ∧
        K ((st.new id (.row de.size (List.replicate n.toNat de.zero))).put o.dst (.ref id de.size 0 n.toNat))
    | _, _ => False
  | .slice t x lo hi mx => mx = none ∧ ∃ d e de n l h, C.ty t = some d ∧ d.elem = some e ∧ C.ty e = some de ∧ lenA (st.ev x) = some (n, true) ∧
      (match lo with | none => l = 0 | some v => ∃ k z, st.ev v = .int k z ∧ 0 ≤ z ∧ l = z.toNat) ∧
      (match hi with | none => h = n | some v => ∃ k z, st.ev v = .int k z ∧ 0 ≤ z ∧ h = z.toNat) ∧ l ≤ h ∧ h ≤ n ∧
      (match st.ev x with
       | .nil => K (st.put o.dst .nil)
       | .view p sz xs => sz = de.size ∧ K (st.put o.dst (.view p sz ((xs.drop l).take (h - l))))
       | .ref r s off _ => s = de.size ∧ K (st.put o.dst (.ref r s (off + l) (h - l)))
       | _ => False)
  | .fieldAddr s x f => ∃ d off sz ft, C.ty s = some d ∧ d.agg = true ∧ d.fields[f]? = some (off, sz, ft) ∧ 0 < sz ∧
      (match st.ev x with
       | .ptr p o1 => K (st.put o.dst (.ptr p (o1 + off)))
       | .ep p i o1 => K (st.put o.dst (.ep p i (o1 + off)))
       | .vptr cells => K (st.put o.dst (.vptr (cells.drop off)))
       | _ => False)
  | .field t x f => ∃ d off sz ft dt v, C.ty t = some d ∧ d.agg = true ∧ d.fields[f]? = some (off, sz, ft) ∧ C.ty ft = some dt ∧
      (match st.ev x with
       | .agg cells => loadA dt cells off = some v ∧ K (st.put o.dst v)
       | _ => False)
  | .indexAddr t x i => ∃ d e de k z, C.ty t = some d ∧ d.elem = some e ∧ C.ty e = some de ∧ st.ev i = .int k z ∧
      (match st.ev x with
       | .view _ sz xs => sz = de.size ∧ (0 ≤ z ∧ z < xs.length) ∧ ∀ cells, xs[z.toNat]? = some cells → K (st.put o.dst (.vptr cells))
       | .ref r s off len => s = de.size ∧ (0 ≤ z ∧ z < len) ∧ K (st.put o.dst (.ep r (off + z.toNat) 0))
       | _ => False)
  | .index t x i =>
    match st.ev x, st.ev i with
    | .str s, .int _ z => (∃ d, C.ty t = some d ∧ d.isStr = true) ∧ (0 ≤ z ∧ z < s.size) ∧ ∀ b, s[z.toNat]? = some b → K (st.put o.dst (.int .u8 b.toNat))
    | _, _ => False
  | .extract x i =>
    match st.ev x with
    | .tup vs => ∃ v, vs[i]? = some v ∧ K (st.put o.dst v)
    | _ => False
  | .call c =>
    match c.callee with
    | .value f =>
      (match st.ev f with
       | .fn g caps => ACall C.P g (c.args.toList.map st.ev ++ caps) st.h st.nx fun r h' nx' => K (({ st with h := h', nx := nx' } : St).put o.dst r)
       | _ => False)
    | .builtin .len =>
      (match c.args.toList, c.argTypes.toList with
       | [x], [t] => ∃ d n b, C.ty t = some d ∧ lenA (st.ev x) = some (n, b) ∧ (if b then d.elem.isSome = true else d.isStr = true) ∧ ((b = true → n ≤ LIM) → K (st.put o.dst (.int .i64 n)))
       | _, _ => False)
    | .builtin .append =>
      (match c.args.toList, c.argTypes.toList with
       | [s, x], [t, t'] => t' = t ∧ appendA C id (st.ev s) (st.ev x) t st fun r s' => K (s'.put o.dst r)
       | _, _ => False)
    | _ => False
  | _ => False

/-- An operation with a guard; the empty tuple is what a skipped operation leaves. -/
def grdA (v : AV) (want : Bool) (run skip : Prop) : Prop :=
  match v with
  | .bool b => (b = want → run) ∧ (b ≠ want → skip)
  | .tup [] => skip
  | _ => False

/-- Operations in the order of the text. -/
def runA (C : Ctx) (n0 : Nat) (gd : Nat → Option Tmp) : Nat → List Oper → St → (St → Prop) → Prop
  | _, [], st, K => K st
  | i, o :: os, st, K =>
    match o.guard with
    | none => stepA C (n0 + i) o st fun s => runA C n0 gd (i + 1) os s K
    | some (j, want) => ∃ d, gd j = some d ∧ grdA (st.t d) want (stepA C (n0 + i) o st fun s => runA C n0 gd (i + 1) os s K) (runA C n0 gd (i + 1) os (st.put o.dst (.tup [])) K)

inductive AX where
  | normal
  | exit (id : Nat)
  | ret

def AX.then (next : St → Prop) (K : AX → St → Prop) : AX → St → Prop
  | .normal, s => next s
  | e, s => K e s

def AX.inBlock (id : Nat) (K : AX → St → Prop) : AX → St → Prop
  | .exit i, s => if i = id then K .normal s else K (.exit i) s
  | e, s => K e s

def gdOf (ops : Array Oper) (j : Nat) : Option Tmp := (ops[j]?).bind (·.dst)

def WpA (C : Ctx) : Code → (AX → St → Prop) → St → Prop
  | .skip, K, st => K .normal st
  | .region _ ops _, K, st => runA C st.nx (gdOf ops) 0 ops.toList { st with nx := st.nx + ops.size } fun s => K .normal s
  | .seq x y, K, st => WpA C x (AX.then (WpA C y K) K) st
  | .cond c x y, K, st => ∃ b, st.ev c = .bool b ∧ (b = true → WpA C x K st) ∧ (b = false → WpA C y K st)
  | .block id c, K, st => WpA C c (AX.inBlock id K) st
  | .loop c, K, st => ∃ (Inv : St → Prop) (μ : St → Nat), Inv st ∧ ∀ s, Inv s → WpA C c (AX.then (fun s' => Inv s' ∧ μ s' < μ s) K) s
  | .exit id, K, st => K (.exit id) st
  | .ret, K, st => K .ret st
  | .label _, K, st => K .normal st
  | _, _, _ => False

def resA (C : Ctx) (st : St) : ResultVar → Option AV
  | .tmp t => some (st.t t)
  | .cell a t =>
    match st.t a with
    | .ptr p off =>
      match C.ty t, st.h p with
      | some d, some (.obj cells) => loadA d cells off
      | _, _ => none
    | _ => none

def resultsA (C : Ctx) (st : St) (rs : List ResultVar) : Option AV :=
  match rs with
  | [r] => resA C st r
  | rs => (rs.mapM (resA C st)).map .tup

end Go.AE
