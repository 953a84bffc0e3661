/- An abstract machine over the model: its states, its steps, and that what it shows holds of the model. -/
import Derived.ProofKit
import Derived.Calls
import Derived.Orders
import Derived.Laws.Rows
import Derived.Laws.Cells
import Derived.Laws.AppendOwn
import Derived.Laws.Small
import Derived.Laws.Entries
import Derived.Laws.StructEq
import Derived.Laws.MakeOwn
import Derived.Lib.LazyBuf
set_option linter.unusedVariables false
set_option linter.unusedSimpArgs false
set_option linter.deprecated false
section
/- Abstract machine: values, heap, relation to the model's memory; a predicate transformer over the model's code. -/
namespace Go.AE

inductive AV where
  | bool (b : Bool)
  | int (k : IntKind) (n : Int)
  | str (s : ByteArray)
  | nil
  | view (p : Bool) (sz : Nat) (xs : List (List AV))
  | ref (id sz off len : Nat)
  | ptr (id off : Nat)
  | ep (id idx off : Nat)
  | vptr (cells : List AV)
  | fn (f : FuncId) (caps : List AV)
  | bnd (f : FuncId) (firsts : List AV)
  | agg (cells : List AV)
  | tup (vs : List AV)
  | dead

def LIM : Nat := 140737488355328
def MLIM : Nat := 1099511627776
theorem mlim_le {n : Nat} (h : n ≤ MLIM) : n ≤ LIM := by simp only [MLIM] at h; simp only [LIM]; omega

def AV.cells : AV → List AV
  | .agg cs => cs
  | v => [v]

def AV.one : AV → Bool
  | .agg _ | .tup _ | .dead => false
  | _ => true
def AV.known : AV → Bool
  | .dead => false
  | _ => true

inductive Ent where
  | obj (cells : List AV)
  | row (sz : Nat) (xs : List (List AV))

abbrev Heap := Nat → Option Ent

structure Base where
  blk : Option Nat
  off : Nat
  cap : Nat
  sz : Nat

def get2 (xs : List (List AV)) (i j : Nat) : Option AV := (xs[i]?).bind (·[j]?)

abbrev Names := Nat → Option Base
abbrev Imm := Bool → Nat → Prop

inductive VR (ρ : Names) (I : Imm) (w : World) : AV → Value → Prop
  | bool (b : Bool) : VR ρ I w (.bool b) (.bool b)
  | int (k : IntKind) (n : Int) : VR ρ I w (.int k n) (.int k n)
  | str (s : ByteArray) : VR ρ I w (.str s) (.string s)
  | nil : VR ρ I w .nil (.slice none 0 0)
  | viewNil (p : Bool) (sz : Nat) (a : Option Addr) (c : Nat) : VR ρ I w (.view p sz []) (.slice a 0 c)
  | view (p : Bool) (sz : Nat) (xs : List (List AV)) (b off c : Nat) : I p b → xs.length ≤ LIM → xs.length ≤ c →
      (∀ (i : Nat) x, xs[i]? = some x → x.length = sz) →
      (∀ (i j : Nat) x, get2 xs i j = some x → ∃ u, w.cell? ⟨b, off + i * sz + j, none⟩ = some u) →
      (∀ (i j : Nat) x u, get2 xs i j = some x → w.cell? ⟨b, off + i * sz + j, none⟩ = some u → VR ρ I w x u) →
      VR ρ I w (.view p sz xs) (.slice (some ⟨b, off, none⟩) xs.length c)
  | ref0 (id sz off : Nat) (a : Option Addr) (B : Base) : ρ id = some B → off = B.cap → VR ρ I w (.ref id sz off 0) (.slice a 0 0)
  | ref (id sz off len b c : Nat) (B : Base) : ρ id = some B → B.blk = some b → B.sz = sz → off + c = B.cap → len ≤ c → len ≤ LIM →
      VR ρ I w (.ref id sz off len) (.slice (some ⟨b, B.off + off * B.sz, none⟩) len c)
  | ptr (id off b : Nat) (B : Base) : ρ id = some B → B.blk = some b → VR ρ I w (.ptr id off) (.pointer (some ⟨b, off, none⟩))
  | ep (id idx off b : Nat) (B : Base) : ρ id = some B → B.blk = some b →
      VR ρ I w (.ep id idx off) (.pointer (some ⟨b, B.off + idx * B.sz + off, none⟩))
  | vptr (cells : List AV) (p : Bool) (b o : Nat) : I p b →
      (∀ (i : Nat) x, cells[i]? = some x → ∃ u, w.cell? ⟨b, o + i, none⟩ = some u) →
      (∀ (i : Nat) x u, cells[i]? = some x → w.cell? ⟨b, o + i, none⟩ = some u → VR ρ I w x u) →
      VR ρ I w (.vptr cells) (.pointer (some ⟨b, o, none⟩))
  | fn (f : FuncId) (caps : List AV) (vs : Array Value) : vs.size = caps.length →
      (∀ (i : Nat) x u, caps[i]? = some x → vs[i]? = some u → VR ρ I w x u) → VR ρ I w (.fn f caps) (.func (.func f) #[] vs)
  | bnd (f : FuncId) (firsts : List AV) (vs : Array Value) : vs.size = firsts.length →
      (∀ (i : Nat) x u, firsts[i]? = some x → vs[i]? = some u → VR ρ I w x u) → VR ρ I w (.bnd f firsts) (.func (.func f) vs #[])
  | agg (cells : List AV) (vs : Array Value) : vs.size = cells.length →
      (∀ (i : Nat) x u, cells[i]? = some x → vs[i]? = some u → VR ρ I w x u) → VR ρ I w (.agg cells) (.agg vs)
  | tup (cells : List AV) (vs : Array Value) : vs.size = cells.length →
      (∀ (i : Nat) x u, cells[i]? = some x → vs[i]? = some u → VR ρ I w x u) → VR ρ I w (.tup cells) (.tuple vs)
  | dead (v : Value) : VR ρ I w .dead v

def RowR (ρ : Names) (I : Imm) (w : World) (id sz : Nat) (xs : List (List AV)) : Prop :=
  ∃ B, ρ id = some B ∧ B.sz = sz ∧ 0 < sz ∧ xs.length ≤ LIM ∧ (∀ (i : Nat) x, xs[i]? = some x → x.length = sz) ∧
  ((B.blk = none ∧ xs = [] ∧ B.cap = 0) ∨
   ∃ b cur ty, B.blk = some b ∧ w.heap[b]? = some (.cells cur ty (0, 0)) ∧ B.off + B.cap * sz ≤ cur.size ∧
     xs.length ≤ B.cap ∧ B.cap ≤ maxLen ∧
     ∀ (i j : Nat) x u, get2 xs i j = some x → cur[B.off + i * sz + j]? = some u → VR ρ I w x u)

def ObjR (ρ : Names) (I : Imm) (w : World) (id : Nat) (cells : List AV) : Prop :=
  ∃ B b cur ty, ρ id = some B ∧ B.blk = some b ∧ w.heap[b]? = some (.cells cur ty (0, 0)) ∧
    cur.size = cells.length ∧ ∀ (i : Nat) x u, cells[i]? = some x → cur[i]? = some u → VR ρ I w x u

structure HRel (ρ : Names) (I : Imm) (w : World) (h : Heap) : Prop where
  obj : ∀ id cells, h id = some (.obj cells) → ObjR ρ I w id cells
  row : ∀ id sz xs, h id = some (.row sz xs) → RowR ρ I w id sz xs
  sep : ∀ id id' e e' B B' b, h id = some e → h id' = some e' → id ≠ id' → ρ id = some B → ρ id' = some B' → B.blk = some b → B'.blk ≠ some b
  imm : ∀ id e B b p, h id = some e → ρ id = some B → B.blk = some b → ¬ I p b
  immlt : ∀ p b, I p b → b < w.heap.size

def Owns (h : Heap) (ρ : Names) (b : Nat) : Prop := ∃ id e B, h id = some e ∧ ρ id = some B ∧ B.blk = some b

structure Ext (h : Heap) (ρ : Names) (I : Imm) (w : World) (h' : Heap) (ρ' : Names) (I' : Imm) (w' : World) : Prop where
  rho : ∀ id B, ρ id = some B → ρ' id = some B
  imm : ∀ p b, I p b → I' p b
  bor : ∀ b, I' false b → I false b
  immN : ∀ b, I' true b → I true b ∨ Owns h ρ b ∨ w.heap.size ≤ b
  own : ∀ b, Owns h' ρ' b → Owns h ρ b ∨ w.heap.size ≤ b
  os : w'.os = w.os
  tape : w'.tape = w.tape
  output : w'.output = w.output
  size : w.heap.size ≤ w'.heap.size
  frame : ∀ k, k < w.heap.size → ¬ Owns h ρ k → w'.heap[k]? = w.heap[k]?

theorem VR.mono {ρ ρ' : Names} {I I' : Imm} {w w' : World} {x : AV} {u : Value} (h : VR ρ I w x u)
    (hr : ∀ id B, ρ id = some B → ρ' id = some B) (hI : ∀ p b, I p b → I' p b) (hw : ∀ p b, I p b → w'.heap[b]? = w.heap[b]?) :
    VR ρ' I' w' x u := by
  have hc : ∀ p b o, I p b → w'.cell? ⟨b, o, none⟩ = w.cell? ⟨b, o, none⟩ := fun p b o hb => World.cell?_of_block (a := ⟨b, o, none⟩) (hw p b hb)
  induction h with
  | bool b => exact .bool b
  | int k n => exact .int k n
  | str s => exact .str s
  | nil => exact .nil
  | viewNil p sz a c => exact .viewNil p sz a c
  | view p sz xs b off c h1 h2 h3 h4 h5 h6 ih =>
    refine .view p sz xs b off c (hI _ _ h1) h2 h3 h4 (fun i j x hx => ?_) (fun i j x u hx hu => ?_)
    · rw [hc _ _ _ h1]; exact h5 i j x hx
    · rw [hc _ _ _ h1] at hu; exact ih i j x u hx hu
  | ref0 id sz off a B h1 h2 => exact .ref0 id sz off a B (hr _ _ h1) h2
  | ref id sz off len b c B h1 h2 h3 h4 h5 h6 => exact .ref id sz off len b c B (hr _ _ h1) h2 h3 h4 h5 h6
  | ptr id off b B h1 h2 => exact .ptr id off b B (hr _ _ h1) h2
  | ep id idx off b B h1 h2 => exact .ep id idx off b B (hr _ _ h1) h2
  | vptr cells p b o h1 h2 h3 ih =>
    refine .vptr cells p b o (hI _ _ h1) (fun i x hx => ?_) (fun i x u hx hu => ?_)
    · rw [hc _ _ _ h1]; exact h2 i x hx
    · rw [hc _ _ _ h1] at hu; exact ih i x u hx hu
  | fn f caps vs h1 h2 ih => exact .fn f caps vs h1 ih
  | bnd f caps vs h1 h2 ih => exact .bnd f caps vs h1 ih
  | agg cells vs h1 h2 ih => exact .agg cells vs h1 ih
  | tup cells vs h1 h2 ih => exact .tup cells vs h1 ih
  | dead v => exact .dead v

theorem HRel.not_imm {ρ I w h} (hr : HRel ρ I w h) {p b} (hb : I p b) : ¬ Owns h ρ b := fun ⟨id, e, B, h1, h2, h3⟩ => hr.imm id e B b p h1 h2 h3 hb

theorem Ext.vr {h h' ρ ρ' I I' w w' x u} (e : Ext h ρ I w h' ρ' I' w') (hr : HRel ρ I w h) (hv : VR ρ I w x u) : VR ρ' I' w' x u :=
  hv.mono e.rho e.imm fun p b hb => e.frame b (hr.immlt p b hb) (hr.not_imm hb)

theorem Ext.refl {h ρ I w} : Ext h ρ I w h ρ I w where
  rho _ _ h := h
  imm _ _ h := h
  bor _ h := h
  immN _ h := .inl h
  own _ h := .inl h
  os := rfl
  tape := rfl
  output := rfl
  size := Nat.le_refl _
  frame _ _ _ := rfl

theorem Ext.trans {h h1 h2 ρ ρ1 ρ2 I I1 I2 w w1 w2} (a : Ext h ρ I w h1 ρ1 I1 w1) (b : Ext h1 ρ1 I1 w1 h2 ρ2 I2 w2) :
    Ext h ρ I w h2 ρ2 I2 w2 where
  rho id B hi := b.rho id B (a.rho id B hi)
  imm p q h := b.imm _ _ (a.imm _ _ h)
  bor q h := a.bor _ (b.bor _ h)
  immN q h := by
    rcases b.immN q h with h | h | h
    · exact a.immN q h
    · exact .inr (a.own q h)
    · exact .inr (.inr (Nat.le_trans a.size h))
  own q h := by
    rcases b.own q h with h | h
    · exact a.own q h
    · exact .inr (Nat.le_trans a.size h)
  os := b.os.trans a.os
  tape := b.tape.trans a.tape
  output := b.output.trans a.output
  size := Nat.le_trans a.size b.size
  frame k hk hno := by
    rw [b.frame k (Nat.lt_of_lt_of_le hk a.size) fun ho => ?_]
    · exact a.frame k hk hno
    · rcases a.own k ho with h | h
      · exact hno h
      · omega

end Go.AE
end

section
/- Abstract machine: states, one operation. -/
namespace Go.AE

structure TyD where
  size : Nat
  bytes : Nat
  agg : Bool
  zero : List AV
  elem : Option TypeId := none
  ik : Option IntKind := none
  isStr : Bool := false
  fields : List (Nat × Nat × TypeId) := []

structure Ctx where
  P : Program
  ty : TypeId → Option TyD
  eqA : TypeId → AV → AV → Option Bool

structure St where
  t : Nat → AV
  h : Heap
  nx : Nat

def upd {α : Type} (f : Nat → α) (i : Nat) (v : α) : Nat → α := fun j => if j = i then v else f j

@[simp] theorem upd_same {α : Type} (f : Nat → α) (i : Nat) (v : α) : upd f i v i = v := by simp [upd]
theorem upd_ne {α : Type} (f : Nat → α) (i j : Nat) (v : α) (h : j ≠ i) : upd f i v j = f j := by simp [upd, h]

def St.put (s : St) (d : Option Tmp) (v : AV) : St :=
  match d with
  | some d => { s with t := upd s.t d v }
  | none => s

def constA : Value → AV
  | .bool b => .bool b
  | .int k n => .int k n
  | .string s => .str s
  | .slice none 0 0 => .nil
  | _ => .dead

def St.ev (s : St) : Operand → AV
  | .tmp t => s.t t
  | .const v => constA v
  | .func f => .fn f []
  | .global _ => .dead

def St.new (s : St) (id : Nat) (e : Ent) : St := { s with h := upd s.h id (some e) }

def splice (cs : List AV) (off : Nat) (vs : List AV) : List AV := cs.take off ++ vs ++ cs.drop (off + vs.length)

def loadA (d : TyD) (cells : List AV) (off : Nat) : Option AV :=
  if d.agg then (if off + d.size ≤ cells.length then some (.agg ((cells.drop off).take d.size)) else none) else cells[off]?

def frz : Heap → List AV → Option (List AV × Heap)
  | h, [] => some ([], h)
  | h, c :: cs =>
    match c with
    | .bool _ | .int _ _ | .str _ | .nil | .view _ _ _ | .ref .. | .ptr .. =>
      match frz h cs with
      | some (r, h') => some (c :: r, h')
      | none => none
    | _ => none

def fillA (fs : List (Nat × Nat)) : List (Nat × AV) → List AV → Option (List AV)
  | [], cs => some cs
  | (i, v) :: r, cs =>
    match fs[i]? with
    | some (off, size) => if v.cells.length = size ∧ off + size ≤ cs.length then fillA fs r (splice cs off v.cells) else none
    | none => none

def bandA (k : IntKind) (a b : Int) : Int := k.wrap ((BitVec.ofInt k.bits a &&& BitVec.ofInt k.bits b).toNat)
def shrA (k : IntKind) (a b : Int) : Option AV := if b < 0 then none else some (.int k (a.fdiv (2 ^ min b.toNat k.bits)))
def binA (eq : Option Bool) (op : BinOp) (x y : AV) : Option AV :=
  match x, y with
  | .int k a, .int k' b =>
    if k = k' then
      match op with
      | .add => some (.int k (k.wrap (a + b)))
      | .sub => some (.int k (k.wrap (a - b)))
      | .mul => some (.int k (k.wrap (a * b)))
      | .quo => if b = 0 then none else some (.int k (k.wrap (a.tdiv b)))
      | .rem => if b = 0 then none else some (.int k (a.tmod b))
      | .eql => some (.bool (a == b))
      | .neq => some (.bool (a != b))
      | .lss => some (.bool (a < b))
      | .leq => some (.bool (a ≤ b))
      | .gtr => some (.bool (a > b))
      | .geq => some (.bool (a ≥ b))
      | .and => some (.int k (bandA k a b))
      | .shr => shrA k a b
      | _ => none
    else if op = .shr then shrA k a b else none
  | .str a, .str b =>
    match op with
    | .eql => some (.bool (a.toList == b.toList))
    | .neq => some (.bool (!(a.toList == b.toList)))
    | _ => none
  | _, _ =>
    match op with
    | .eql => eq.map .bool
    | .neq => eq.map fun b => .bool (!b)
    | _ => none

def rowA (n : Nat) : Heap → List (Nat × AV) → List (List AV) → Option (List (List AV) × Heap)
  | h, [], xs => some (xs, h)
  | h, (i, v) :: r, xs =>
    if v.cells.length = n ∧ i < xs.length ∧ v.known = true then
      match frz h v.cells with
      | some (cs, h') => rowA n h' r (xs.set i cs)
      | none => none
    else none

def VRs (ρ : Names) (I : Imm) (w : World) (args : List AV) (vs : Array Value) : Prop :=
  vs.size = args.length ∧ ∀ (i : Nat) x u, args[i]? = some x → vs[i]? = some u → VR ρ I w x u

def Fresh (nx : Nat) (ρ ρ' : Names) : Prop := ∀ id B, ρ' id = some B → ρ id = some B ∨ nx ≤ id

def Enters (P : Program) (f : FuncId) : Prop :=
  ∃ fn, P.funcs[f]? = some fn ∧ (fn.name == "runtime.NumGoroutine") = false ∧ fn.body.isNone = false

def ACall (P : Program) (f : FuncId) (args : List AV) (h : Heap) (nx : Nat) (Q : AV → Heap → Nat → Prop) : Prop :=
  Enters P f ∧ ∀ (ρ : Names) (I : Imm) (w : World) (vs : Array Value), (∀ id B, ρ id = some B → id < nx) → HRel ρ I w h → VRs ρ I w args vs →
    Calls P f vs w fun e w' => ∃ v r h' nx' ρ' I', e = .returned v ∧ Q r h' nx' ∧ VR ρ' I' w' r v ∧ HRel ρ' I' w' h' ∧
      Ext h ρ I w h' ρ' I' w' ∧ Fresh nx ρ ρ' ∧ nx ≤ nx' ∧ ∀ id B, ρ' id = some B → id < nx'

def lenA : AV → Option (Nat × Bool)
  | .nil => some (0, true)
  | .view _ _ xs => some (xs.length, true)
  | .ref _ _ _ len => some (len, true)
  | .str s => some (s.size, false)
  | _ => none

def rowOf (h : Heap) (sz : Nat) : AV → Option (List (List AV))
  | .nil => some []
  | .view _ s xs => if s = sz then some xs else none
  | .ref id s0 off len =>
    match h id with
    | some (.row s xs) => if s = sz ∧ s0 = sz ∧ off + len ≤ xs.length then some ((xs.drop off).take len) else none
    | _ => none
  | _ => none

def appendA (C : Ctx) (id : Nat) (s x : AV) (t : TypeId) (st : St) (K : AV → St → Prop) : Prop :=
  ∃ d e de xs ys, C.ty t = some d ∧ d.elem = some e ∧ C.ty e = some de ∧ 0 < de.size ∧ de.bytes ≤ 128 ∧ rowOf st.h de.size s = some xs ∧ rowOf st.h de.size x = some ys ∧
    xs.length + ys.length ≤ MLIM ∧ ys.all (fun cs => cs.all AV.one) = true ∧
    match s with
    | .nil => K (.ref id de.size 0 ys.length) (st.new id (.row de.size ys))
    | .ref r _ off len => ∀ s' ws, st.h r = some (.row s' ws) → K (.ref id de.size 0 (xs ++ ys).length) (({ st with h := upd st.h r none } : St).new id (.row de.size (xs ++ ys ++ ws.drop (off + len + ys.length))))
    | _ => False

def zerA (C : Ctx) (id : Nat) (s x : AV) (t t' : TypeId) (st : St) (K : AV → St → Prop) : Prop :=
  ∃ d e de d' k n, C.ty t = some d ∧ d.elem = some e ∧ C.ty e = some de ∧ 0 < de.size ∧ de.bytes ≤ 128 ∧ C.ty t' = some d' ∧ d'.ik = some k ∧ s = .nil ∧ x = .int .i64 (n : Nat) ∧ 0 < n ∧ n ≤ MLIM ∧
    K (.ref id de.size 0 n) (st.new id (.row de.size (List.replicate n de.zero)))

def bounds (n : Nat) (lo hi : Option AV) (l h : Nat) : Prop :=
  (match lo with | none => l = 0 | some v => ∃ k z, v = .int k z ∧ 0 ≤ z ∧ l = z.toNat) ∧
  (match hi with | none => h = n | some v => ∃ k z, v = .int k z ∧ 0 ≤ z ∧ h = z.toNat) ∧ l ≤ h
def sliceA (C : Ctx) (t : TypeId) (x : Operand) (lo hi : Option Operand) (st : St) (K : AV → Prop) : Prop :=
  ∃ d e de n l h, C.ty t = some d ∧ d.elem = some e ∧ C.ty e = some de ∧ lenA (st.ev x) = some (n, true) ∧ bounds n (lo.map st.ev) (hi.map st.ev) l h ∧ h ≤ n ∧
    (match st.ev x with
     | .nil => K .nil
     | .view p sz xs => sz = de.size ∧ K (.view p sz ((xs.drop l).take (h - l)))
     | .ref r s off _ => s = de.size ∧ K (.ref r s (off + l) (h - l))
     | _ => False)
def sliceFar (C : Ctx) (t : TypeId) (x : Operand) (lo hi : Option Operand) (st : St) (K : AV → Prop) : Prop :=
  ∃ d e de n l h r s off ws, C.ty t = some d ∧ d.elem = some e ∧ C.ty e = some de ∧ st.ev x = .ref r s off n ∧ bounds n (lo.map st.ev) (hi.map st.ev) l h ∧
    st.h r = some (.row s ws) ∧ s = de.size ∧ off + h ≤ ws.length ∧ K (.ref r s (off + l) (h - l))
def sliceMax (C : Ctx) (t : TypeId) (x : Operand) (lo hi : Option Operand) (m : Operand) (st : St) (K : Prop) : Prop :=
  ∃ d e de n l h k z, hi.isSome = true ∧ C.ty t = some d ∧ d.elem = some e ∧ C.ty e = some de ∧ lenA (st.ev x) = some (n, true) ∧ bounds n (lo.map st.ev) (hi.map st.ev) l h ∧ st.ev m = .int k z ∧ 0 ≤ z ∧ h ≤ z.toNat ∧ z.toNat ≤ n ∧ K

def nilCmp (op : BinOp) (x y : AV) (K : Bool → Prop) : Prop :=
  match op, x, y with
  | .eql, .nil, .nil => K true
  | .neq, .nil, .nil => K false
  | .eql, .view _ _ xs, .nil => ∀ b, (b = true → xs = []) → K b
  | .neq, .view _ _ xs, .nil => ∀ b, (b = false → xs = []) → K b
  | .eql, .ref _ _ _ len, .nil => ∀ b, (b = true → len = 0) → K b
  | .neq, .ref _ _ _ len, .nil => ∀ b, (b = false → len = 0) → K b
  | _, _, _ => False

def stepA (C : Ctx) (id : Nat) (o : Oper) (st : St) (K : St → Prop) : Prop :=
  match o.op with
  | .move x | .assign x => K (st.put o.dst (st.ev x))
  | .pick c x y => ∃ b, st.ev c = .bool b ∧ K (st.put o.dst (if b then st.ev x else st.ev y))
  | .alloc e => ∃ d, C.ty e = some d ∧ K ((st.new id (.obj d.zero)).put o.dst (.ptr id 0))
  | .box _ x => (st.ev x).known = true ∧ K ((st.new id (.obj (st.ev x).cells)).put o.dst (.ptr id 0))
  | .build t parts => ∃ d cs, C.ty t = some d ∧ d.agg = true ∧ (parts.toList.all fun p => (st.ev p.2).known) = true ∧
      fillA (d.fields.map fun f => (f.1, f.2.1)) (parts.toList.map fun (i, x) => (i, st.ev x)) d.zero = some cs ∧ K (st.put o.dst (.agg cs))
  | .buildSlice t len parts => ∃ d e de xs h', C.ty t = some d ∧ d.elem = some e ∧ C.ty e = some de ∧ 0 < de.size ∧ len * de.size ≤ 2 ^ 24 ∧ de.zero.all AV.known = true ∧
      rowA de.size st.h (parts.toList.map fun (i, x) => (i, st.ev x)) (List.replicate len de.zero) = some (xs, h') ∧
      K ((({ st with h := h' } : St).new id (.row de.size xs)).put o.dst (.ref id de.size 0 len))
  | .load t a =>
    match st.ev a with
    | .ptr p off => ∃ d cells v, C.ty t = some d ∧ st.h p = some (.obj cells) ∧ loadA d cells off = some v ∧ K (st.put o.dst v)
    | .ep p idx off => ∃ d sz xs, C.ty t = some d ∧ st.h p = some (.row sz xs) ∧ idx < xs.length ∧
        ∀ cells, xs[idx]? = some cells → ∃ v, loadA d cells off = some v ∧ K (st.put o.dst v)
    | .vptr cells => ∃ d v, C.ty t = some d ∧ loadA d cells 0 = some v ∧ K (st.put o.dst v)
    | _ => False
  | .store t a x =>
    (st.ev x).cells.all AV.one = true ∧
    match st.ev a with
    | .ptr p off => ∃ d cells, C.ty t = some d ∧ st.h p = some (.obj cells) ∧ (st.ev x).cells.length = d.size ∧ off + d.size ≤ cells.length ∧
        K ({ st with h := upd st.h p (some (.obj (splice cells off (st.ev x).cells))) }.put o.dst .dead)
    | .ep p idx off => ∃ d sz xs vs h', C.ty t = some d ∧ frz st.h (st.ev x).cells = some (vs, h') ∧ h' p = some (.row sz xs) ∧ vs.length = d.size ∧ off + d.size ≤ sz ∧ idx < xs.length ∧
        ∀ cells, xs[idx]? = some cells → K ({ st with h := upd h' p (some (.row sz (xs.set idx (splice cells off vs)))) }.put o.dst .dead)
    | _ => False
  | .nilCheck x => (match st.ev x with | .ptr .. | .ep .. | .vptr _ => True | _ => False) ∧ K (st.put o.dst (st.ev x))
  | .binOp op t x y _ =>
    match binA (C.eqA t (st.ev x) (st.ev y)) op (st.ev x) (st.ev y) with
    | some v => K (st.put o.dst v)
    | none => (∃ d, C.ty t = some d ∧ d.elem.isSome = true) ∧ nilCmp op (st.ev x) (st.ev y) fun b => K (st.put o.dst (.bool b))
  | .unOp op _ x =>
    match op, st.ev x with
    | .not, .bool b => K (st.put o.dst (.bool !b))
    | .neg, .int k n => K (st.put o.dst (.int k (k.wrap (0 - n))))
    | _, _ => False
  | .convert src dst x =>
    match st.ev x with
    | .int _ n => ∃ ds d k, C.ty src = some ds ∧ C.ty dst = some d ∧ d.ik = some k ∧ K (st.put o.dst (.int k (k.wrap n)))
    | _ => False
  | .makeFunc fn first captured =>
    match fn with
    | .func f => if first.isEmpty then K (st.put o.dst (.fn f (captured.toList.map st.ev))) else captured = #[] ∧ K (st.put o.dst (.bnd f (first.toList.map st.ev)))
    | _ => False
  | .makeSlice t l c =>
    match st.ev l, st.ev c with
    | .int _ n, .int _ m => ∃ d e de, C.ty t = some d ∧ d.elem = some e ∧ C.ty e = some de ∧ 0 < de.size ∧ de.bytes ≤ 128 ∧ n = m ∧ 0 ≤ n ∧ n ≤ MLIM ∧
        K ((st.new id (.row de.size (List.replicate n.toNat de.zero))).put o.dst (.ref id de.size 0 n.toNat))
    | _, _ => False
  | .slice t x lo hi mx => (mx = none ∧ sliceA C t x lo hi st fun v => K (st.put o.dst v)) ∨ (mx = none ∧ sliceFar C t x lo hi st fun v => K (st.put o.dst v)) ∨ ∃ m, mx = some m ∧ sliceMax C t x lo hi m st (K (st.put o.dst .dead))
  | .fieldAddr s x f => ∃ d off sz ft, C.ty s = some d ∧ d.agg = true ∧ d.fields[f]? = some (off, sz, ft) ∧ 0 < sz ∧
      (match st.ev x with
       | .ptr p o1 => K (st.put o.dst (.ptr p (o1 + off)))
       | .ep p i o1 => K (st.put o.dst (.ep p i (o1 + off)))
       | .vptr cells => K (st.put o.dst (.vptr (cells.drop off)))
       | _ => False)
  | .field t x f => ∃ d off sz ft dt v, C.ty t = some d ∧ d.agg = true ∧ d.fields[f]? = some (off, sz, ft) ∧ C.ty ft = some dt ∧
      (match st.ev x with
       | .agg cells => loadA dt cells off = some v ∧ K (st.put o.dst v)
       | _ => False)
  | .indexAddr t x i => ∃ d e de k z, C.ty t = some d ∧ d.elem = some e ∧ C.ty e = some de ∧ st.ev i = .int k z ∧
      (match st.ev x with
       | .view _ sz xs => sz = de.size ∧ (0 ≤ z ∧ z < xs.length) ∧ ∀ cells, xs[z.toNat]? = some cells → K (st.put o.dst (.vptr cells))
       | .ref r s off len => s = de.size ∧ (0 ≤ z ∧ z < len) ∧ K (st.put o.dst (.ep r (off + z.toNat) 0))
       | _ => False)
  | .index t x i =>
    match st.ev x, st.ev i with
    | .str s, .int _ z => (∃ d, C.ty t = some d ∧ d.isStr = true) ∧ (0 ≤ z ∧ z < s.size) ∧ ∀ b, s[z.toNat]? = some b → K (st.put o.dst (.int .u8 b.toNat))
    | _, _ => False
  | .extract x i =>
    match st.ev x with
    | .tup vs => ∃ v, vs[i]? = some v ∧ K (st.put o.dst v)
    | _ => False
  | .call c =>
    match c.callee with
    | .value f =>
      (match st.ev f with
       | .fn g caps => ACall C.P g (c.args.toList.map st.ev ++ caps) st.h st.nx fun r h' nx' => K (({ st with h := h', nx := nx' } : St).put o.dst r)
       | .bnd g fs => ACall C.P g (fs ++ c.args.toList.map st.ev) st.h st.nx fun r h' nx' => K (({ st with h := h', nx := nx' } : St).put o.dst r)
       | _ => False)
    | .builtin .len =>
      (match c.args.toList, c.argTypes.toList with
       | [x], [t] => ∃ d n b, C.ty t = some d ∧ lenA (st.ev x) = some (n, b) ∧ (if b then d.elem.isSome = true else d.isStr = true) ∧ ((b = true → n ≤ LIM) → K (st.put o.dst (.int .i64 n)))
       | _, _ => False)
    | .builtin .clear =>
      (match c.args.toList, c.argTypes.toList with
       | [x], [t] => ∃ d e de, C.ty t = some d ∧ d.elem = some e ∧ C.ty e = some de ∧
          (match st.ev x with
           | .ref r s off len => ∃ ws, st.h r = some (.row s ws) ∧ s = de.size ∧ off + len = ws.length ∧ de.zero.all AV.one = true ∧ K ({ st with h := upd st.h r (some (.row s (ws.take off))) }.put o.dst .dead)
           | _ => False)
       | _, _ => False)
    | .builtin .cap =>
      (match c.args.toList, c.argTypes.toList with
       | [x], [t] => ∃ d e, C.ty t = some d ∧ d.elem = some e ∧ st.ev x = .nil ∧ K (st.put o.dst (.int .i64 0))
       | _, _ => False)
    | .builtin .append =>
      (match c.args.toList, c.argTypes.toList with
       | [s, x], [t, t'] => if t' = t then appendA C id (st.ev s) (st.ev x) t st (fun r s' => K (s'.put o.dst r)) else zerA C id (st.ev s) (st.ev x) t t' st fun r s' => K (s'.put o.dst r)
       | _, _ => False)
    | .builtin .min =>
      (match c.args.toList with
       | [x, y] => (match st.ev x, st.ev y with
          | .int k m, .int _ n => K (st.put o.dst (.int k (if n < m then n else m)))
          | _, _ => False)
       | _ => False)
    | _ => False
  | _ => False

def grdA (v : AV) (want : Bool) (run skip : Prop) : Prop :=
  match v with
  | .bool b => (b = want → run) ∧ (b ≠ want → skip)
  | .tup [] => skip
  | _ => False

def runA (C : Ctx) (n0 : Nat) (gd : Nat → Option Tmp) : Nat → List Oper → St → (St → Prop) → Prop
  | _, [], st, K => K st
  | i, o :: os, st, K =>
    match o.guard with
    | none => stepA C (n0 + i) o st fun s => runA C n0 gd (i + 1) os s K
    | some (j, want) => ∃ d, gd j = some d ∧ grdA (st.t d) want (stepA C (n0 + i) o st fun s => runA C n0 gd (i + 1) os s K) (runA C n0 gd (i + 1) os (st.put o.dst (.tup [])) K)

inductive Cls where
  | A | L | N | E | X
  deriving DecidableEq

def clsOp : Op → Cls
  | .move _ | .assign _ | .pick .. | .build .. | .nilCheck _ | .binOp .. | .unOp .. | .convert .. | .makeFunc .. | .slice .. | .fieldAddr .. | .field .. | .indexAddr .. | .index .. | .extract .. => .A
  | .load .. => .L
  | .alloc _ | .box .. | .buildSlice .. | .makeSlice .. => .N
  | .store .. => .E
  | .call c => match c.callee with | .builtin .len => .A | .value _ => .E | .builtin .append => .E | _ => .X
  | _ => .X

def newA (C : Ctx) (id : Nat) (ev : Operand → AV) : Op → Option (AV × Ent)
  | .alloc e => (C.ty e).map fun d => (.ptr id 0, .obj d.zero)
  | .box _ x => if (ev x).known = true then some (.ptr id 0, .obj (ev x).cells) else none
  | .makeSlice t l c =>
    match ((C.ty t).bind (·.elem)).bind C.ty, ev l, ev c with
    | some de, .int _ n, .int _ m => if 0 < de.size ∧ de.bytes ≤ 128 ∧ n = m ∧ 0 ≤ n ∧ n ≤ MLIM then some (.ref id de.size 0 n.toNat, .row de.size (List.replicate n.toNat de.zero)) else none
    | _, _, _ => none
  | .buildSlice t len parts =>
    match ((C.ty t).bind (·.elem)).bind C.ty with
    | some de =>
      if 0 < de.size ∧ len * de.size ≤ 2 ^ 24 ∧ de.zero.all AV.known = true then
        match rowA de.size (fun _ => none) (parts.toList.map fun p => (p.1, ev p.2)) (List.replicate len de.zero) with
        | some (xs, _) => some (.ref id de.size 0 len, .row de.size xs)
        | none => none
      else none
    | none => none
  | _ => none

def lenD (C : Ctx) (o : Oper) (c : Call) (st : St) (K : St → Prop) : Prop :=
  match c.args.toList, c.argTypes.toList with
  | [x], [t] => ∃ d n b, C.ty t = some d ∧ lenA (st.ev x) = some (n, b) ∧ (if b then d.elem.isSome = true else d.isStr = true) ∧ K (st.put o.dst (.int .i64 n))
  | _, _ => False

def asLen : Op → Option Call
  | .call c => match c.callee with | .builtin .len => some c | _ => none
  | _ => none

def stepD (C : Ctx) (id : Nat) (o : Oper) (st : St) (K : St → Prop) : Prop :=
  match clsOp o.op with
  | .N => ∃ v e, newA C id st.ev o.op = some (v, e) ∧ K ((st.new id e).put o.dst v)
  | .X => False
  | _ =>
    match o.op with
    | .slice t x lo hi mx => mx = none ∧ sliceA C t x lo hi st fun v => K (st.put o.dst v)
    | .binOp op t x y _ => ∃ v, binA (C.eqA t (st.ev x) (st.ev y)) op (st.ev x) (st.ev y) = some v ∧ K (st.put o.dst v)
    | _ => match asLen o.op with | some c => lenD C o c st K | none => stepA C id o st K

def gOn (gd : Nat → Option Tmp) (o : Oper) (t : Nat → AV) : Option Bool :=
  match o.guard with
  | none => some true
  | some (j, want) =>
    match gd j with
    | none => none
    | some d =>
      match t d with
      | .bool b => some (b == want)
      | .tup [] => some false
      | _ => none

def stepG (C : Ctx) (n0 : Nat) (gd : Nat → Option Tmp) (i : Nat) (o : Oper) (st : St) (K : St → Prop) : Prop :=
  (gOn gd o st.t = some true ∧ stepD C (n0 + i) o st K) ∨ (gOn gd o st.t = some false ∧ K (st.put o.dst (.tup [])))

structure It where
  i : Nat
  o : Oper
  as : List Operand
  ns : List Nat

def base : AV → Option Nat
  | .ptr p _ => some p
  | .ep p _ _ => some p
  | _ => none
def keeps (v : AV) (h h' : Heap) : Prop := ∀ p, base v = some p → h' p = h p

def pre1 (C : Ctx) (n0 : Nat) (o : Oper) (st : St) (i : Nat) (n : Op) : Prop :=
  match o.op with
  | .load _ a => base (st.ev a) ≠ some (n0 + i)
  | _ => st.h (n0 + i) = none ∧ (newA C (n0 + i) st.ev n).isSome = true

def runD (C : Ctx) (n0 : Nat) (gd : Nat → Option Tmp) : List It → St → (St → Prop) → Prop
  | [], st, K => K st
  | it :: r, st, K => (∀ x ∈ r, x.i ∈ it.ns → pre1 C n0 it.o st x.i x.o.op) ∧
      stepG C n0 gd it.i it.o st fun s => (∀ a ∈ it.as, keeps (st.ev a) st.h s.h) ∧ runD C n0 gd r s K

def rdsT (gd : Nat → Option Tmp) (o : Oper) (t : Tmp) : Bool :=
  (o.op.operands.toList.any fun x => match x with | .tmp u => u == t | _ => false) || (match o.guard with | some (j, _) => gd j == some t | none => false)
def wrT (o : Oper) (t : Tmp) : Bool := o.dst == some t
def apartD (gd : Nat → Option Tmp) (x y : Oper) : Bool :=
  (match x.dst with | some t => !rdsT gd y t && !wrT y t | none => true) && (match y.dst with | some t => !rdsT gd x t | none => true)
def isCall (o : Oper) : Bool := match o.op with | .call c => (match c.callee with | .value _ => true | .builtin .append => true | _ => false) | _ => false
def tmpOf : Operand → Option Tmp
  | .tmp t => some t
  | _ => none
def plainA (o : Oper) : Bool := o.guard.isNone && match o.op with
  | .build .. => true
  | .move _ => true
  | .assign _ => true
  | _ => false
def okPair (gd : Nat → Option Tmp) (j i : It) : Bool :=
  apartD gd j.o i.o &&
  match clsOp j.o.op, clsOp i.o.op with
  | .A, .X => false
  | .A, _ => true
  | .L, .A => true
  | .L, .L => true
  | .L, .N => j.ns.contains i.i
  | .L, .E => match j.o.op with | .load _ a => i.as.any fun b => (tmpOf a).isSome && tmpOf b == tmpOf a | _ => false
  | .N, .A => true
  | .N, .N => true
  | .E, .N => isCall j.o && i.o.guard.isNone && j.ns.contains i.i
  | .E, .A => plainA i.o
  | _, _ => false
def predsO (o : Oper) : List Nat := o.after.toList.filterMap fun e => if Region.binds .any e then some e.on else none
def okHead (gd : Nat → Option Tmp) (j : It) (rest : List It) : Bool :=
  decide (clsOp j.o.op ≠ .X) && ((predsO j.o).all fun p => decide (p < j.i)) &&
  (match clsOp j.o.op with | .E => true | _ => j.as.isEmpty) &&
  (match clsOp j.o.op with | .E => true | .L => true | _ => j.ns.isEmpty) &&
  (match j.o.op with | .load _ a => (match tmpOf a with | some u => !wrT j.o u && rest.all (fun y => !wrT y.o u) | none => false) | _ => true) &&
  rest.all (fun y => y.i != j.i) &&
  (j.as.all fun a => match tmpOf a with | some u => rest.all (fun y => !wrT y.o u) | none => false) &&
  (decide (clsOp j.o.op ≠ .E) || rest.all (fun x => !(j.ns.contains x.i) || rest.all (fun y => match y.o.dst with | some t => !rdsT gd x.o t | none => true)))
def okList (gd : Nat → Option Tmp) (A : List (List Nat)) : List It → Bool
  | [] => true
  | j :: rest => okHead gd j rest && (rest.all fun i => ((A.getD i.i []).contains j.i || okPair gd j i) && !((predsO j.o).contains i.i)) && okList gd A rest
def ancOk (ops : List Oper) (A : List (List Nat)) : Bool :=
  (List.range A.length).all fun i => (A.getD i []).all fun j =>
    match ops[i]? with
    | some o => (predsO o).any fun p => p == j || (decide (p < i) && (A.getD p []).contains j)
    | none => false
def drawOk (ops : Array Oper) (its : List It) (A : List (List Nat)) : Bool :=
  ancOk ops.toList A && okList (fun j => (ops[j]?).bind (·.dst)) A its && decide (its.length ≤ ops.size) && ((List.range ops.size).all fun i => its.any fun it => it.i == i)

inductive AX where
  | normal
  | exit (id : Nat)
  | ret

def AX.then (next : St → Prop) (K : AX → St → Prop) : AX → St → Prop
  | .normal, s => next s
  | e, s => K e s

def AX.inBlock (id : Nat) (K : AX → St → Prop) : AX → St → Prop
  | .exit i, s => if i = id then K .normal s else K (.exit i) s
  | e, s => K e s

def gdOf (ops : Array Oper) (j : Nat) : Option Tmp := (ops[j]?).bind (·.dst)

def WpA (C : Ctx) : Code → (AX → St → Prop) → St → Prop
  | .skip, K, st => K .normal st
  | .region _ ops false, K, st => runA C st.nx (gdOf ops) 0 ops.toList { st with nx := st.nx + ops.size } fun s => K .normal s
  | .region _ ops true, K, st => ∃ its A, drawOk ops its A = true ∧ (∀ it ∈ its, ops[it.i]? = some it.o) ∧ runD C st.nx (gdOf ops) its { st with nx := st.nx + ops.size } fun s => K .normal s
  | .seq x y, K, st => WpA C x (AX.then (WpA C y K) K) st
  | .cond c x y, K, st => ∃ b, st.ev c = .bool b ∧ (b = true → WpA C x K st) ∧ (b = false → WpA C y K st)
  | .block id c, K, st => WpA C c (AX.inBlock id K) st
  | .loop c, K, st => ∃ (Inv : St → Prop) (μ : St → Nat), Inv st ∧ ∀ s, Inv s → WpA C c (AX.then (fun s' => Inv s' ∧ μ s' < μ s) K) s
  | .exit id, K, st => K (.exit id) st
  | .ret, K, st => K .ret st
  | .label _, K, st => K .normal st
  | _, _, _ => False

def resA (C : Ctx) (st : St) : ResultVar → Option AV
  | .tmp t => some (st.t t)
  | .cell a t =>
    match st.t a with
    | .ptr p off =>
      match C.ty t, st.h p with
      | some d, some (.obj cells) => loadA d cells off
      | _, _ => none
    | _ => none

def resultsA (C : Ctx) (st : St) (rs : List ResultVar) : Option AV :=
  match rs with
  | [r] => resA C st r
  | rs => (rs.mapM (resA C st)).map .tup

end Go.AE
end

section
/- Abstract machine: soundness of single operations, first part. -/
namespace Go.AE

structure SRel (N : Nat) (ρ : Names) (I : Imm) (w : World) (st : St) (a : Act) : Prop where
  sz : a.tmps.size = N
  df : a.defers = []
  tm : ∀ n, VR ρ I w (st.t n) (a.tmps.getD n undef)
  hp : HRel ρ I w st.h
  nm : ∀ id B, ρ id = some B → id < st.nx

def zrB : AV → Value → Bool
  | .int k n, .int k' n' => k = k' && n = n'
  | .bool a, .bool b => a = b
  | .str s, .string s' => s.data.toList = s'.data.toList
  | .nil, .slice none 0 0 => true
  | .dead, _ => true
  | _, _ => false

theorem zrB_vr {x u} (h : zrB x u = true) (ρ I w) : VR ρ I w x u := by
  unfold zrB at h
  split at h
  · simp at h; obtain ⟨rfl, rfl⟩ := h; exact .int _ _
  · simp at h; subst h; exact .bool _
  · simp at h; rename_i s s'; have : s = s' := by cases s; cases s'; simp_all
    subst this; exact .str _
  · exact .nil
  · exact .dead _
  · cases h

def tyOk (P : Program) (t : TypeId) (d : TyD) : Bool :=
  match P.info? t, P.underlying t with
  | some i, some u =>
    i.size == d.size && i.bytes == d.bytes && d.zero.length == d.size &&
    (match i.zero with
     | some z => z.cells.size == d.size && (List.range d.size).all fun j =>
        match d.zero[j]?, z.cells[j]? with
        | some x, some u => zrB x u
        | _, _ => false
     | none => false) &&
    (match u with
     | .struct fs => d.agg && d.elem.isNone && d.ik.isNone && !d.isStr && fs.toList.map (fun f => (f.offset, f.type)) == d.fields.map (fun f => (f.1, f.2.2)) &&
        d.fields.all fun f => (P.info? f.2.2).map (·.size) == some f.2.1
     | .array .. => false
     | .slice e => !d.agg && d.elem == some e && d.ik.isNone && !d.isStr && d.fields.isEmpty
     | .int k => !d.agg && d.elem.isNone && d.ik == some k && !d.isStr && d.fields.isEmpty
     | .string => !d.agg && d.elem.isNone && d.ik.isNone && d.isStr && d.fields.isEmpty
     | _ => !d.agg && d.elem.isNone && d.ik.isNone && !d.isStr && d.fields.isEmpty)
  | _, _ => false

structure Ctx.Ok (C : Ctx) : Prop where
  mix : C.P.follows .mixedOrders = true
  tys : ∀ t d, C.ty t = some d → tyOk C.P t d = true
  eqs : ∀ t x y b, C.eqA t x y = some b → ∀ ρ I w xv yv, VR ρ I w x xv → VR ρ I w y yv → ∀ (xo yo : Operand) (W : World),
    (do eqGuard .eql t xo yo xv yv; Go.binOp .eql t xv yv : Sem Value).run C.P W = .ok (.bool b) W ∧
    (do eqGuard .neq t xo yo xv yv; Go.binOp .neq t xv yv : Sem Value).run C.P W = .ok (.bool (!b)) W

structure TyFacts (P : Program) (t : TypeId) (d : TyD) (i : TypeInfo) (u : TypeDesc) (z : Value) : Prop where
  info : P.info? t = some i
  und : P.underlying t = some u
  size : i.size = d.size
  bytes : i.bytes = d.bytes
  zlen : d.zero.length = d.size
  zero : i.zero = some z
  zsize : z.cells.size = d.size
  zvr : ∀ (j : Nat) x u, d.zero[j]? = some x → z.cells[j]? = some u → ∀ ρ I w, VR ρ I w x u

theorem Ctx.Ok.facts {C : Ctx} (ok : C.Ok) {t d} (h : C.ty t = some d) : ∃ i u z, TyFacts C.P t d i u z := by
  have h0 := ok.tys t d h
  unfold tyOk at h0
  cases hi : C.P.info? t with
  | none => simp [hi] at h0
  | some i =>
    cases hu : C.P.underlying t with
    | none => simp [hi, hu] at h0
    | some u =>
      simp only [hi, hu, Bool.and_eq_true] at h0
      obtain ⟨⟨⟨⟨h1, h2⟩, h3⟩, h4⟩, h5⟩ := h0
      cases hz : i.zero with
      | none => simp [hz] at h4
      | some z =>
        simp only [hz, Bool.and_eq_true, List.all_eq_true, List.mem_range] at h4
        refine ⟨i, u, z, by first | rfl | assumption, by first | rfl | assumption, by simpa using h1, by simpa using h2, by simpa using h3, hz, by simpa using h4.1, fun j x v hx hv ρ I w => ?_⟩
        have hj : j < d.size := by
          have := (List.getElem?_eq_some_iff.1 hx).1
          have h3' : d.zero.length = d.size := by simpa using h3
          omega
        have := h4.2 j hj
        rw [hx, hv] at this
        exact zrB_vr this ρ I w

theorem Ctx.Ok.agg {C : Ctx} (ok : C.Ok) {t d} (h : C.ty t = some d) (ha : d.agg = true) :
    ∃ fs, C.P.underlying t = some (.struct fs) ∧ fs.toList.map (fun f => (f.offset, f.type)) = d.fields.map (fun f => (f.1, f.2.2)) ∧
      ∀ f ∈ d.fields, (C.P.info? f.2.2).map (·.size) = some f.2.1 := by
  have h0 := ok.tys t d h
  unfold tyOk at h0
  cases hi : C.P.info? t with
  | none => simp [hi] at h0
  | some i =>
    cases hu : C.P.underlying t with
    | none => simp [hi, hu] at h0
    | some u =>
      simp only [hi, hu, Bool.and_eq_true] at h0
      obtain ⟨_, h5⟩ := h0
      cases u <;> simp [ha] at h5
      rename_i fs
      exact ⟨fs, rfl, h5.1.2, fun f hf => by have := h5.2 f.1 f.2.1 f.2.2 hf; simpa using this⟩

theorem Ctx.Ok.notAgg {C : Ctx} (ok : C.Ok) {t d} (h : C.ty t = some d) (ha : d.agg = false) (w : World) : (isAgg t).run C.P w = .ok false w := by
  have h0 := ok.tys t d h
  unfold tyOk at h0
  cases hi : C.P.info? t with
  | none => simp [hi] at h0
  | some i =>
    cases hu : C.P.underlying t with
    | none => simp [hi, hu] at h0
    | some u =>
      simp only [hi, hu, Bool.and_eq_true] at h0
      obtain ⟨_, h5⟩ := h0
      cases u <;> simp [ha] at h5 <;> simp [isAgg, run_underlying hu]

theorem Ctx.Ok.isAggT {C : Ctx} (ok : C.Ok) {t d} (h : C.ty t = some d) (ha : d.agg = true) (w : World) : (isAgg t).run C.P w = .ok true w := by
  obtain ⟨fs, hu, _⟩ := ok.agg h ha
  simp [isAgg, run_underlying hu]

theorem Ctx.Ok.slice {C : Ctx} (ok : C.Ok) {t d e} (h : C.ty t = some d) (he : d.elem = some e) : C.P.underlying t = some (.slice e) := by
  have h0 := ok.tys t d h
  unfold tyOk at h0
  cases hi : C.P.info? t with
  | none => simp [hi] at h0
  | some i =>
    cases hu : C.P.underlying t with
    | none => simp [hi, hu] at h0
    | some u =>
      simp only [hi, hu, Bool.and_eq_true] at h0
      obtain ⟨_, h5⟩ := h0
      cases u <;> simp [he] at h5
      rw [h5.1.1.1.2]

theorem Ctx.Ok.int {C : Ctx} (ok : C.Ok) {t d k} (h : C.ty t = some d) (he : d.ik = some k) : C.P.underlying t = some (.int k) := by
  have h0 := ok.tys t d h
  unfold tyOk at h0
  cases hi : C.P.info? t with
  | none => simp [hi] at h0
  | some i =>
    cases hu : C.P.underlying t with
    | none => simp [hi, hu] at h0
    | some u =>
      simp only [hi, hu, Bool.and_eq_true] at h0
      obtain ⟨_, h5⟩ := h0
      cases u <;> simp [he] at h5
      rw [h5.1.1.2]

theorem Ctx.Ok.str {C : Ctx} (ok : C.Ok) {t d} (h : C.ty t = some d) (he : d.isStr = true) : C.P.underlying t = some .string := by
  have h0 := ok.tys t d h
  unfold tyOk at h0
  cases hi : C.P.info? t with
  | none => simp [hi] at h0
  | some i =>
    cases hu : C.P.underlying t with
    | none => simp [hi, hu] at h0
    | some u =>
      simp only [hi, hu, Bool.and_eq_true] at h0
      obtain ⟨_, h5⟩ := h0
      cases u <;> simp [he] at h5
      rfl

theorem run_sizeOf' {P : Program} {t i} (h : P.info? t = some i) (w : World) : (sizeOf t).run P w = .ok i.size w := by simp [sizeOf, typeInfo, h]

theorem constA_vr (ρ I w) (v : Value) : VR ρ I w (constA v) v := by
  unfold constA
  split
  · exact .bool _
  · exact .int _ _
  · exact .str _
  · exact .nil
  · exact .dead _

section
variable {N : Nat} {ρ : Names} {I : Imm} {w : World} {st : St} {a : Act}

theorem SRel.ev (r : SRel N ρ I w st a) (x : Operand) : VR ρ I w (st.ev x) (a.eval x) := by
  cases x with
  | tmp t => exact r.tm t
  | const v => exact constA_vr ..
  | global g => exact .dead _
  | func f => exact .fn f [] #[] rfl (fun i x u h => by simp at h)

theorem getD_set {α : Type} (xs : Array α) (d n : Nat) (v u : α) (hd : d < xs.size) : (xs.setIfInBounds d v).getD n u = if n = d then v else xs.getD n u := by
  by_cases h : n = d
  · subst h; simp [hd]
  · have : d ≠ n := fun e => h e.symm
    simp [h, Array.getElem?_setIfInBounds_ne this]

theorem SRel.put (r : SRel N ρ I w st a) {dst : Option Tmp} {av : AV} {v : Value} (hv : VR ρ I w av v) (hd : ∀ d, dst = some d → d < N) :
    SRel N ρ I w (st.put dst av) (a.put dst v) := by
  cases dst with
  | none => exact r
  | some d =>
    have hdN := hd d rfl
    refine ⟨by simp [Act.put, r.sz], r.df, fun n => ?_, r.hp, r.nm⟩
    show VR ρ I w (upd st.t d av n) ((a.tmps.setIfInBounds d v).getD n undef)
    rw [getD_set _ _ _ _ _ (by rw [r.sz]; exact hdN)]
    by_cases h : n = d
    · subst h; simp [hv]
    · rw [upd_ne _ _ _ _ h, if_neg h]; exact r.tm n
end

def After (N : Nat) (st : St) (ρ : Names) (I : Imm) (w : World) (id : Nat) (K : St → Prop) (a' : Act) (w' : World) : Prop :=
  ∃ st' ρ' I', K st' ∧ SRel N ρ' I' w' st' a' ∧ Ext st.h ρ I w st'.h ρ' I' w' ∧
    (∀ i B, ρ' i = some B → ρ i = some B ∨ i = id ∨ st.nx ≤ i) ∧ st.nx ≤ st'.nx

def dstOk (N : Nat) (o : Oper) : Prop := ∀ d, o.dst = some d → d < N

theorem step_pure {C : Ctx} {N ρ I w st a id K} {o : Oper} {Q : Exit → Act → World → Prop} (r : SRel N ρ I w st a) (hd : dstOk N o) {av : AV} {v : Value}
    (hr : (execOp a.eval o).run C.P w = .ok (.value v) w) (hv : VR ρ I w av v) (hK : K (st.put o.dst av)) : o.wp C.P a w (After N st ρ I w id K) Q := by
  unfold Oper.wp
  rw [hr]
  show After N st ρ I w id K (a.put o.dst v) w
  refine ⟨st.put o.dst av, ρ, I, hK, r.put hv hd, ?_, fun i B h => .inl h, ?_⟩
  · have : (st.put o.dst av).h = st.h := by cases o.dst <;> rfl
    rw [this]; exact Ext.refl
  · have : (st.put o.dst av).nx = st.nx := by cases o.dst <;> rfl
    rw [this]; exact Nat.le_refl _

end Go.AE
end

section
/- Abstract machine: comparing. -/
namespace Go.AE
theorem eq_bool {P : Program} {t : TypeId} {a b : Bool} (h : P.underlying t = some .bool) (ρ : Names) (I : Imm) (w : World) (xv yv : Value) (hx : VR ρ I w (.bool a) xv) (hy : VR ρ I w (.bool b) yv) (xo yo : Operand) (W : World) :
    (do eqGuard .eql t xo yo xv yv; Go.binOp .eql t xv yv : Sem Value).run P W = .ok (.bool (a == b)) W ∧
    (do eqGuard .neq t xo yo xv yv; Go.binOp .neq t xv yv : Sem Value).run P W = .ok (.bool (!(a == b))) W := by
  cases hx; cases hy
  constructor
  · rw [eqGuard_at_bool]; exact run_eql_bool _ t a b h
  · rw [eqGuard_at_bool]; exact run_neq_bool _ t a b h
end Go.AE
end

section
/- Abstract machine: how abstract memory follows the model's. -/
namespace Go.AE

theorem RowR.mono {ρ ρ' : Names} {I I' : Imm} {w w' : World} {id sz xs} (r : RowR ρ I w id sz xs) (hr : ∀ id B, ρ id = some B → ρ' id = some B)
    (hI : ∀ p b, I p b → I' p b) (hw : ∀ p b, I p b → w'.heap[b]? = w.heap[b]?) (ho : ∀ B b, ρ id = some B → B.blk = some b → w'.heap[b]? = w.heap[b]?) :
    RowR ρ' I' w' id sz xs := by
  obtain ⟨B, h1, h2, h3, h4, h5, h6⟩ := r
  refine ⟨B, hr _ _ h1, h2, h3, h4, h5, ?_⟩
  rcases h6 with h6 | ⟨b, cur, ty, g1, g2, g3, g4, g5, g6⟩
  · exact .inl h6
  · exact .inr ⟨b, cur, ty, g1, (ho B b h1 g1).trans g2, g3, g4, g5, fun i j x u hx hu => (g6 i j x u hx hu).mono hr hI hw⟩

theorem ObjR.mono {ρ ρ' : Names} {I I' : Imm} {w w' : World} {id cells} (r : ObjR ρ I w id cells) (hr : ∀ id B, ρ id = some B → ρ' id = some B)
    (hI : ∀ p b, I p b → I' p b) (hw : ∀ p b, I p b → w'.heap[b]? = w.heap[b]?) (ho : ∀ B b, ρ id = some B → B.blk = some b → w'.heap[b]? = w.heap[b]?) :
    ObjR ρ' I' w' id cells := by
  obtain ⟨B, b, cur, ty, h1, h2, h3, h4, h5⟩ := r
  exact ⟨B, b, cur, ty, hr _ _ h1, h2, (ho B b h1 h2).trans h3, h4, fun i x u hx hu => (h5 i x u hx hu).mono hr hI hw⟩

def EntR (ρ : Names) (I : Imm) (w : World) (id : Nat) : Ent → Prop
  | .obj cells => ObjR ρ I w id cells
  | .row sz xs => RowR ρ I w id sz xs

theorem HRel.ent {ρ I w h} (H : HRel ρ I w h) {id e} (he : h id = some e) : EntR ρ I w id e := by
  cases e with
  | obj cells => exact H.obj id cells he
  | row sz xs => exact H.row id sz xs he

theorem EntR.base {ρ I w id e} (h : EntR ρ I w id e) : ∃ B, ρ id = some B := by
  cases e with
  | obj cells => obtain ⟨B, b, cur, ty, h1, _⟩ := h; exact ⟨B, h1⟩
  | row sz xs => obtain ⟨B, h1, _⟩ := h; exact ⟨B, h1⟩

theorem EntR.lt {ρ I w id e} (h : EntR ρ I w id e) {B b} (hB : ρ id = some B) (hb : B.blk = some b) : b < w.heap.size := by
  cases e with
  | obj cells =>
    obtain ⟨B', b', cur, ty, h1, h2, h3, _⟩ := h
    rw [hB] at h1; cases h1; rw [hb] at h2; cases h2
    exact (Array.getElem?_eq_some_iff.1 h3).1
  | row sz xs =>
    obtain ⟨B', h1, _, _, _, _, h6⟩ := h
    rw [hB] at h1; cases h1
    rcases h6 with ⟨h6, _⟩ | ⟨b', cur, ty, g1, g2, _⟩
    · rw [hb] at h6; cases h6
    · rw [hb] at g1; cases g1
      exact (Array.getElem?_eq_some_iff.1 g2).1

theorem Owns.lt {ρ I w h b} (H : HRel ρ I w h) (o : Owns h ρ b) : b < w.heap.size := by
  obtain ⟨id, e, B, h1, h2, h3⟩ := o
  exact (H.ent h1).lt h2 h3

theorem HRel.replace {ρ ρ' : Names} {I : Imm} {w w' : World} {h h' : Heap} (H : HRel ρ I w h) {id0 : Nat} {e0 : Ent} {B0 : Base}
    (hρ : ∀ id B, ρ id = some B → ρ' id = some B) (hold : ∀ id e, id ≠ id0 → h' id = some e → h id = some e)
    (hid0 : h' id0 = some e0) (hB : ρ' id0 = some B0)
    (hdisj : ∀ id e B b, id ≠ id0 → h' id = some e → ρ id = some B → B0.blk = some b → B.blk ≠ some b)
    (himm : ∀ b p, B0.blk = some b → ¬ I p b)
    (hw : ∀ k, k < w.heap.size → B0.blk ≠ some k → w'.heap[k]? = w.heap[k]?) (hsize : w.heap.size ≤ w'.heap.size)
    (hrel : EntR ρ' I w' id0 e0) : HRel ρ' I w' h' := by
  have hwi : ∀ p b, I p b → w'.heap[b]? = w.heap[b]? := fun p b hb => hw b (H.immlt p b hb) fun e => himm b p e hb
  have key : ∀ id e, h' id = some e → EntR ρ' I w' id e := by
    intro id e he
    by_cases hid : id = id0
    · subst hid; rw [hid0] at he; cases he; exact hrel
    · have ho := hold id e hid he
      have hown : ∀ B b, ρ id = some B → B.blk = some b → w'.heap[b]? = w.heap[b]? := fun B b hB' hb =>
        hw b ((H.ent ho).lt hB' hb) fun e0' => hdisj id e B b hid he hB' e0' hb
      cases e with
      | obj cells => exact ObjR.mono (H.obj id cells ho) hρ (fun _ _ h => h) hwi hown
      | row sz xs => exact RowR.mono (H.row id sz xs ho) hρ (fun _ _ h => h) hwi hown
  have base : ∀ id e B, id ≠ id0 → h' id = some e → ρ' id = some B → ρ id = some B := by
    intro id e B hid he hB'
    obtain ⟨B1, h1⟩ := (H.ent (hold id e hid he)).base
    have := hρ id B1 h1
    rw [hB'] at this; cases this; exact h1
  refine ⟨fun id cells he => key id _ he, fun id sz xs he => key id _ he, ?_, ?_, fun p b hb => Nat.lt_of_lt_of_le (H.immlt p b hb) hsize⟩
  · intro id id' e e' B B' b he he' hne hBi hBi' hb
    by_cases h1 : id = id0
    · subst h1
      rw [hB] at hBi; cases hBi
      have h2 : id' ≠ id := fun e => hne e.symm
      exact hdisj id' e' B' b h2 he' (base id' e' B' h2 he' hBi') hb
    · by_cases h2 : id' = id0
      · subst h2
        rw [hB] at hBi'; cases hBi'
        intro hb'
        exact hdisj id e B b h1 he (base id e B h1 he hBi) hb' hb
      · exact H.sep id id' e e' B B' b (hold id e h1 he) (hold id' e' h2 he') hne (base id e B h1 he hBi) (base id' e' B' h2 he' hBi') hb
  · intro id e B b p he hBi hb
    by_cases h1 : id = id0
    · subst h1
      rw [hB] at hBi; cases hBi
      exact himm b p hb
    · exact H.imm id e B b p (hold id e h1 he) (base id e B h1 he hBi) hb

theorem Ext.replace {ρ ρ' : Names} {I : Imm} {w w' : World} {h h' : Heap} (H : HRel ρ I w h) {id0 : Nat} {e0 : Ent} {B0 : Base}
    (hρ : ∀ id B, ρ id = some B → ρ' id = some B) (hold : ∀ id e, id ≠ id0 → h' id = some e → h id = some e)
    (hid0 : h' id0 = some e0) (hB : ρ' id0 = some B0)
    (hown : ∀ b, B0.blk = some b → Owns h ρ b ∨ w.heap.size ≤ b)
    (hw : ∀ k, k < w.heap.size → B0.blk ≠ some k → w'.heap[k]? = w.heap[k]?) (hsize : w.heap.size ≤ w'.heap.size)
    (hos : w'.os = w.os) (htape : w'.tape = w.tape) (hout : w'.output = w.output) : Ext h ρ I w h' ρ' I w' where
  rho := hρ
  imm _ _ h := h
  bor _ h := h
  immN _ h := .inl h
  own b := by
    rintro ⟨id, e, B, h1, h2, h3⟩
    by_cases hid : id = id0
    · subst hid
      rw [hB] at h2; cases h2
      exact hown b h3
    · obtain ⟨B1, g1⟩ := (H.ent (hold id e hid h1)).base
      have := hρ id B1 g1
      rw [h2] at this; cases this
      exact .inl ⟨id, e, B, hold id e hid h1, g1, h3⟩
  os := hos
  tape := htape
  output := hout
  size := hsize
  frame k hk hno := hw k hk fun e => by
    rcases hown k e with h | h
    · exact hno h
    · omega

theorem alloc_ext {ρ : Names} {I : Imm} {w w' : World} {h h' : Heap} (H : HRel ρ I w h) {id0 : Nat} {e0 : Ent} {B0 : Base} (hn : ρ id0 = none)
    (hold : ∀ id e, id ≠ id0 → h' id = some e → h id = some e) (hid0 : h' id0 = some e0)
    (hb : B0.blk = none ∨ B0.blk = some w.heap.size) (hwk : ∀ k, k < w.heap.size → w'.heap[k]? = w.heap[k]?)
    (hsize : w.heap.size ≤ w'.heap.size) (hos : w'.os = w.os) (htape : w'.tape = w.tape) (hout : w'.output = w.output)
    (hrel : EntR (upd ρ id0 (some B0)) I w' id0 e0) : HRel (upd ρ id0 (some B0)) I w' h' ∧ Ext h ρ I w h' (upd ρ id0 (some B0)) I w' := by
  have hρ : ∀ id B, ρ id = some B → upd ρ id0 (some B0) id = some B := by
    intro id B hB
    have hne : id ≠ id0 := fun e => by subst e; rw [hn] at hB; cases hB
    rw [upd_ne _ _ _ _ hne]; exact hB
  have hB : upd ρ id0 (some B0) id0 = some B0 := upd_same ..
  have hge : ∀ b, B0.blk = some b → b = w.heap.size := fun b hb' => by
    rcases hb with h | h
    · rw [h] at hb'; cases hb'
    · rw [h] at hb'; cases hb'; rfl
  refine ⟨H.replace hρ hold hid0 hB ?_ ?_ (fun k hk _ => hwk k hk) hsize hrel, Ext.replace H hρ hold hid0 hB (fun b hb' => .inr (by rw [hge b hb']; exact Nat.le_refl _)) (fun k hk _ => hwk k hk) hsize hos htape hout⟩
  · intro id e B b hne he hBi hb' hb2
    have := (H.ent (hold id e hne he)).lt hBi hb2
    have := hge b hb'
    omega
  · intro b p hb' hi
    have := H.immlt p b hi
    have := hge b hb'
    omega

end Go.AE
end

section
/- Abstract machine: what a call does not see stays. -/
namespace Go.AE

def over (g h : Heap) : Heap := fun i => match g i with | some e => some e | none => h i

theorem over_frame {ρ ρ' : Names} {I I' : Imm} {w w' : World} {h g h0 : Heap} (H : HRel ρ I w (over g h)) (hd : ∀ i, g i ≠ none → h i = none)
    (H0 : HRel ρ' I' w' h0) (E : Ext h ρ I w h0 ρ' I' w') : HRel ρ' I' w' (over g h0) ∧ Ext (over g h) ρ I w (over g h0) ρ' I' w' := by
  have og : ∀ {i e}, g i = some e → over g h i = some e := fun hg => by simp [over, hg]
  have og0 : ∀ {i e}, over g h0 i = some e → g i = some e ∨ (g i = none ∧ h0 i = some e) := by
    intro i e hi
    unfold over at hi
    cases hg : g i with
    | none => rw [hg] at hi; exact .inr ⟨rfl, hi⟩
    | some e' => rw [hg] at hi; exact .inl hi
  have oh : ∀ {i e}, h i = some e → over g h i = some e := by
    intro i e hi
    cases hg : g i with
    | none => simp [over, hg, hi]
    | some e' => have := hd i (by rw [hg]; simp); rw [hi] at this; cases this
  have ownsG : ∀ b, Owns h ρ b → Owns (over g h) ρ b := fun b ⟨i, e, B, h1, h2, h3⟩ => ⟨i, e, B, oh h1, h2, h3⟩
  -- blocks of g's entries are not h's
  have gnot : ∀ {i e B b}, g i = some e → ρ i = some B → B.blk = some b → ¬ Owns h ρ b := by
    rintro i e B b hg hB hb ⟨j, e', B', h1, h2, h3⟩
    have hne : i ≠ j := by
      rintro rfl
      have := hd i (by rw [hg]; simp); rw [h1] at this; cases this
    exact H.sep i j e e' B B' b (og hg) (oh h1) hne hB h2 hb h3
  have glt : ∀ {i e B b}, g i = some e → ρ i = some B → B.blk = some b → b < w.heap.size := fun hg hB hb => (H.ent (og hg)).lt hB hb
  have gname : ∀ {i e}, g i = some e → ∃ B, ρ i = some B := fun hg => (H.ent (og hg)).base
  have Hh : HRel ρ I w h := ⟨fun id c he => H.obj id c (oh he), fun id s x he => H.row id s x (oh he), fun i j e e' B B' b hi hj => H.sep i j e e' B B' b (oh hi) (oh hj), fun i e B b p hi => H.imm i e B b p (oh hi), H.immlt⟩
  have hI : ∀ p b, I p b → w'.heap[b]? = w.heap[b]? := fun p b hb => E.frame b (H.immlt p b hb) (Hh.not_imm hb)
  have gimm : ∀ {i e B b p}, g i = some e → ρ i = some B → B.blk = some b → ¬ I' p b := by
    intro i e B b p hg hB hb hI'
    have h1 := fun p => H.imm i e B b p (og hg) hB hb
    cases p with
    | false => exact h1 false (E.bor b hI')
    | true =>
      rcases E.immN b hI' with h | h | h
      · exact h1 true h
      · exact gnot hg hB hb h
      · have := glt hg hB hb; omega
  refine ⟨⟨fun id cells he => ?_, fun id sz xs he => ?_, fun i j e e' B B' b hi hj hne hB hB' hb hb' => ?_, fun i e B b p hi hB hb hI' => ?_, H0.immlt⟩,
    ⟨E.rho, E.imm, E.bor, fun b hb => ?_, fun b hb => ?_, E.os, E.tape, E.output, E.size, fun k hk hn => E.frame k hk fun ho => hn (ownsG k ho)⟩⟩
  · rcases og0 he with hg | ⟨_, h1⟩
    · exact (H.obj id cells (og hg)).mono E.rho E.imm hI fun B b hB hb => E.frame b (glt hg hB hb) (gnot hg hB hb)
    · exact H0.obj id cells h1
  · rcases og0 he with hg | ⟨_, h1⟩
    · exact (H.row id sz xs (og hg)).mono E.rho E.imm hI fun B b hB hb => E.frame b (glt hg hB hb) (gnot hg hB hb)
    · exact H0.row id sz xs h1
  · rcases og0 hi with hg | ⟨hgi, h1⟩
    · obtain ⟨Bi, hBi⟩ := gname hg
      have := E.rho _ _ hBi; rw [hB] at this; cases this
      rcases og0 hj with hg' | ⟨hgj, h2⟩
      · obtain ⟨Bj, hBj⟩ := gname hg'
        have := E.rho _ _ hBj; rw [hB'] at this; cases this
        exact H.sep i j e e' B B' b (og hg) (og hg') hne hBi hBj hb hb'
      · rcases E.own b ⟨j, e', B', h2, hB', hb'⟩ with h | h
        · exact gnot hg hBi hb h
        · have := glt hg hBi hb; omega
    · rcases og0 hj with hg' | ⟨hgj, h2⟩
      · obtain ⟨Bj, hBj⟩ := gname hg'
        have := E.rho _ _ hBj; rw [hB'] at this; cases this
        rcases E.own b ⟨i, e, B, h1, hB, hb⟩ with h | h
        · exact gnot hg' hBj hb' h
        · have := glt hg' hBj hb'; omega
      · exact H0.sep i j e e' B B' b h1 h2 hne hB hB' hb hb'
  · rcases og0 hi with hg | ⟨_, h1⟩
    · obtain ⟨Bi, hBi⟩ := gname hg
      have := E.rho _ _ hBi; rw [hB] at this; cases this
      exact gimm hg hBi hb hI'
    · exact H0.imm i e B b p h1 hB hb hI'
  · rcases E.immN b hb with h | h | h
    · exact .inl h
    · exact .inr (.inl (ownsG b h))
    · exact .inr (.inr h)
  · obtain ⟨i, e, B, hi, hB, hb⟩ := hb
    rcases og0 hi with hg | ⟨_, h1⟩
    · obtain ⟨Bi, hBi⟩ := gname hg
      have := E.rho _ _ hBi; rw [hB] at this; cases this
      exact .inl ⟨i, e, B, og hg, hBi, hb⟩
    · rcases E.own b ⟨i, e, B, h1, hB, hb⟩ with h | h
      · exact .inl (ownsG b h)
      · exact .inr h

theorem ACall.frame {P f args h nx} {Q : AV → Heap → Nat → Prop} (hc : ACall P f args h nx Q) (g : Heap) (hd : ∀ i, g i ≠ none → h i = none) :
    ACall P f args (over g h) nx fun r h' nx' => ∃ h0, h' = over g h0 ∧ Q r h0 nx' :=
  ⟨hc.1, fun ρ I w vs h1 H h3 => by
    have oh : ∀ {i e}, h i = some e → over g h i = some e := by
      intro i e hi
      cases hg : g i with
      | none => simp [over, hg, hi]
      | some e' => have := hd i (by rw [hg]; simp); rw [hi] at this; cases this
    have Hh : HRel ρ I w h := ⟨fun id c he => H.obj id c (oh he), fun id s x he => H.row id s x (oh he), fun i j e e' B B' b hi hj => H.sep i j e e' B B' b (oh hi) (oh hj), fun i e B b p hi => H.imm i e B b p (oh hi), H.immlt⟩
    refine (hc.2 ρ I w vs h1 Hh h3).mono fun e w' ⟨v, r, h0, nx', ρ', I', g1, g2, g3, g4, g5, g6, g7, g8⟩ => ?_
    obtain ⟨H', E'⟩ := over_frame H hd g4 g5
    exact ⟨v, r, over g h0, nx', ρ', I', g1, ⟨h0, rfl, g2⟩, g3, H', E', g6, g7, g8⟩⟩

def one1 (i : Nat) (e : Ent) : Heap := fun j => if j = i then some e else none
theorem over_one (i e h) : over (one1 i e) h = upd h i (some e) := by
  funext j
  simp only [over, one1, upd]
  by_cases hj : j = i <;> simp [hj]

theorem ACall.frame1 {P f args h nx} {Q : AV → Heap → Nat → Prop} (hc : ACall P f args h nx Q) (i : Nat) (e : Ent) (hd : h i = none) :
    ACall P f args (upd h i (some e)) nx fun r h' nx' => ∃ h0, h' = upd h0 i (some e) ∧ Q r h0 nx' := by
  have := hc.frame (one1 i e) fun j hj => by
    by_cases h' : j = i
    · subst h'; exact hd
    · simp [one1, h'] at hj
  rw [over_one] at this
  refine ⟨this.1, fun ρ I w vs h1 h2 h3 => (this.2 ρ I w vs h1 h2 h3).mono fun e' w' ⟨v, r, h', nx', ρ', I', g1, ⟨h0, g2, g2'⟩, g3⟩ => ?_⟩
  exact ⟨v, r, h', nx', ρ', I', g1, ⟨h0, by rw [g2, over_one], g2'⟩, g3⟩
end Go.AE
end

section
/- Abstract machine: operations, one by one, for regions that draw their order. -/
namespace Go.AE
section
variable {C : Ctx} {st st' : St} {K K' : St → Prop} {o : Oper} {id id' : Nat}

def Agr (O : Array Operand) (s s' : St) : Prop := ∀ x ∈ O, s'.ev x = s.ev x

theorem agr_parts {α : Type} [DecidableEq α] {ps : Array (α × Operand)} {s s' : St} (h : ∀ x ∈ ((ps.toList.map (·.2)).toArray), s'.ev x = s.ev x) :
    (ps.toList.map fun p => (p.1, s'.ev p.2)) = ps.toList.map fun p => (p.1, s.ev p.2) := by
  refine List.map_congr_left fun p hp => ?_
  rw [h p.2 (by simp only [List.mem_toArray]; exact List.mem_map.2 ⟨p, hp, rfl⟩)]

theorem pA (hA : clsOp o.op = .A) (h : stepD C id o st K) :
    ∃ v, K (st.put o.dst v) ∧ ∀ (id' : Nat) (st' : St) (K' : St → Prop), Agr o.op.operands st st' → K' (st'.put o.dst v) → stepD C id' o st' K' := by
  obtain ⟨dst, op, ty, pos, after, guard⟩ := o
  simp only at hA h ⊢
  unfold stepD at h ⊢
  simp only [hA] at h ⊢
  cases op <;> simp only [asLen] at h ⊢
  case move x => exact ⟨_, h, fun id' st' K' ha hk => by have := ha x (by simp [Op.operands]); simpa [stepA, this] using hk⟩
  case assign x => exact ⟨_, h, fun id' st' K' ha hk => by have := ha x (by simp [Op.operands]); simpa [stepA, this] using hk⟩
  case pick c x y =>
    obtain ⟨b, h1, h2⟩ := h
    exact ⟨_, h2, fun id' st' K' ha hk => ⟨b, by rw [ha c (by simp [Op.operands])]; exact h1, by
      rw [ha x (by simp [Op.operands]), ha y (by simp [Op.operands])]; exact hk⟩⟩
  case build t parts =>
    obtain ⟨d, cs, h1, h2, h3, h4, h5⟩ := h
    refine ⟨_, h5, fun id' st' K' ha hk => ⟨d, cs, h1, h2, ?_, ?_, hk⟩⟩
    · rw [List.all_eq_true] at h3 ⊢
      intro p hp
      rw [ha p.2 (by simp only [Op.operands, List.mem_toArray]; exact List.mem_map.2 ⟨p, hp, rfl⟩)]; exact h3 p hp
    · have := agr_parts ha
      rw [show (parts.toList.map fun x : Nat × Operand => match x with | (i, x) => (i, st'.ev x)) = parts.toList.map fun p => (p.1, st'.ev p.2) from rfl, this]; exact h4
  case nilCheck x =>
    obtain ⟨h1, h2⟩ := h
    exact ⟨_, h2, fun id' st' K' ha hk => by have := ha x (by simp [Op.operands]); simp only [stepA, this]; exact ⟨h1, hk⟩⟩
  case binOp op t x y t' =>
    obtain ⟨v, h1, h2⟩ := h
    exact ⟨v, h2, fun id' st' K' ha hk => ⟨v, by rw [ha x (by simp [Op.operands]), ha y (by simp [Op.operands])]; exact h1, hk⟩⟩
  case unOp op t x =>
    simp only [stepA] at h
    split at h
    · rename_i b hb
      exact ⟨_, h, fun id' st' K' ha hk => by simp only [stepA]; rw [ha x (by simp [Op.operands]), hb]; exact hk⟩
    · rename_i k n hb
      exact ⟨_, h, fun id' st' K' ha hk => by simp only [stepA]; rw [ha x (by simp [Op.operands]), hb]; exact hk⟩
    · exact h.elim
  case convert s d x =>
    simp only [stepA] at h
    split at h
    · rename_i k n hb
      obtain ⟨ds, dd, kk, h1, h2, h3, h4⟩ := h
      exact ⟨_, h4, fun id' st' K' ha hk => by simp only [stepA]; rw [ha x (by simp [Op.operands]), hb]; exact ⟨ds, dd, kk, h1, h2, h3, hk⟩⟩
    · exact h.elim
  case makeFunc fn first captured =>
    simp only [stepA] at h
    split at h
    · rename_i f
      split at h
      · rename_i hem
        refine ⟨_, h, fun id' st' K' ha hk => ?_⟩
        have : captured.toList.map st'.ev = captured.toList.map st.ev := List.map_congr_left fun x hx => ha x (by simp [Op.operands]; exact .inr (by simpa using hx))
        simp only [stepA, this]
        rw [if_pos hem]; exact hk
      · rename_i hem
        obtain ⟨h1, h2⟩ := h
        refine ⟨_, h2, fun id' st' K' ha hk => ?_⟩
        have : first.toList.map st'.ev = first.toList.map st.ev := List.map_congr_left fun x hx => ha x (by simp [Op.operands]; exact .inl (by simpa using hx))
        simp only [stepA, this]
        rw [if_neg hem]; exact ⟨h1, hk⟩
    · exact h.elim
  case slice t x lo hi mx =>
    obtain ⟨h0, d, e, de, n, l, hh, h1, h2, h3, h4, h5, h8, h9⟩ := h
    have key : ∃ v, K (st.put dst v) ∧ ∀ (st' : St) (K' : St → Prop), st'.ev x = st.ev x → K' (st'.put dst v) → (match st'.ev x with
       | .nil => K' (st'.put dst .nil)
       | .view p sz xs => sz = de.size ∧ K' (st'.put dst (.view p sz ((xs.drop l).take (hh - l))))
       | .ref r s off _ => s = de.size ∧ K' (st'.put dst (.ref r s (off + l) (hh - l)))
       | _ => False) := by
      split at h9
      · rename_i hx; exact ⟨_, h9, fun st' K' ha hk => by rw [ha, hx]; exact hk⟩
      · rename_i hx; exact ⟨_, h9.2, fun st' K' ha hk => by rw [ha, hx]; exact ⟨h9.1, hk⟩⟩
      · rename_i hx; exact ⟨_, h9.2, fun st' K' ha hk => by rw [ha, hx]; exact ⟨h9.1, hk⟩⟩
      · exact h9.elim
    obtain ⟨v, k1, k2⟩ := key
    refine ⟨v, k1, fun id' st' K' ha hk => ⟨h0, d, e, de, n, l, hh, h1, h2, h3, by rw [ha x (by simp [Op.operands])]; exact h4, ?_, h8, k2 st' K' (ha x (by simp [Op.operands])) hk⟩⟩
    have e1 : lo.map st'.ev = lo.map st.ev := by
      cases lo with
      | none => rfl
      | some y => simp only [Option.map_some]; rw [ha y (by simp [Op.operands])]
    have e2 : hi.map st'.ev = hi.map st.ev := by
      cases hi with
      | none => rfl
      | some y => simp only [Option.map_some]; rw [ha y (by simp [Op.operands])]
    rw [e1, e2]; exact h5
  case fieldAddr s x f =>
    obtain ⟨d, off, sz, ft, h1, h2, h3, h4, h5⟩ := h
    have key : ∃ v, K (st.put dst v) ∧ ∀ (st' : St) (K' : St → Prop), st'.ev x = st.ev x → K' (st'.put dst v) → (match st'.ev x with
       | .ptr p o1 => K' (st'.put dst (.ptr p (o1 + off)))
       | .ep p i o1 => K' (st'.put dst (.ep p i (o1 + off)))
       | .vptr cells => K' (st'.put dst (.vptr (cells.drop off)))
       | _ => False) := by
      split at h5
      · rename_i hx; exact ⟨_, h5, fun st' K' ha hk => by rw [ha, hx]; exact hk⟩
      · rename_i hx; exact ⟨_, h5, fun st' K' ha hk => by rw [ha, hx]; exact hk⟩
      · rename_i hx; exact ⟨_, h5, fun st' K' ha hk => by rw [ha, hx]; exact hk⟩
      · exact h5.elim
    obtain ⟨v, k1, k2⟩ := key
    exact ⟨v, k1, fun id' st' K' ha hk => ⟨d, off, sz, ft, h1, h2, h3, h4, k2 st' K' (ha x (by simp [Op.operands])) hk⟩⟩
  case field t x f =>
    obtain ⟨d, off, sz, ft, dt, v, h1, h2, h3, h4, h5⟩ := h
    split at h5
    · rename_i hx
      exact ⟨v, h5.2, fun id' st' K' ha hk => ⟨d, off, sz, ft, dt, v, h1, h2, h3, h4, by rw [ha x (by simp [Op.operands]), hx]; exact ⟨h5.1, hk⟩⟩⟩
    · exact h5.elim
  case indexAddr t x i =>
    obtain ⟨d, e, de, k, z, h1, h2, h3, h4, h5⟩ := h
    have key : ∃ v, K (st.put dst v) ∧ ∀ (st' : St) (K' : St → Prop), st'.ev x = st.ev x → K' (st'.put dst v) → (match st'.ev x with
       | .view _ sz xs => sz = de.size ∧ (0 ≤ z ∧ z < xs.length) ∧ ∀ cells, xs[z.toNat]? = some cells → K' (st'.put dst (.vptr cells))
       | .ref r s off len => s = de.size ∧ (0 ≤ z ∧ z < len) ∧ K' (st'.put dst (.ep r (off + z.toNat) 0))
       | _ => False) := by
      split at h5
      · rename_i p sz xs hx
        obtain ⟨g1, g2, g3⟩ := h5
        have hlt : z.toNat < xs.length := by omega
        refine ⟨_, g3 _ (List.getElem?_eq_getElem hlt), fun st' K' ha hk => ?_⟩
        rw [ha, hx]
        refine ⟨g1, g2, fun cells hc => ?_⟩
        rw [List.getElem?_eq_getElem hlt] at hc
        cases hc; exact hk
      · rename_i hx; exact ⟨_, h5.2.2, fun st' K' ha hk => by rw [ha, hx]; exact ⟨h5.1, h5.2.1, hk⟩⟩
      · exact h5.elim
    obtain ⟨v, k1, k2⟩ := key
    exact ⟨v, k1, fun id' st' K' ha hk => ⟨d, e, de, k, z, h1, h2, h3, by rw [ha i (by simp [Op.operands])]; exact h4, k2 st' K' (ha x (by simp [Op.operands])) hk⟩⟩
  case index t x i =>
    simp only [stepA] at h
    split at h
    · rename_i s k z hx hi
      obtain ⟨h1, h2, h3⟩ := h
      have hlt : z.toNat < s.size := by omega
      have hget : s[z.toNat]? = some s[z.toNat] := by
        simp [hlt]
      refine ⟨_, h3 _ hget, fun id' st' K' ha hk => ?_⟩
      simp only [stepA]
      rw [ha x (by simp [Op.operands]), ha i (by simp [Op.operands]), hx, hi]
      refine ⟨h1, h2, fun b hb => ?_⟩
      rw [hget] at hb; cases hb; exact hk
    · exact h.elim
  case extract x i =>
    simp only [stepA] at h
    split at h
    · rename_i vs hx
      obtain ⟨v, h1, h2⟩ := h
      exact ⟨v, h2, fun id' st' K' ha hk => by simp only [stepA]; rw [ha x (by simp [Op.operands]), hx]; exact ⟨v, h1, hk⟩⟩
    · exact h.elim
  case call c =>
    obtain ⟨callee, args, ats⟩ := c
    cases callee with
    | builtin b =>
      cases b <;> simp only [clsOp] at hA <;> try cases hA
      simp only [asLen, lenD] at h
      split at h
      · rename_i x t hx ht
        obtain ⟨d, n, b, h1, h2, h3, h4⟩ := h
        refine ⟨_, h4, fun id' st' K' ha hk => ?_⟩
        have hax : st'.ev x = st.ev x := ha x (by
          have : x ∈ args.toList := by rw [hx]; simp
          simp [Op.operands, Call.operands]
          simpa using this)
        simp only [asLen, lenD, hx, ht]
        exact ⟨d, n, b, h1, by rw [hax]; exact h2, h3, hk⟩
      · exact h.elim
    | _ => simp [clsOp] at hA
  all_goals simp [clsOp] at hA

theorem St.put_comm {s : St} {d e : Option Tmp} {v u : AV} (h : ∀ t, d = some t → e ≠ some t) : (s.put d v).put e u = (s.put e u).put d v := by
  cases d with
  | none => rfl
  | some d =>
    cases e with
    | none => rfl
    | some e =>
      have hne : e ≠ d := fun he => h d rfl (by rw [he])
      simp only [St.put, St.mk.injEq, and_true]
      funext t
      simp only [upd]
      by_cases h1 : t = e
      · subst h1; simp [hne]
      · by_cases h2 : t = d
        · subst h2; simp [h1]
        · simp [h1, h2]
theorem St.put_ev {s : St} {d : Option Tmp} {v : AV} {x : Operand} (h : ∀ t, d = some t → x ≠ .tmp t) : (s.put d v).ev x = s.ev x := by
  cases d with
  | none => rfl
  | some d =>
    cases x with
    | tmp t =>
      have : t ≠ d := fun he => h d rfl (by rw [he])
      simp [St.ev, St.put, upd, this]
    | _ => rfl
theorem St.put_t {s : St} {d : Option Tmp} {v : AV} {t : Nat} (h : d ≠ some t) : (s.put d v).t t = s.t t := by
  cases d with
  | none => rfl
  | some d =>
    have : t ≠ d := fun he => h (by rw [he])
    simp [St.put, upd, this]
@[simp] theorem St.put_hh {s : St} {d : Option Tmp} {v : AV} : (s.put d v).h = s.h := by cases d <;> rfl
@[simp] theorem St.put_nxx {s : St} {d : Option Tmp} {v : AV} : (s.put d v).nx = s.nx := by cases d <;> rfl
theorem St.put_wh {s : St} {d : Option Tmp} {v : AV} {hh : Heap} : ({ s.put d v with h := hh } : St) = ({ s with h := hh } : St).put d v := by cases d <;> rfl
theorem St.put_whn {s : St} {d : Option Tmp} {v : AV} {hh : Heap} {n : Nat} : ({ s.put d v with h := hh, nx := n } : St) = ({ s with h := hh, nx := n } : St).put d v := by cases d <;> rfl
theorem St.new_put {s : St} {d : Option Tmp} {v : AV} {i e} : (s.put d v).new i e = (s.new i e).put d v := by cases d <;> rfl

theorem pL {t : TypeId} {a : Operand} (ho : o.op = .load t a) (h : stepD C id o st K) :
    ∃ v, K (st.put o.dst v) ∧ ∀ (id' : Nat) (st' : St) (K' : St → Prop), Agr o.op.operands st st' → keeps (st.ev a) st.h st'.h → K' (st'.put o.dst v) → stepD C id' o st' K' := by
  obtain ⟨dst, op, ty, pos, after, guard⟩ := o
  simp only at ho
  subst ho
  simp only [stepD, clsOp, asLen, stepA] at h ⊢
  split at h
  · rename_i p off hx
    obtain ⟨d, cells, v, h1, h2, h3, h4⟩ := h
    refine ⟨v, h4, fun id' st' K' ha hk hK => ?_⟩
    rw [ha a (by simp [Op.operands]), hx]
    exact ⟨d, cells, v, h1, by rw [hk p (by rw [hx]; rfl)]; exact h2, h3, hK⟩
  · rename_i p idx off hx
    obtain ⟨d, sz, xs, h1, h2, h3, h4⟩ := h
    obtain ⟨v, h5, h6⟩ := h4 _ (List.getElem?_eq_getElem h3)
    refine ⟨v, h6, fun id' st' K' ha hk hK => ?_⟩
    rw [ha a (by simp [Op.operands]), hx]
    refine ⟨d, sz, xs, h1, by rw [hk p (by rw [hx]; rfl)]; exact h2, h3, fun cells hc => ⟨v, ?_, hK⟩⟩
    rw [List.getElem?_eq_getElem h3] at hc
    cases hc; exact h5
  · rename_i cells hx
    obtain ⟨d, v, h1, h2, h3⟩ := h
    refine ⟨v, h3, fun id' st' K' ha hk hK => ?_⟩
    rw [ha a (by simp [Op.operands]), hx]
    exact ⟨d, v, h1, h2, hK⟩
  · exact h.elim

theorem newA_congr {ev ev' : Operand → AV} {op : Op} {i : Nat} (h : ∀ x ∈ op.operands, ev' x = ev x) : newA C i ev' op = newA C i ev op := by
  cases op <;> try rfl
  case box e x => simp only [newA]; rw [h x (by simp [Op.operands])]
  case makeSlice t l c => simp only [newA]; rw [h l (by simp [Op.operands]), h c (by simp [Op.operands])]
  case buildSlice t len parts =>
    simp only [newA]
    have : (parts.toList.map fun p => (p.1, ev' p.2)) = parts.toList.map fun p => (p.1, ev p.2) :=
      List.map_congr_left fun p hp => by rw [h p.2 (by simp only [Op.operands, List.mem_toArray]; exact List.mem_map.2 ⟨p, hp, rfl⟩)]
    rw [this]

theorem pE (hE : clsOp o.op = .E) {d : Option Tmp} {v : AV} (hm : ∀ s : St, (∀ t, o.dst ≠ some t → s.t t = st.t t) → K (s.put d v) → K' s) (hop : ∀ t, d = some t → ∀ x ∈ o.op.operands, x ≠ .tmp t) (hd : ∀ t, d = some t → o.dst ≠ some t)
    (h : stepD C id o (st.put d v) K) : stepD C id o st K' := by
  obtain ⟨dst, op, ty, pos, after, guard⟩ := o
  simp only at hE hm hop hd h ⊢
  have hev : ∀ x ∈ op.operands, (st.put d v).ev x = st.ev x := fun x hx => St.put_ev fun t ht => hop t ht x hx
  unfold stepD at h ⊢
  simp only [hE] at h ⊢
  cases op <;> simp only [asLen] at h ⊢
  case store t a x =>
    have e1 := hev a (by simp [Op.operands])
    have e2 := hev x (by simp [Op.operands])
    simp only [stepA, e1, e2, St.put_hh] at h ⊢
    refine ⟨h.1, ?_⟩
    have h := h.2
    split at h
    · rename_i hx
      obtain ⟨dd, cells, h1, h2, h3, h4, h5⟩ := h
      refine ⟨dd, cells, h1, h2, h3, h4, hm _ (fun t ht => St.put_t ht) ?_⟩
      rw [St.put_wh, St.put_comm hd] at h5
      exact h5
    · rename_i hx
      obtain ⟨dd, sz, xs, vs, h', h1, h2, h3, h4, h5, h6, h7⟩ := h
      refine ⟨dd, sz, xs, vs, h', h1, h2, h3, h4, h5, h6, fun cells hc => hm _ (fun t ht => St.put_t ht) ?_⟩
      have := h7 cells hc
      rw [St.put_wh, St.put_comm hd] at this
      exact this
    · exact h.elim
  case call c =>
    obtain ⟨callee, args, ats⟩ := c
    cases callee with
    | value f =>
      have e1 := hev f (by simp [Op.operands, Call.operands])
      have e2 : args.toList.map (st.put d v).ev = args.toList.map st.ev := List.map_congr_left fun x hx => hev x (by simp [Op.operands, Call.operands]; exact .inr (by simpa using hx))
      simp only [stepA, e1, e2, St.put_hh, St.put_nxx] at h ⊢
      split at h
      · rename_i g caps hx
        refine ⟨h.1, fun ρ I w vs h1 h2 h3 => (h.2 ρ I w vs h1 h2 h3).mono fun e w' ⟨v', r, h', nx', ρ', I', g1, g2, g3⟩ => ⟨v', r, h', nx', ρ', I', g1, hm _ (fun t ht => St.put_t ht) ?_, g3⟩⟩
        have g2 : K (({ st.put d v with h := h', nx := nx' } : St).put dst r) := g2
        rw [St.put_whn, St.put_comm hd] at g2
        exact g2
      · rename_i g caps hx
        refine ⟨h.1, fun ρ I w vs h1 h2 h3 => (h.2 ρ I w vs h1 h2 h3).mono fun e w' ⟨v', r, h', nx', ρ', I', g1, g2, g3⟩ => ⟨v', r, h', nx', ρ', I', g1, hm _ (fun t ht => St.put_t ht) ?_, g3⟩⟩
        have g2 : K (({ st.put d v with h := h', nx := nx' } : St).put dst r) := g2
        rw [St.put_whn, St.put_comm hd] at g2
        exact g2
      · exact h.elim
    | builtin b =>
      cases b <;> simp only [clsOp] at hE <;> try cases hE
      simp only [stepA] at h ⊢
      split at h
      · rename_i s x t t' hx ht
        have e1 := hev s (by
          have : s ∈ args.toList := by rw [hx]; simp
          simp [Op.operands, Call.operands]; simpa using this)
        have e2 := hev x (by
          have : x ∈ args.toList := by rw [hx]; simp
          simp [Op.operands, Call.operands]; simpa using this)
        rw [e1, e2] at h
        by_cases h0 : t' = t
        case neg =>
          rw [if_neg h0] at h ⊢
          obtain ⟨dd, el, de, d', kk, n, h1, h2, h3, h4, h5, h6, h7, h8, h9, h10, h11, h12⟩ := h
          refine ⟨dd, el, de, d', kk, n, h1, h2, h3, h4, h5, h6, h7, h8, h9, h10, h11, hm _ (fun t ht => St.put_t ht) ?_⟩
          have h12 : K (((st.put d v).new id (Ent.row de.size (List.replicate n de.zero))).put dst (AV.ref id de.size 0 n)) := h12
          rw [St.new_put, St.put_comm hd] at h12
          exact h12
        rw [if_pos h0] at h ⊢
        obtain ⟨dd, e, de, xs, ys, h1, h2, h3, h4, h5, h6, h7, h8, h9, h10⟩ := h
        rw [St.put_hh] at h6 h7
        refine ⟨dd, e, de, xs, ys, h1, h2, h3, h4, h5, h6, h7, h8, h9, ?_⟩
        split at h10
        · refine hm _ (fun t ht => St.put_t ht) ?_
          rw [St.new_put, St.put_comm hd] at h10
          exact h10
        · refine fun s' ws hs => hm _ (fun t ht => St.put_t ht) ?_
          have h12 := h10 s' ws (by rw [St.put_hh]; exact hs)
          simp only at h12
          rw [St.put_wh, St.new_put, St.put_comm hd, St.put_hh] at h12
          exact h12
        · exact h10.elim
      · exact h.elim
    | invoke => simp [clsOp] at hE
  all_goals simp [clsOp] at hE

theorem pEnew {f : Operand} {args : Array Operand} {ats : Array TypeId} (ho : o.op = .call ⟨.value f, args, ats⟩) {d : Option Tmp} {v : AV} {i : Nat} {e : Ent} (hm : ∀ s0 : St, (∀ t, o.dst ≠ some t → s0.t t = st.t t) → K s0 → K' ((s0.new i e).put d v)) (hi : st.h i = none)
    (hop : ∀ t, d = some t → ∀ x ∈ o.op.operands, x ≠ .tmp t) (hd : ∀ t, d = some t → o.dst ≠ some t)
    (h : stepD C id o st K) : stepD C id o ((st.new i e).put d v) K' := by
  obtain ⟨dst, op, ty, pos, after, guard⟩ := o
  simp only at ho
  subst ho
  simp only at hm hop hd h ⊢
  have hev : ∀ x ∈ (Op.call ⟨.value f, args, ats⟩).operands, ((st.new i e).put d v).ev x = st.ev x := fun x hx => by
    rw [St.put_ev fun t ht => hop t ht x hx]; cases x <;> rfl
  have e1 := hev f (by simp [Op.operands, Call.operands])
  have e2 : args.toList.map ((st.new i e).put d v).ev = args.toList.map st.ev := List.map_congr_left fun x hx => hev x (by simp [Op.operands, Call.operands]; exact .inr (by simpa using hx))
  simp only [stepD, clsOp, asLen, stepA, e1, e2, St.put_hh, St.put_nxx] at h ⊢
  split at h
  · rename_i g caps hx
    have := ACall.frame1 h i e hi
    refine ⟨this.1, fun ρ I w vs h1 h2 h3 => (this.2 ρ I w vs h1 h2 h3).mono fun e' w' ⟨v', r, h', nx', ρ', I', g1, ⟨h0, g2, g2'⟩, g3⟩ => ⟨v', r, h', nx', ρ', I', g1, ?_, g3⟩⟩
    have key := hm (({ st with h := h0, nx := nx' } : St).put dst r) (fun t ht => St.put_t ht) g2'
    subst g2
    show K' (({ (st.new i e).put d v with h := upd h0 i (some e), nx := nx' } : St).put dst r)
    rw [St.put_whn, St.put_comm hd]
    have : ({ st.new i e with h := upd h0 i (some e), nx := nx' } : St).put dst r = (({ st with h := h0, nx := nx' } : St).put dst r).new i e := by cases dst <;> rfl
    rw [this]; exact key
  · rename_i g caps hx
    have := ACall.frame1 h i e hi
    refine ⟨this.1, fun ρ I w vs h1 h2 h3 => (this.2 ρ I w vs h1 h2 h3).mono fun e' w' ⟨v', r, h', nx', ρ', I', g1, ⟨h0, g2, g2'⟩, g3⟩ => ⟨v', r, h', nx', ρ', I', g1, ?_, g3⟩⟩
    have key := hm (({ st with h := h0, nx := nx' } : St).put dst r) (fun t ht => St.put_t ht) g2'
    subst g2
    show K' (({ (st.new i e).put d v with h := upd h0 i (some e), nx := nx' } : St).put dst r)
    rw [St.put_whn, St.put_comm hd]
    have : ({ st.new i e with h := upd h0 i (some e), nx := nx' } : St).put dst r = (({ st with h := h0, nx := nx' } : St).put dst r).new i e := by cases dst <;> rfl
    rw [this]; exact key
  · exact h.elim
theorem rowOf_new {h : Heap} {i : Nat} {e : Ent} {sz : Nat} {x : AV} {ys : List (List AV)} (hi : h i = none) (hx : rowOf h sz x = some ys) : rowOf (upd h i (some e)) sz x = some ys := by
  cases x <;> simp only [rowOf] at hx ⊢ <;> try exact hx
  rename_i r s0 off len
  have hne : r ≠ i := fun er => by subst er; rw [hi] at hx; cases hx
  rw [upd_ne _ _ _ _ hne]; exact hx
theorem upd_swap {h : Heap} {i j : Nat} {a b : Option Ent} (hij : j ≠ i) : upd (upd h i a) j b = upd (upd h j b) i a := by
  funext k
  by_cases hi : k = i
  · subst hi; rw [upd_same, upd_ne _ _ _ _ (fun e => hij e.symm), upd_same]
  · rw [upd_ne _ _ _ _ hi]
    by_cases hj : k = j
    · subst hj; rw [upd_same, upd_same]
    · rw [upd_ne _ _ _ _ hj, upd_ne _ _ _ _ hj, upd_ne _ _ _ _ hi]
theorem pEapp {args : Array Operand} {ats : Array TypeId} (ho : o.op = .call ⟨.builtin .append, args, ats⟩) {d : Option Tmp} {v : AV} {i : Nat} {e : Ent} (hne : id ≠ i) (hm : ∀ s0 : St, (∀ t, o.dst ≠ some t → s0.t t = st.t t) → K s0 → K' ((s0.new i e).put d v)) (hi : st.h i = none)
    (hop : ∀ t, d = some t → ∀ x ∈ o.op.operands, x ≠ .tmp t) (hd : ∀ t, d = some t → o.dst ≠ some t)
    (h : stepD C id o st K) : stepD C id o ((st.new i e).put d v) K' := by
  obtain ⟨dst, op, ty, pos, after, guard⟩ := o
  simp only at ho
  subst ho
  simp only at hm hop hd h ⊢
  have hev : ∀ x ∈ (Op.call ⟨.builtin .append, args, ats⟩).operands, ((st.new i e).put d v).ev x = st.ev x := fun x hx => by
    rw [St.put_ev fun t ht => hop t ht x hx]; cases x <;> rfl
  simp only [stepD, clsOp, asLen, stepA] at h ⊢
  split at h
  · rename_i s x t t' hx ht
    have e1 := hev s (by
      have : s ∈ args.toList := by rw [hx]; simp
      simp [Op.operands, Call.operands]; simpa using this)
    have e2 := hev x (by
      have : x ∈ args.toList := by rw [hx]; simp
      simp [Op.operands, Call.operands]; simpa using this)
    rw [e1, e2]
    by_cases h0 : t' = t
    case neg =>
      rw [if_neg h0] at h ⊢
      obtain ⟨dd, el, de, d', kk, n, h1, h2, h3, h4, h5, h6, h7, h8, h9, h10, h11, h12⟩ := h
      refine ⟨dd, el, de, d', kk, n, h1, h2, h3, h4, h5, h6, h7, h8, h9, h10, h11, ?_⟩
      have key := hm ((st.new id (Ent.row de.size (List.replicate n de.zero))).put dst (AV.ref id de.size 0 n)) (fun t ht => St.put_t (s := st.new id (Ent.row de.size (List.replicate n de.zero))) ht) h12
      have e3 : ((((st.new i e).put d v).new id (Ent.row de.size (List.replicate n de.zero))).put dst (AV.ref id de.size 0 n)) = ((((st.new id (Ent.row de.size (List.replicate n de.zero))).put dst (AV.ref id de.size 0 n)).new i e).put d v) := by
        rw [St.new_put, St.put_comm hd, St.new_put]
        congr 2
        simp only [St.new]
        congr 1
        exact upd_swap hne
      show K' ((((st.new i e).put d v).new id (Ent.row de.size (List.replicate n de.zero))).put dst (AV.ref id de.size 0 n))
      rw [e3]; exact key
    rw [if_pos h0] at h ⊢
    obtain ⟨dd, el, de, xs, ys, h1, h2, h3, h4, h5, h6, h7, h8, h9, h10⟩ := h
    refine ⟨dd, el, de, xs, ys, h1, h2, h3, h4, h5, ?_, ?_, h8, h9, ?_⟩
    · rw [St.put_hh]; exact rowOf_new hi h6
    · rw [St.put_hh]; exact rowOf_new hi h7
    · split at h10
      · have key := hm ((st.new id (Ent.row de.size ys)).put dst (AV.ref id de.size 0 ys.length)) (fun t ht => St.put_t (s := st.new id (Ent.row de.size ys)) ht) h10
        have e3 : ((((st.new i e).put d v).new id (Ent.row de.size ys)).put dst (AV.ref id de.size 0 ys.length)) = ((((st.new id (Ent.row de.size ys)).put dst (AV.ref id de.size 0 ys.length)).new i e).put d v) := by
          rw [St.new_put, St.put_comm hd, St.new_put]
          congr 2
          simp only [St.new]
          congr 1
          exact upd_swap hne
        rw [e3]; exact key
      · rename_i r sz0 off len _
        intro s' ws hs
        rw [St.put_hh] at hs
        have hs1 : upd st.h i (some e) r = some (.row s' ws) := hs
        have hr : st.h r ≠ none := by
          intro hr
          have hs2 : st.ev s = .ref r sz0 off len := by assumption
          rw [hs2] at h6
          simp [rowOf, hr] at h6
        have hri : r ≠ i := fun er => hr (er ▸ hi)
        rw [upd_ne _ _ _ _ hri] at hs1
        have h12 := h10 s' ws hs1
        have key := hm _ (fun t ht => St.put_t (s := ({ st with h := upd st.h r none } : St).new id _) ht) h12
        rw [St.put_hh, St.put_wh, St.new_put, St.put_comm hd]
        have e3 : ∀ (E : Ent) (u : AV), (({ st.new i e with h := upd (st.new i e).h r none } : St).new id E).put dst u = ((({ st with h := upd st.h r none } : St).new id E).put dst u).new i e := by
          intro E u
          rw [St.new_put]
          congr 1
          simp only [St.new]
          congr 1
          rw [upd_swap (i := i) (j := r) hri, upd_swap hne]
        rw [e3]; exact key
      · exact h10.elim
  · exact h.elim
end
end Go.AE
end

section
/- Abstract machine: pulling an operation ahead in a region that draws its order. -/
namespace Go.AE
section
variable {C : Ctx} {st st' : St} {K K' : St → Prop} {o : Oper} {i n0 : Nat} {gd : Nat → Option Tmp}

theorem rds_op {t : Tmp} (h : rdsT gd o t = false) : ∀ x ∈ o.op.operands, x ≠ .tmp t := by
  intro x hx he
  subst he
  simp only [rdsT, Bool.or_eq_false_iff, List.any_eq_false] at h
  have := h.1 (.tmp t) (by simpa using hx)
  simp at this
theorem rds_gd {t : Tmp} (h : rdsT gd o t = false) {j : Nat} {want : Bool} (hg : o.guard = some (j, want)) : gd j ≠ some t := by
  simp only [rdsT, Bool.or_eq_false_iff, hg] at h
  simpa using h.2

structure AgrG (gd : Nat → Option Tmp) (o : Oper) (s s' : St) : Prop where
  ops : Agr o.op.operands s s'
  on : gOn gd o s'.t = gOn gd o s.t

theorem gOn_eq {t t' : Nat → AV} (h : ∀ j want d, o.guard = some (j, want) → gd j = some d → t' d = t d) : gOn gd o t' = gOn gd o t := by
  unfold gOn
  cases hg : o.guard with
  | none => rfl
  | some p =>
    obtain ⟨j, want⟩ := p
    simp only
    cases hd : gd j with
    | none => rfl
    | some d => simp only; rw [h j want d hg hd]

theorem AgrG.of {s s' : St} (d : Option Tmp) (hr : ∀ t, d = some t → rdsT gd o t = false) (ht : ∀ t, d ≠ some t → s'.t t = s.t t) : AgrG gd o s s' where
  ops x hx := by
    cases x with
    | tmp t =>
      refine ht t fun he => ?_
      exact rds_op (hr t he) _ hx rfl
    | _ => rfl
  on := gOn_eq fun j want u hg hu => ht u fun he => rds_gd (hr u he) hg hu
theorem AgrG.put {s : St} {d : Option Tmp} {v : AV} (hr : ∀ t, d = some t → rdsT gd o t = false) : AgrG gd o s (s.put d v) := .of d hr fun t ht => St.put_t ht
theorem AgrG.symm {s s' : St} (h : AgrG gd o s s') : AgrG gd o s' s := ⟨fun x hx => (h.ops x hx).symm, h.on.symm⟩
theorem AgrG.trans {s s' s2 : St} (h : AgrG gd o s s') (h2 : AgrG gd o s' s2) : AgrG gd o s s2 := ⟨fun x hx => (h2.ops x hx).trans (h.ops x hx), h2.on.trans h.on⟩
theorem AgrG.heap {s s' : St} (ht : s'.t = s.t) : AgrG gd o s s' := .of none (fun _ h => by cases h) fun t _ => by rw [ht]

theorem gA (hA : clsOp o.op = .A ∨ gOn gd o st.t = some false) (h : stepG C n0 gd i o st K) :
    ∃ v, K (st.put o.dst v) ∧ ∀ (st' : St) (K' : St → Prop), AgrG gd o st st' → K' (st'.put o.dst v) → stepG C n0 gd i o st' K' := by
  rcases h with ⟨h1, h2⟩ | ⟨h1, h2⟩
  · rcases hA with hA | hA
    · obtain ⟨v, h3, h4⟩ := pA hA h2
      exact ⟨v, h3, fun st' K' ha hk => .inl ⟨by rw [ha.on]; exact h1, h4 _ st' K' ha.ops hk⟩⟩
    · rw [h1] at hA; cases hA
  · exact ⟨_, h2, fun st' K' ha hk => .inr ⟨by rw [ha.on]; exact h1, hk⟩⟩

theorem gL {t : TypeId} {a : Operand} (ho : o.op = .load t a) (h : stepG C n0 gd i o st K) :
    ∃ v, K (st.put o.dst v) ∧ ∀ (st' : St) (K' : St → Prop), AgrG gd o st st' → keeps (st.ev a) st.h st'.h → K' (st'.put o.dst v) → stepG C n0 gd i o st' K' := by
  rcases h with ⟨h1, h2⟩ | ⟨h1, h2⟩
  · obtain ⟨v, h3, h4⟩ := pL ho h2
    exact ⟨v, h3, fun st' K' ha hk hK => .inl ⟨by rw [ha.on]; exact h1, h4 _ st' K' ha.ops hk hK⟩⟩
  · exact ⟨_, h2, fun st' K' ha hk hK => .inr ⟨by rw [ha.on]; exact h1, hK⟩⟩

def pN (st : St) (id : Nat) (me : Option Ent) (d : Option Tmp) (v : AV) : St :=
  match me with
  | some e => (st.new id e).put d v
  | none => st.put d v

theorem gN (hN : clsOp o.op = .N) (h : stepG C n0 gd i o st K) :
    ∃ v me, K (pN st (n0 + i) me o.dst v) ∧ (∀ (st' : St) (K' : St → Prop), AgrG gd o st st' → K' (pN st' (n0 + i) me o.dst v) → stepG C n0 gd i o st' K') := by
  rcases h with ⟨h1, h2⟩ | ⟨h1, h2⟩
  · simp only [stepD, hN] at h2
    obtain ⟨v, e, h3, h4⟩ := h2
    refine ⟨v, some e, h4, fun st' K' ha hk => .inl ⟨by rw [ha.on]; exact h1, ?_⟩⟩
    simp only [stepD, hN]
    exact ⟨v, e, by rw [newA_congr ha.ops]; exact h3, hk⟩
  · exact ⟨_, none, h2, fun st' K' ha hk => .inr ⟨by rw [ha.on]; exact h1, hk⟩⟩

theorem gE (hE : clsOp o.op = .E) {d : Option Tmp} {v : AV} (hm : ∀ s : St, (∀ t, o.dst ≠ some t → s.t t = st.t t) → K (s.put d v) → K' s)
    (hr : ∀ t, d = some t → rdsT gd o t = false) (hd : ∀ t, d = some t → o.dst ≠ some t) (h : stepG C n0 gd i o (st.put d v) K) : stepG C n0 gd i o st K' := by
  have ha : AgrG gd o st (st.put d v) := .put hr
  rcases h with ⟨h1, h2⟩ | ⟨h1, h2⟩
  · exact .inl ⟨by rw [← ha.on]; exact h1, pE hE hm (fun t ht => rds_op (hr t ht)) hd h2⟩
  · refine .inr ⟨by rw [← ha.on]; exact h1, hm _ (fun t ht => St.put_t ht) ?_⟩
    rw [St.put_comm hd] at h2; exact h2

theorem gEnew (hc : isCall o = true) {d : Option Tmp} {v : AV} {id : Nat} {e : Ent} (hm : ∀ s0 : St, (∀ t, o.dst ≠ some t → s0.t t = st.t t) → K s0 → K' ((s0.new id e).put d v)) (hne : n0 + i ≠ id) (hi : st.h id = none)
    (hr : ∀ t, d = some t → rdsT gd o t = false) (hd : ∀ t, d = some t → o.dst ≠ some t) (h : stepG C n0 gd i o st K) : stepG C n0 gd i o ((st.new id e).put d v) K' := by
  have ha : AgrG gd o st ((st.new id e).put d v) := .of d hr fun t ht => St.put_t (s := st.new id e) ht
  rcases h with ⟨h1, h2⟩ | ⟨h1, h2⟩
  · refine .inl ⟨by rw [ha.on]; exact h1, ?_⟩
    obtain ⟨dst, op, ty, pos, after, guard⟩ := o
    unfold isCall at hc
    split at hc
    · rename_i c hop
      split at hc
      · rename_i f hf
        obtain ⟨callee, args, ats⟩ := c
        simp only at hop hf; subst hf
        exact pEnew hop hm hi (fun t ht => rds_op (hr t ht)) hd h2
      · rename_i hf
        obtain ⟨callee, args, ats⟩ := c
        simp only at hop hf; subst hf
        exact pEapp hop hne hm hi (fun t ht => rds_op (hr t ht)) hd h2
      · cases hc
    · cases hc
  · refine .inr ⟨by rw [ha.on]; exact h1, ?_⟩
    have := hm _ (fun t ht => St.put_t ht) h2
    rw [St.put_comm hd, show ((st.new id e).put o.dst (.tup [])) = (st.put o.dst (.tup [])).new id e from by cases o.dst <;> rfl]; exact this

theorem stepG_mono (hx : clsOp o.op ≠ .X) (hm : ∀ s, K s → K' s) (h : stepG C n0 gd i o st K) : stepG C n0 gd i o st K' := by
  cases hc : clsOp o.op with
  | A =>
    obtain ⟨v, h1, h2⟩ := gA (.inl hc) h
    exact h2 st K' (.heap rfl) (hm _ h1)
  | L =>
    obtain ⟨dst, op, ty, pos, after, guard⟩ := o
    cases op <;> try (simp [clsOp] at hc; done)
    · obtain ⟨v, h1, h2⟩ := gL rfl h
      exact h2 st K' (.heap rfl) (fun _ _ => rfl) (hm _ h1)
    · simp only [clsOp] at hc; split at hc <;> cases hc
  | N =>
    obtain ⟨v, me, h1, h2⟩ := gN hc h
    exact h2 st K' (.heap rfl) (hm _ h1)
  | E => exact gE (d := none) (v := .dead) hc (fun s _ hk => hm s hk) (fun t h => by cases h) (fun t h => by cases h) h
  | X => exact absurd hc hx
end
end Go.AE
end

section
/- Abstract machine: pulling an operation over others. -/
namespace Go.AE
section
variable {C : Ctx} {n0 : Nat} {gd : Nat → Option Tmp}

theorem apart_spec {x y : Oper} (h : apartD gd x y = true) :
    (∀ t, x.dst = some t → rdsT gd y t = false) ∧ (∀ t, x.dst = some t → y.dst ≠ some t) ∧ (∀ t, y.dst = some t → rdsT gd x t = false) := by
  unfold apartD at h
  simp only [Bool.and_eq_true] at h
  obtain ⟨h1, h2⟩ := h
  refine ⟨fun t ht => ?_, fun t ht => ?_, fun t ht => ?_⟩
  · rw [ht] at h1; simp at h1; exact h1.1
  · rw [ht] at h1; simp [wrT] at h1; exact h1.2
  · rw [ht] at h2; simpa using h2

structure Head (gd : Nat → Option Tmp) (j : It) (rest : List It) : Prop where
  cx : clsOp j.o.op ≠ .X
  pr : ∀ p ∈ predsO j.o, p < j.i
  as0 : clsOp j.o.op ≠ .E → j.as = []
  ns0 : clsOp j.o.op ≠ .E → clsOp j.o.op ≠ .L → j.ns = []
  addr : ∀ t a, j.o.op = .load t a → ∃ u, a = .tmp u ∧ j.o.dst ≠ some u ∧ ∀ y ∈ rest, y.o.dst ≠ some u
  idx : ∀ y ∈ rest, y.i ≠ j.i
  ast : ∀ a ∈ j.as, ∃ u, a = .tmp u ∧ ∀ y ∈ rest, y.o.dst ≠ some u
  nst : clsOp j.o.op = .E → ∀ x ∈ rest, x.i ∈ j.ns → ∀ y ∈ rest, ∀ t, y.o.dst = some t → rdsT gd x.o t = false

theorem tmpOf_some {a : Operand} {u : Tmp} (h : tmpOf a = some u) : a = .tmp u := by
  cases a <;> simp [tmpOf] at h
  subst h; rfl

theorem Head.of {j : It} {rest : List It} (h : okHead gd j rest = true) : Head gd j rest := by
  unfold okHead at h
  simp only [Bool.and_eq_true] at h
  obtain ⟨⟨⟨⟨⟨⟨⟨h7, h8⟩, h1⟩, h2⟩, h3⟩, h4⟩, h5⟩, h6⟩ := h
  refine ⟨by simpa using h7, by simpa using h8, fun hc => ?_, fun hc hl => ?_, fun t a ho => ?_, fun y hy => ?_, fun a ha => ?_, fun hE x hx hn y hy t ht => ?_⟩
  · cases hcl : clsOp j.o.op <;> simp only [hcl] at h1 hc <;> first | exact absurd rfl hc | simpa using h1
  · cases hcl : clsOp j.o.op <;> simp only [hcl] at h2 hc hl <;> first | exact absurd rfl hc | exact absurd rfl hl | simpa using h2
  · rw [ho] at h3
    simp only at h3
    cases hu : tmpOf a with
    | none => rw [hu] at h3; cases h3
    | some u =>
      rw [hu] at h3
      simp only [wrT, Bool.and_eq_true, Bool.not_eq_true', beq_eq_false_iff_ne, List.all_eq_true] at h3
      exact ⟨u, tmpOf_some hu, h3.1, h3.2⟩
  · rw [List.all_eq_true] at h4
    simpa using h4 y hy
  · rw [List.all_eq_true] at h5
    have := h5 a ha
    cases hu : tmpOf a with
    | none => rw [hu] at this; cases this
    | some u =>
      rw [hu] at this
      simp only [wrT, Bool.not_eq_true', beq_eq_false_iff_ne, List.all_eq_true] at this
      exact ⟨u, tmpOf_some hu, this⟩
  · simp only [hE, ne_eq, not_true_eq_false, decide_false, Bool.false_or] at h6
    rw [List.all_eq_true] at h6
    have := h6 x hx
    have hc : j.ns.contains x.i = true := by simpa using hn
    simp only [hc, Bool.not_true, Bool.false_or, List.all_eq_true] at this
    have := this y hy
    rw [ht] at this
    simpa using this

theorem Head.sub {j : It} {r r' : List It} (h : Head gd j r) (hs : ∀ x ∈ r', x ∈ r) : Head gd j r' :=
  ⟨h.cx, h.pr, h.as0, h.ns0, fun t a ho => by obtain ⟨u, h1, h2, h3⟩ := h.addr t a ho; exact ⟨u, h1, h2, fun y hy => h3 y (hs y hy)⟩, fun y hy => h.idx y (hs y hy),
    fun a ha => by obtain ⟨u, h1, h2⟩ := h.ast a ha; exact ⟨u, h1, fun y hy => h2 y (hs y hy)⟩, fun hE x hx hn y hy t ht => h.nst hE x (hs x hx) hn y (hs y hy) t ht⟩

def OB (i : It) (pre : List It) (st s : St) : Prop := ∀ a ∈ i.as, (∀ x ∈ pre, ∀ t, x.o.dst = some t → a ≠ .tmp t) → keeps (st.ev a) st.h s.h

theorem ev_tmp_put {s : St} {d : Option Tmp} {v : AV} {u : Tmp} (h : d ≠ some u) : (s.put d v).ev (.tmp u) = s.ev (.tmp u) := St.put_t h
theorem clsL {o : Oper} (h : clsOp o.op = .L) : ∃ t a, o.op = .load t a := by
  obtain ⟨dst, op, ty, pos, after, guard⟩ := o
  simp only at h ⊢
  cases op <;> simp [clsOp] at h ⊢
  split at h <;> cases h

theorem pN_put {s : St} {id : Nat} {me : Option Ent} {d e : Option Tmp} {v u : AV} (h : ∀ t, d = some t → e ≠ some t) : (pN s id me d v).put e u = pN (s.put e u) id me d v := by
  cases me with
  | none => exact St.put_comm h
  | some x => simp only [pN]; rw [St.put_comm h, St.new_put]
theorem pN_t {s : St} {id : Nat} {me : Option Ent} {d : Option Tmp} {v : AV} {t : Tmp} (h : d ≠ some t) : (pN s id me d v).t t = s.t t := by
  cases me with
  | none => exact St.put_t h
  | some x => exact St.put_t (s := s.new id x) h
theorem pN_pN {s : St} {i j : Nat} {me me' : Option Ent} {d e : Option Tmp} {v u : AV} (hij : i ≠ j) (h : ∀ t, d = some t → e ≠ some t) :
    pN (pN s i me d v) j me' e u = pN (pN s j me' e u) i me d v := by
  have hup : ∀ {a b}, upd (upd s.h i a) j b = upd (upd s.h j b) i a := by
    intro a b
    funext k
    simp only [upd]
    by_cases h1 : k = j
    · subst h1; simp [Ne.symm hij]
    · by_cases h2 : k = i
      · subst h2; simp [hij]
      · simp [h1, h2]
  cases me <;> cases me' <;> simp only [pN]
  · exact St.put_comm h
  · rw [St.new_put, St.put_comm h]
  · rw [St.new_put, St.put_comm h]
  · rw [St.new_put, St.new_put, St.put_comm h]
    congr 2
    simp only [St.new, hup]

theorem AgrG.pN {o : Oper} {s : St} {id : Nat} {me : Option Ent} {d : Option Tmp} {v : AV} (hr : ∀ t, d = some t → rdsT gd o t = false) : AgrG gd o s (pN s id me d v) := .of d hr fun t ht => pN_t ht

theorem pre1_E {o : Oper} {st : St} {x : Nat} {n : Op} (hE : clsOp o.op = .E) : pre1 C n0 o st x n = (st.h (n0 + x) = none ∧ (newA C (n0 + x) st.ev n).isSome = true) := by
  obtain ⟨dst, op, ty, pos, after, guard⟩ := o
  cases op <;> simp [clsOp] at hE <;> simp [pre1]

theorem obl_stays {j i : It} {pre post : List It} {st s : St} (hj : Head gd j (pre ++ i :: post)) (hdist : ∀ x ∈ pre ++ post, x.i ≠ i.i) (ha : AgrG gd j.o st s)
    (hp : ∀ x ∈ pre ++ i :: post, x.i ∈ j.ns → pre1 C n0 j.o st x.i x.o.op)
    (hEN : clsOp j.o.op = .E → ∃ me v, s = pN st (n0 + i.i) me i.o.dst v) : ∀ x ∈ pre ++ post, x.i ∈ j.ns → pre1 C n0 j.o s x.i x.o.op := by
  intro x hx hn
  have hx' : x ∈ pre ++ i :: post := by
    rw [List.mem_append] at hx ⊢
    rcases hx with hx | hx
    · exact .inl hx
    · exact .inr (List.mem_cons_of_mem _ hx)
  have h1 := hp x hx' hn
  by_cases hE : clsOp j.o.op = .E
  · rw [pre1_E hE] at h1 ⊢
    obtain ⟨me, v, rfl⟩ := hEN hE
    refine ⟨?_, ?_⟩
    · cases me with
      | none => simp only [pN, St.put_hh]; exact h1.1
      | some e =>
        simp only [pN, St.put_hh, St.new]
        rw [upd_ne _ _ _ _ (by have := hdist x hx; omega)]; exact h1.1
    · have hag : AgrG gd x.o st (pN st (n0 + i.i) me i.o.dst v) := .pN fun t ht => hj.nst hE x hx' hn i (by simp) t ht
      rw [newA_congr hag.ops]; exact h1.2
  · by_cases hL : clsOp j.o.op = .L
    · obtain ⟨t, a, ho⟩ := clsL hL
      simp only [pre1, ho] at h1 ⊢
      rw [ha.ops a (by rw [ho]; simp [Op.operands])]; exact h1
    · rw [hj.ns0 hE hL] at hn; simp at hn

theorem swap {j i : It} {pre post : List It} {st : St} {K : St → Prop} (hj : Head gd j (pre ++ i :: post)) (hji : okPair gd j i = true) (hxa : ¬ (clsOp j.o.op = .E ∧ clsOp i.o.op = .A)) (hi0 : clsOp i.o.op ≠ .E → i.as = [])
    (hdist : ∀ x ∈ pre ++ post, x.i ≠ i.i) (hp : ∀ x ∈ pre ++ i :: post, x.i ∈ j.ns → pre1 C n0 j.o st x.i x.o.op)
    (h : stepG C n0 gd j.i j.o st fun s => (∀ a ∈ j.as, keeps (st.ev a) st.h s.h) ∧ stepG C n0 gd i.i i.o s fun s' => OB i pre s s' ∧ runD C n0 gd (pre ++ post) s' K) :
    stepG C n0 gd i.i i.o st fun s => OB i (j :: pre) st s ∧ runD C n0 gd (j :: (pre ++ post)) s K := by
  unfold okPair at hji
  simp only [Bool.and_eq_true] at hji
  obtain ⟨hap, hcl⟩ := hji
  obtain ⟨ap1, ap2, ap3⟩ := apart_spec hap
  have ap4 : ∀ t, i.o.dst = some t → j.o.dst ≠ some t := fun t ht hj' => ap2 t hj' ht
  have him : i ∈ pre ++ i :: post := by simp
  have hji' : j.i ≠ i.i := fun e => hj.idx i him e.symm
  have OBnil : ∀ {st s : St}, clsOp i.o.op ≠ .E → OB i (j :: pre) st s := fun hi a ha => by rw [hi0 hi] at ha; simp at ha
  -- j acts on temporaries alone, or is a load
  have main1 : ∀ (v : AV), (clsOp j.o.op = .E → clsOp i.o.op = .N) →
      (∀ (st' : St) (K' : St → Prop), AgrG gd j.o st st' → (∀ t a, j.o.op = .load t a → keeps (st.ev a) st.h st'.h) → K' (st'.put j.o.dst v) → stepG C n0 gd j.i j.o st' K') →
      (stepG C n0 gd i.i i.o (st.put j.o.dst v) fun s' => OB i pre (st.put j.o.dst v) s' ∧ runD C n0 gd (pre ++ post) s' K) →
      stepG C n0 gd i.i i.o st fun s => OB i (j :: pre) st s ∧ runD C n0 gd (j :: (pre ++ post)) s K := by
    intro v hEN hrb hrun
    have fin : ∀ (s : St), AgrG gd j.o st s → (clsOp j.o.op = .E → ∃ me v, s = pN st (n0 + i.i) me i.o.dst v) → (∀ t a, j.o.op = .load t a → keeps (st.ev a) st.h s.h) →
        runD C n0 gd (pre ++ post) (s.put j.o.dst v) K → runD C n0 gd (j :: (pre ++ post)) s K := by
      intro s ha he hk hr
      exact ⟨obl_stays hj hdist ha hp he, hrb s _ ha hk ⟨fun a _ p _ => by rw [St.put_hh], hr⟩⟩
    cases hc : clsOp i.o.op with
    | A =>
      obtain ⟨vi, ⟨_, hR⟩, hi⟩ := gA (.inl hc) hrun
      refine hi st _ (AgrG.put ap1).symm ⟨OBnil (by rw [hc]; decide), fin _ (.put ap3) (fun hE => ?_) (fun _ _ _ p _ => by rw [St.put_hh]) ?_⟩
      · rw [hEN hE] at hc; cases hc
      · rw [St.put_comm ap4]; exact hR
    | L =>
      obtain ⟨t, a, ho⟩ := clsL hc
      obtain ⟨vi, ⟨_, hR⟩, hi⟩ := gL ho hrun
      refine hi st _ (AgrG.put ap1).symm (fun p _ => by rw [St.put_hh]) ⟨OBnil (by rw [hc]; decide), fin _ (.put ap3) (fun hE => ?_) (fun _ _ _ p _ => by rw [St.put_hh]) ?_⟩
      · rw [hEN hE] at hc; cases hc
      · rw [St.put_comm ap4]; exact hR
    | N =>
      obtain ⟨vi, me, ⟨_, hR⟩, hi⟩ := gN hc hrun
      refine hi st _ (AgrG.put ap1).symm ⟨OBnil (by rw [hc]; decide), fin _ (.pN ap3) (fun hE => ⟨me, vi, rfl⟩) (fun t a ho p hpb => ?_) ?_⟩
      · cases me with
        | none => simp only [pN, St.put_hh]
        | some e =>
          simp only [pN, St.put_hh, St.new]
          have hL : clsOp j.o.op = .L := by rw [ho]; rfl
          rw [hL, hc] at hcl
          have hmem : i.i ∈ j.ns := by simpa using hcl
          have h1 := hp i him hmem
          simp only [pre1, ho] at h1
          exact upd_ne _ _ _ _ fun he => h1 (by rw [hpb, he])
      · rw [pN_put ap4]; exact hR
    | E =>
      refine gE hc (d := j.o.dst) (v := v) (fun s hs hK => ?_) ap1 ap2 hrun
      obtain ⟨hOB, hR⟩ := hK
      have hag : AgrG gd j.o st s := .of i.o.dst ap3 hs
      refine ⟨fun a ha hx => ?_, fin s hag (fun hE => by rw [hEN hE] at hc; cases hc) (fun t a ho => ?_) hR⟩
      · have := hOB a ha fun x hx' => hx x (List.mem_cons_of_mem _ hx')
        rw [St.put_hh, St.put_hh, St.put_ev fun t ht => hx j (by simp) t ht] at this
        exact this
      · have hL : clsOp j.o.op = .L := by rw [ho]; rfl
        rw [hL, hc] at hcl
        simp only [ho, List.any_eq_true, Bool.and_eq_true, beq_iff_eq] at hcl
        obtain ⟨b, hb, hb1, hb2⟩ := hcl
        obtain ⟨u, rfl, hu1, hu2⟩ := hj.addr t a ho
        have hbe : b = .tmp u := tmpOf_some (by rw [hb2]; rfl)
        subst hbe
        have := hOB (.tmp u) hb fun x hx t ht he => by
          cases he
          exact hu2 x (by rw [List.mem_append]; exact .inl hx) ht
        rw [St.put_hh, St.put_hh, ev_tmp_put hu1] at this
        exact this
    | X =>
      rw [hc] at hcl
      cases hcj : clsOp j.o.op <;> rw [hcj] at hcl <;> cases hcl
  by_cases hskip : gOn gd j.o st.t = some false
  · obtain ⟨v, ⟨_, h1⟩, h2⟩ := gA (.inr hskip) h
    refine main1 v (fun hE => ?_) (fun st' K' ha _ hk => h2 st' K' ha hk) h1
    rw [hE] at hcl
    cases hci : clsOp i.o.op <;> rw [hci] at hcl <;> first | rfl | (cases hcl; done) | (exact absurd ⟨hE, hci⟩ hxa)
  cases hc : clsOp j.o.op with
  | A =>
    obtain ⟨v, ⟨_, h1⟩, h2⟩ := gA (.inl hc) h
    exact main1 v (fun hE => by rw [hc] at hE; cases hE) (fun st' K' ha _ hk => h2 st' K' ha hk) h1
  | L =>
    obtain ⟨t, a, ho⟩ := clsL hc
    obtain ⟨v, ⟨_, h1⟩, h2⟩ := gL ho h
    exact main1 v (fun hE => by rw [hc] at hE; cases hE) (fun st' K' ha hk hK => h2 st' K' ha (hk t a ho) hK) h1
  | N =>
    have has : j.as = [] := hj.as0 (by rw [hc]; decide)
    obtain ⟨v, me, ⟨_, h1⟩, h2⟩ := gN hc h
    have fin : ∀ (s : St), AgrG gd j.o st s → runD C n0 gd (pre ++ post) (pN s (n0 + j.i) me j.o.dst v) K → runD C n0 gd (j :: (pre ++ post)) s K := by
      intro s ha hr
      exact ⟨obl_stays hj hdist ha hp (fun hE => by rw [hc] at hE; cases hE), h2 s _ ha ⟨fun a h => by rw [has] at h; simp at h, hr⟩⟩
    cases hci : clsOp i.o.op with
    | A =>
      obtain ⟨vi, ⟨_, hR⟩, hi⟩ := gA (.inl hci) h1
      refine hi st _ (AgrG.pN ap1).symm ⟨OBnil (by rw [hci]; decide), fin _ (.put ap3) ?_⟩
      rw [← pN_put ap2]; exact hR
    | N =>
      obtain ⟨vi, mei, ⟨_, hR⟩, hi⟩ := gN hci h1
      refine hi st _ (AgrG.pN ap1).symm ⟨OBnil (by rw [hci]; decide), fin _ (.pN ap3) ?_⟩
      rw [← pN_pN (fun e => hji' (by omega)) ap2]; exact hR
    | _ => rw [hc, hci] at hcl; cases hcl
  | E =>
    have hci : clsOp i.o.op = .N := by
      rw [hc] at hcl
      cases hci : clsOp i.o.op <;> rw [hci] at hcl <;> first | rfl | (cases hcl; done) | (exact absurd ⟨hc, hci⟩ hxa)
    rw [hc, hci] at hcl
    simp only [Bool.and_eq_true] at hcl
    obtain ⟨⟨hcall, hg⟩, hns⟩ := hcl
    have hmem : i.i ∈ j.ns := by simpa using hns
    have hg : i.o.guard = none := by simpa using hg
    have h0 := hp i him hmem
    rw [pre1_E hc] at h0
    obtain ⟨hnone, hsome⟩ := h0
    cases hnew : newA C (n0 + i.i) st.ev i.o.op with
    | none => rw [hnew] at hsome; cases hsome
    | some ve =>
      obtain ⟨vi, ei⟩ := ve
      have hon : ∀ t, gOn gd i.o t = some true := fun t => by unfold gOn; rw [hg]
      refine .inl ⟨hon _, ?_⟩
      simp only [stepD, hci]
      refine ⟨vi, ei, hnew, OBnil (by rw [hci]; decide), obl_stays hj hdist (AgrG.pN (me := some ei) ap3) hp (fun _ => ⟨some ei, vi, rfl⟩), ?_⟩
      refine gEnew hcall (d := i.o.dst) (v := vi) (fun s0 hs0 hK => ?_) (fun e => hji' (by omega)) hnone ap3 ap4 h
      obtain ⟨hk, hst⟩ := hK
      rcases hst with ⟨_, hst⟩ | ⟨hf, _⟩
      · simp only [stepD, hci] at hst
        obtain ⟨v', e', hn', _, hR⟩ := hst
        have hag : AgrG gd i.o st s0 := .of j.o.dst ap1 hs0
        rw [newA_congr hag.ops, hnew] at hn'
        cases hn'
        refine ⟨fun a ha p hpb => ?_, hR⟩
        obtain ⟨u, rfl, hu⟩ := hj.ast a ha
        have hne := hu i him
        rw [St.put_hh, St.put_hh]
        have hb : base (st.ev (.tmp u)) = some p := by rw [← hpb]; exact congrArg base (ev_tmp_put (s := st.new (n0 + i.i) ei) hne).symm
        have := hk (.tmp u) ha p hb
        simp only [St.new, upd]
        rw [this]
      · rw [hon] at hf; cases hf
  | X => rw [hc] at hcl; cases hci : clsOp i.o.op <;> rw [hci] at hcl <;> cases hcl

theorem pull {i : It} {post : List It} {K : St → Prop} (hi0 : clsOp i.o.op ≠ .E → i.as = []) (hx : clsOp i.o.op ≠ .X) : ∀ (pre : List It) (st : St),
    (∀ a b j, pre = a ++ j :: b → Head gd j (b ++ i :: post) ∧ okPair gd j i = true ∧ clsOp j.o.op ≠ .X) → (∀ j ∈ pre, ¬ (clsOp j.o.op = .E ∧ clsOp i.o.op = .A)) → (∀ x ∈ pre ++ post, x.i ≠ i.i) →
    runD C n0 gd (pre ++ i :: post) st K → stepG C n0 gd i.i i.o st fun s => OB i pre st s ∧ runD C n0 gd (pre ++ post) s K := by
  intro pre
  induction pre with
  | nil =>
    intro st _ _ _ h
    obtain ⟨h1, h2⟩ := h
    exact stepG_mono hx (fun s hs => ⟨fun a ha _ => hs.1 a ha, hs.2⟩) h2
  | cons j pre ih =>
    intro st hok hna hdist h
    obtain ⟨h1, h2⟩ := h
    obtain ⟨hj, hp, hjx⟩ := hok [] pre j rfl
    refine swap hj hp (hna j (by simp)) hi0 (fun x hx => hdist x (List.mem_cons_of_mem _ hx)) h1 (stepG_mono hjx (fun s hs => ⟨hs.1, ih s (fun a b k hab => hok (j :: a) b k (by rw [hab]; rfl)) (fun k hk => hna k (List.mem_cons_of_mem _ hk)) (fun x hx => hdist x (List.mem_cons_of_mem _ hx)) hs.2⟩) h2)
theorem AgrG.refl {o : Oper} {s : St} : AgrG gd o s s := ⟨fun _ _ => rfl, rfl⟩
theorem stepG_tmp {o : Oper} {i : Nat} {st : St} {K : St → Prop} (hx : clsOp o.op ≠ .X) (h : stepG C n0 gd i o st K) : stepG C n0 gd i o st fun s => K s ∧ ∀ t, o.dst ≠ some t → s.t t = st.t t := by
  cases hc : clsOp o.op with
  | A => obtain ⟨v, h1, h2⟩ := gA (.inl hc) h; exact h2 st _ .refl ⟨h1, fun t ht => St.put_t ht⟩
  | L => obtain ⟨t, a, ho⟩ := clsL hc; obtain ⟨v, h1, h2⟩ := gL ho h; exact h2 st _ .refl (fun p _ => rfl) ⟨h1, fun t ht => St.put_t ht⟩
  | N => obtain ⟨v, me, h1, h2⟩ := gN hc h; exact h2 st _ .refl ⟨h1, fun t ht => pN_t ht⟩
  | E => exact gE hc (d := none) (v := .dead) (fun s hs hK => ⟨hK, hs⟩) (fun t ht => by cases ht) (fun t ht => by cases ht) h
  | X => exact absurd hc hx
theorem bA {o : Oper} {i : Nat} (hp : plainA o = true) {s0 : St} {K0 : St → Prop} (h : stepG C n0 gd i o s0 K0) :
    ∃ v, ∀ s, AgrG gd o s0 s → ∀ K' : St → Prop, stepG C n0 gd i o s K' ↔ K' (s.put o.dst v) := by
  obtain ⟨dst, op, ty, pos, after, guard⟩ := o
  simp only [plainA, Bool.and_eq_true, Option.isNone_iff_eq_none] at hp
  obtain ⟨hg, hp⟩ := hp
  subst hg
  have hon : ∀ t, gOn gd ⟨dst, op, ty, pos, after, none⟩ t = some true := fun t => rfl
  have hst : ∀ (s : St) (K : St → Prop), stepG C n0 gd i ⟨dst, op, ty, pos, after, none⟩ s K ↔ stepD C (n0 + i) ⟨dst, op, ty, pos, after, none⟩ s K := fun s K => by
    unfold stepG
    rw [hon]
    simp
  cases op <;> simp only [Bool.false_eq_true] at hp
  case move x =>
    refine ⟨s0.ev x, fun s ha K' => ?_⟩
    rw [hst, ← ha.ops x (by simp [Op.operands])]
    simp [stepD, clsOp, asLen, stepA]
  case assign x =>
    refine ⟨s0.ev x, fun s ha K' => ?_⟩
    rw [hst, ← ha.ops x (by simp [Op.operands])]
    simp [stepD, clsOp, asLen, stepA]
  case build t parts =>
    rw [hst] at h
    simp only [stepD, clsOp, asLen, stepA] at h
    obtain ⟨d, cs, h1, h2, h3, h4, h5⟩ := h
    refine ⟨.agg cs, fun s ha K' => ?_⟩
    rw [hst]
    simp only [stepD, clsOp, asLen, stepA]
    have e1 : (parts.toList.all fun p => (s.ev p.2).known) = true := by
      rw [List.all_eq_true] at h3 ⊢
      intro p hp
      rw [ha.ops p.2 (by simp only [Op.operands, List.mem_toArray]; exact List.mem_map.2 ⟨p, hp, rfl⟩)]; exact h3 p hp
    have e2 : (parts.toList.map fun x : Nat × Operand => match x with | (i, x) => (i, s.ev x)) = parts.toList.map fun x : Nat × Operand => match x with | (i, x) => (i, s0.ev x) := agr_parts ha.ops
    constructor
    · rintro ⟨d', cs', g1, g2, g3, g4, g5⟩
      rw [h1] at g1; cases g1
      rw [e2, h4] at g4; cases g4
      exact g5
    · intro hk
      exact ⟨d, cs, h1, h2, e1, by rw [e2]; exact h4, hk⟩
theorem pullA {i : It} {post : List It} {K : St → Prop} {st0 : St} {v : AV} (hv : ∀ s, AgrG gd i.o st0 s → ∀ K' : St → Prop, stepG C n0 gd i.i i.o s K' ↔ K' (s.put i.o.dst v)) : ∀ (pre : List It) (st : St), AgrG gd i.o st0 st →
    (∀ a b j, pre = a ++ j :: b → Head gd j (b ++ i :: post) ∧ okPair gd j i = true ∧ clsOp j.o.op ≠ .X) → (∀ x ∈ pre ++ post, x.i ≠ i.i) →
    runD C n0 gd (pre ++ i :: post) st K → runD C n0 gd (pre ++ post) (st.put i.o.dst v) K := by
  intro pre
  induction pre with
  | nil => intro st ha _ _ h; exact ((hv st ha _).1 h.2).2
  | cons j pre ih =>
    intro st ha hok hdist h
    obtain ⟨h1, h2⟩ := h
    obtain ⟨hj, hp, hjx⟩ := hok [] pre j rfl
    have hap := hp
    unfold okPair at hap
    simp only [Bool.and_eq_true] at hap
    obtain ⟨ap1, ap2, ap3⟩ := apart_spec hap.1
    have ap4 : ∀ t, i.o.dst = some t → j.o.dst ≠ some t := fun t ht hj' => ap2 t hj' ht
    have him : i ∈ pre ++ i :: post := by simp
    have IH := fun (s : St) (hs : AgrG gd i.o st0 s) => ih s hs (fun a b k hab => hok (j :: a) b k (by rw [hab]; rfl)) (fun x hx => hdist x (List.mem_cons_of_mem _ hx))
    have agj : AgrG gd j.o st (st.put i.o.dst v) := .put ap3
    refine ⟨obl_stays hj (fun x hx => hdist x (List.mem_cons_of_mem _ hx)) agj h1 (fun _ => ⟨none, v, rfl⟩), ?_⟩
    cases hc : clsOp j.o.op with
    | A =>
      obtain ⟨vj, ⟨_, hR⟩, hi⟩ := gA (.inl hc) h2
      refine hi _ _ agj ⟨fun a hm => by rw [hj.as0 (by rw [hc]; decide)] at hm; simp at hm, ?_⟩
      rw [St.put_comm ap4]
      exact IH _ (ha.trans (.put ap1)) hR
    | L =>
      obtain ⟨t, a, ho⟩ := clsL hc
      obtain ⟨vj, ⟨_, hR⟩, hi⟩ := gL ho h2
      refine hi _ _ agj (fun p _ => by rw [St.put_hh]) ⟨fun a hm => by rw [hj.as0 (by rw [hc]; decide)] at hm; simp at hm, ?_⟩
      rw [St.put_comm ap4]
      exact IH _ (ha.trans (.put ap1)) hR
    | N =>
      obtain ⟨vj, me, ⟨_, hR⟩, hi⟩ := gN hc h2
      refine hi _ _ agj ⟨fun a hm => by rw [hj.as0 (by rw [hc]; decide)] at hm; simp at hm, ?_⟩
      rw [← pN_put ap2]
      exact IH _ (ha.trans (.pN ap1)) hR
    | E =>
      have back : ∀ (s : St) (u : AV), (∀ t, i.o.dst = some t → s.t t = u) → s.put i.o.dst u = s := fun s u hu => by
        cases hd : i.o.dst with
        | none => rfl
        | some d =>
          simp only [St.put]
          congr 1
          funext k
          by_cases hk : k = d
          · subst hk; rw [upd_same]; exact (hu k hd).symm
          · rw [upd_ne _ _ _ _ hk]
      obtain ⟨old, hold⟩ : ∃ old, ∀ t, i.o.dst = some t → st.t t = old := by
        cases hd : i.o.dst with
        | none => exact ⟨.dead, fun t ht => by cases ht⟩
        | some d => exact ⟨st.t d, fun t ht => by cases ht; rfl⟩
      have e0 : (st.put i.o.dst v).put i.o.dst old = st := by
        cases hd : i.o.dst with
        | none => rfl
        | some d =>
          show ({ ({ st with t := upd st.t d v } : St) with t := upd (upd st.t d v) d old } : St) = st
          have : upd (upd st.t d v) d old = st.t := by
            funext k
            by_cases hk : k = d
            · subst hk; rw [upd_same]; exact (hold k hd).symm
            · rw [upd_ne _ _ _ _ hk, upd_ne _ _ _ _ hk]
          rw [this]
      refine gE hc (d := i.o.dst) (v := old) (fun s hs hK => ?_) ap3 ap4 (by rw [e0]; exact stepG_tmp hjx h2)
      obtain ⟨⟨hk, hR⟩, hf⟩ := hK
      have hsd : ∀ t, i.o.dst = some t → s.t t = v := fun t ht => by
        rw [hs t (ap4 t ht), ht]; exact upd_same ..
      have hR2 := IH (s.put i.o.dst old) (ha.trans (.of j.o.dst ap1 hf)) hR
      have e1 : (s.put i.o.dst old).put i.o.dst v = s := by
        cases hd : i.o.dst with
        | none => rfl
        | some d =>
          show ({ ({ s with t := upd s.t d old } : St) with t := upd (upd s.t d old) d v } : St) = s
          have : upd (upd s.t d old) d v = s.t := by
            funext k
            by_cases hk : k = d
            · subst hk; rw [upd_same]; exact (hsd k hd).symm
            · rw [upd_ne _ _ _ _ hk, upd_ne _ _ _ _ hk]
          rw [this]
      rw [e1] at hR2
      refine ⟨fun a hm p hpb => ?_, hR2⟩
      obtain ⟨u, rfl, hu⟩ := hj.ast a hm
      have := hk (.tmp u) hm p (by rw [← hpb]; exact congrArg base (ev_tmp_put (hu i him)).symm)
      rw [St.put_hh] at this ⊢
      exact this
    | X => exact absurd hc hjx
end
end Go.AE
end

section
/- Abstract machine: soundness of the operations that only read. -/
namespace Go.AE

section
variable {C : Ctx} {N : Nat} {ρ : Names} {I : Imm} {w : World} {st : St} {a : Act} {id : Nat} {K : St → Prop} {o : Oper} {Q : Exit → Act → World → Prop}

theorem run_v {a : Act} {w w' : World} {v : Value} {P : Program} {s : Sem Value} (h : s.run P w = .ok v w') :
    (do pure (Next.value (← s)) : Sem Next).run P w = .ok (.value v) w' := by simp [h]

theorem s_move (r : SRel N ρ I w st a) (hd : dstOk N o) (x : Operand) (ho : o.op = .move x ∨ o.op = .assign x) (h : K (st.put o.dst (st.ev x))) :
    o.wp C.P a w (After N st ρ I w id K) Q := by
  refine step_pure r hd ?_ (r.ev x) h
  rcases ho with ho | ho <;> simp [execOp, ho]

theorem VR.bool_inv {b v} (h : VR ρ I w (.bool b) v) : v = .bool b := by cases h; rfl
theorem VR.int_inv {k n v} (h : VR ρ I w (.int k n) v) : v = .int k n := by cases h; rfl
theorem VR.str_inv {s v} (h : VR ρ I w (.str s) v) : v = .string s := by cases h; rfl
theorem VR.nil_inv {v} (h : VR ρ I w .nil v) : v = .slice none 0 0 := by cases h; rfl

theorem s_pick (r : SRel N ρ I w st a) (hd : dstOk N o) (c x y : Operand) (ho : o.op = .pick c x y) {b : Bool} (hc : st.ev c = .bool b)
    (h : K (st.put o.dst (if b then st.ev x else st.ev y))) : o.wp C.P a w (After N st ρ I w id K) Q := by
  have h1 := r.ev c
  rw [hc] at h1
  refine step_pure (v := if b then a.eval x else a.eval y) r hd ?_ ?_ h
  · simp [execOp, ho, h1.bool_inv, asBool]
  · cases b
    · exact r.ev y
    · exact r.ev x

theorem s_nilCheck (r : SRel N ρ I w st a) (hd : dstOk N o) (x : Operand) (ho : o.op = .nilCheck x)
    (hx : match st.ev x with | .ptr .. | .ep .. | .vptr _ => True | _ => False) (h : K (st.put o.dst (st.ev x))) : o.wp C.P a w (After N st ρ I w id K) Q := by
  have h1 := r.ev x
  refine step_pure r hd ?_ h1 h
  simp only [execOp, ho]
  generalize a.eval x = u at h1 ⊢
  generalize st.ev x = v at h1 hx
  cases h1 <;> first | (simp at hx; done) | rfl

theorem binA_sound (ok : C.Ok) {op : BinOp} {x y v : AV} {xv yv : Value} {t : TypeId} (h : binA (C.eqA t x y) op x y = some v) (hx : VR ρ I w x xv) (hy : VR ρ I w y yv) (xo yo : Operand) :
    ∃ u, (do eqGuard op t xo yo xv yv; Go.binOp op t xv yv : Sem Value).run C.P w = .ok u w ∧ VR ρ I w v u := by
  unfold binA at h
  split at h
  · cases hx; cases hy
    split at h
    · rename_i k a k' b hk
      subst hk
      cases op
      case quo =>
        simp only [] at h
        split at h
        · cases h
        · rename_i hb
          cases h
          exact ⟨.int k (k.wrap (a.tdiv b)), by simp [eqGuard, Go.binOp, Op.intDiv, hb], .int _ _⟩
      case rem =>
        simp only [] at h
        split at h
        · cases h
        · rename_i hb
          cases h
          exact ⟨.int k (a.tmod b), by simp [eqGuard, Go.binOp, Op.intDiv, hb], .int _ _⟩
      case and =>
        cases h
        exact ⟨.int k (bandA k a b), by simp [eqGuard, Go.binOp, Op.intBits, bandA], .int _ _⟩
      case shr =>
        simp only [shrA] at h
        split at h
        · cases h
        · rename_i hb
          cases h
          exact ⟨_, by simp [eqGuard, Go.binOp, Op.shift, hb], .int _ _⟩
      all_goals
        first
          | (cases h; done)
          | (simp only [Option.some.injEq] at h; subst h
             refine ⟨_, by simp [eqGuard, Go.binOp, Op.intArith, Op.intCmp]; rfl, ?_⟩
             first | exact .int _ _ | exact .bool _)
    · split at h
      · rename_i k a k' b hk he
        subst he
        simp only [shrA] at h
        split at h
        · cases h
        · rename_i hb
          cases h
          exact ⟨_, by simp [eqGuard, Go.binOp, Op.shift, hb], .int _ _⟩
      · cases h
  · cases hx; cases hy
    cases op <;> first
      | (cases h; done)
      | (simp only [Option.some.injEq] at h; subst h
         exact ⟨_, rfl, .bool _⟩)
  · cases op <;> simp only [Option.map_eq_some_iff] at h <;> first
      | (cases h; done)
      | (obtain ⟨b, hb, rfl⟩ := h
         first
           | exact ⟨_, (ok.eqs t x y b hb ρ I w xv yv hx hy xo yo w).1, .bool _⟩
           | exact ⟨_, (ok.eqs t x y b hb ρ I w xv yv hx hy xo yo w).2, .bool _⟩)

theorem s_binOp (ok : C.Ok) (r : SRel N ρ I w st a) (hd : dstOk N o) (op t x y ty) (ho : o.op = .binOp op t x y ty) {v : AV}
    (hv : binA (C.eqA t (st.ev x) (st.ev y)) op (st.ev x) (st.ev y) = some v) (h : K (st.put o.dst v)) : o.wp C.P a w (After N st ρ I w id K) Q := by
  obtain ⟨u, hu, hvr⟩ := binA_sound ok hv (r.ev x) (r.ev y) x y
  refine step_pure r hd ?_ hvr h
  simp only [execOp, ho]
  exact run_v (a := a) hu

theorem s_not (r : SRel N ρ I w st a) (hd : dstOk N o) (t x) (ho : o.op = .unOp .not t x) {b : Bool} (hx : st.ev x = .bool b) (h : K (st.put o.dst (.bool !b))) :
    o.wp C.P a w (After N st ρ I w id K) Q := by
  have h1 := r.ev x
  rw [hx] at h1
  refine step_pure (v := .bool !b) r hd ?_ (.bool _) h
  simp [execOp, ho, h1.bool_inv, Op.unary]

theorem s_neg (r : SRel N ρ I w st a) (hd : dstOk N o) (t x) (ho : o.op = .unOp .neg t x) {k : IntKind} {n : Int} (hx : st.ev x = .int k n) (h : K (st.put o.dst (.int k (k.wrap (0 - n))))) :
    o.wp C.P a w (After N st ρ I w id K) Q := by
  have h1 := r.ev x
  rw [hx] at h1
  refine step_pure (v := .int k (k.wrap (0 - n))) r hd ?_ (.int _ _) h
  simp [execOp, ho, h1.int_inv, Op.unary, Op.intArith]

theorem s_convert (ok : C.Ok) (r : SRel N ρ I w st a) (hd : dstOk N o) (s t x) (ho : o.op = .convert s t x) {k0 k : IntKind} {n : Int} {d : TyD} (hx : st.ev x = .int k0 n)
    (ht : C.ty t = some d) (hk : d.ik = some k) (hs : ∃ u, C.P.underlying s = some u) (h : K (st.put o.dst (.int k (k.wrap n)))) :
    o.wp C.P a w (After N st ρ I w id K) Q := by
  have h1 := r.ev x
  rw [hx] at h1
  obtain ⟨u, hu⟩ := hs
  refine step_pure (v := .int k (k.wrap n)) r hd ?_ (.int _ _) h
  have ht' := ok.int ht hk
  cases u <;> simp [execOp, ho, h1.int_inv, Go.convert, run_underlying hu, run_underlying ht', Conv.intToInt]

theorem s_makeFunc (r : SRel N ρ I w st a) (hd : dstOk N o) (f caps) (ho : o.op = .makeFunc (.func f) #[] caps) (h : K (st.put o.dst (.fn f (caps.toList.map st.ev)))) :
    o.wp C.P a w (After N st ρ I w id K) Q := by
  refine step_pure (v := .func (.func f) #[] (caps.map a.eval)) r hd ?_ ?_ h
  · simp [execOp, ho, Instr.makeFunc]
  · refine .fn _ _ _ (by simp) fun i x u hx hu => ?_
    simp only [List.getElem?_map, Array.getElem?_toList, Option.map_eq_some_iff, Array.getElem?_map] at hx hu
    obtain ⟨y, hy, rfl⟩ := hx
    obtain ⟨z, hz, rfl⟩ := hu
    rw [hy] at hz; cases hz
    exact r.ev y

theorem s_makeBnd (r : SRel N ρ I w st a) (hd : dstOk N o) (f firsts) (ho : o.op = .makeFunc (.func f) firsts #[]) (h : K (st.put o.dst (.bnd f (firsts.toList.map st.ev)))) :
    o.wp C.P a w (After N st ρ I w id K) Q := by
  refine step_pure (v := .func (.func f) (firsts.map a.eval) #[]) r hd ?_ ?_ h
  · simp [execOp, ho, Instr.makeFunc]
  · refine .bnd _ _ _ (by simp) fun i x u hx hu => ?_
    simp only [List.getElem?_map, Array.getElem?_toList, Option.map_eq_some_iff, Array.getElem?_map] at hx hu
    obtain ⟨y, hy, rfl⟩ := hx
    obtain ⟨z, hz, rfl⟩ := hu
    rw [hy] at hz; cases hz
    exact r.ev y

theorem s_extract (r : SRel N ρ I w st a) (hd : dstOk N o) (x i) (ho : o.op = .extract x i) {vs : List AV} {v : AV} (hx : st.ev x = .tup vs) (hv : vs[i]? = some v) (h : K (st.put o.dst v)) :
    o.wp C.P a w (After N st ρ I w id K) Q := by
  have h1 := r.ev x
  rw [hx] at h1
  generalize hu : a.eval x = u at h1
  cases h1 with
  | tup cells us hs hc =>
    have hi : i < us.size := by rw [hs]; exact (List.getElem?_eq_some_iff.1 hv).1
    refine step_pure (v := us[i]) r hd ?_ (hc i v _ hv (Array.getElem?_eq_getElem hi)) h
    simp [execOp, ho, hu, Instr.extract, hi]

theorem s_min (r : SRel N ρ I w st a) (hd : dstOk N o) (x y ats) (ho : o.op = .call { callee := .builtin .min, args := #[x, y], argTypes := ats }) {k k' : IntKind} {m n : Int} (hx : st.ev x = .int k m) (hy : st.ev y = .int k' n)
    (h : K (st.put o.dst (.int k (if n < m then n else m)))) : o.wp C.P a w (After N st ρ I w id K) Q := by
  have h1 := r.ev x
  have h2 := r.ev y
  rw [hx] at h1
  rw [hy] at h2
  refine step_pure (v := .int k (if n < m then n else m)) r hd ?_ (.int _ _) h
  simp [execOp, ho, resolve, invoke, builtin, h1.int_inv, h2.int_inv, run_min_int2]

theorem s_len (ok : C.Ok) (r : SRel N ρ I w st a) (hd : dstOk N o) (x t) (ho : o.op = .call { callee := .builtin .len, args := #[x], argTypes := #[t] }) {d : TyD} {n : Nat} {b : Bool}
    (ht : C.ty t = some d) (hl : lenA (st.ev x) = some (n, b)) (hb : if b then d.elem.isSome = true else d.isStr = true) (h : (b = true → n ≤ LIM) → K (st.put o.dst (.int .i64 n))) :
    o.wp C.P a w (After N st ρ I w id K) Q := by
  have h1 := r.ev x
  have key : (b = true → n ≤ LIM) ∧ (execOp a.eval o).run C.P w = .ok (.value (.int .i64 n)) w := by
    generalize hu : a.eval x = u at h1
    generalize st.ev x = v at h1 hl
    have hrun : ∀ u, a.eval x = u → (Builtin.len_ #[t] o.type #[u]).run C.P w = .ok (.int .i64 n) w → (execOp a.eval o).run C.P w = .ok (.value (.int .i64 n)) w := by
      intro u hu hr
      simp [execOp, ho, resolve, invoke, builtin, hu, hr]
    cases b with
    | true =>
      simp at hb
      obtain ⟨e, he⟩ := Option.isSome_iff_exists.1 hb
      have hs := ok.slice ht he
      cases h1 <;> simp [lenA] at hl <;> subst hl
      case nil => exact ⟨fun _ => by simp [LIM], hrun _ hu (by simp [Builtin.len_, run_underlying hs, goInt])⟩
      case viewNil => exact ⟨fun _ => by simp [LIM], hrun _ hu (by simp [Builtin.len_, run_underlying hs, goInt])⟩
      case view => exact ⟨fun _ => by assumption, hrun _ hu (by simp [Builtin.len_, run_underlying hs, goInt])⟩
      case ref0 => exact ⟨fun _ => by simp [LIM], hrun _ hu (by simp [Builtin.len_, run_underlying hs, goInt])⟩
      case ref => exact ⟨fun _ => by assumption, hrun _ hu (by simp [Builtin.len_, run_underlying hs, goInt])⟩
    | false =>
      simp at hb
      have hs := ok.str ht hb
      cases h1 <;> simp [lenA] at hl <;> subst hl
      exact ⟨(fun h => by cases h), hrun _ hu (by simp [Builtin.len_, run_underlying hs, goInt])⟩
  exact step_pure r hd key.2 (.int _ _) (h key.1)

end
end Go.AE
end

section
/- Abstract machine: soundness of loads, addresses, slices. -/
namespace Go.AE

section
variable {C : Ctx} {N : Nat} {ρ : Names} {I : Imm} {w : World} {st : St} {a : Act} {id : Nat} {K : St → Prop} {o : Oper} {Q : Exit → Act → World → Prop}

theorem load_run (ok : C.Ok) {t d} (ht : C.ty t = some d) {cells : List AV} {b off o : Nat} {v : AV}
    (hex : ∀ (i : Nat) x, cells[i]? = some x → ∃ u, w.cell? ⟨b, o + i, none⟩ = some u)
    (hvr : ∀ (i : Nat) x u, cells[i]? = some x → w.cell? ⟨b, o + i, none⟩ = some u → VR ρ I w x u)
    (hl : loadA d cells off = some v) : ∃ u, (loadVar t ⟨b, o + off, none⟩).run C.P w = .ok u w ∧ VR ρ I w v u := by
  unfold loadA at hl
  by_cases ha : d.agg = true
  · rw [if_pos ha] at hl
    split at hl
    · rename_i hle
      cases hl
      obtain ⟨i, u0, z, F⟩ := ok.facts ht
      have hj : ∀ j, j < d.size → ∃ x u, cells[off + j]? = some x ∧ w.cell? ⟨b, o + (off + j), none⟩ = some u ∧ VR ρ I w x u := by
        intro j hj
        have h1 : off + j < cells.length := by omega
        obtain ⟨u, hu⟩ := hex _ _ (List.getElem?_eq_getElem h1)
        exact ⟨_, u, List.getElem?_eq_getElem h1, hu, hvr _ _ u (List.getElem?_eq_getElem h1) hu⟩
      have hrun := run_loadCells (P := C.P) w ⟨b, o + off, none⟩ d.size (fun j => (w.cell? ⟨b, o + (off + j), none⟩).getD undef) (fun j hj' => by
        obtain ⟨x, u, h1, h2, h3⟩ := hj j hj'
        rw [Addr.add_lit, Nat.add_assoc, h2]; rfl)
      refine ⟨.agg ((List.range d.size).map fun j => (w.cell? ⟨b, o + (off + j), none⟩).getD undef).toArray, ?_, .agg _ _ (by simp; omega) fun i x u hx hu => ?_⟩
      · simp [loadVar, ok.isAggT ht ha, run_sizeOf' F.info, F.size, hrun]
      · have hi : i < d.size := by
          have := (List.getElem?_eq_some_iff.1 hx).1
          simp at this; omega
        obtain ⟨x', u', h1, h2, h3⟩ := hj i hi
        have hx' : x = x' := by
          rw [List.getElem?_take] at hx
          simp only [hi, if_true, List.getElem?_drop, h1] at hx
          cases hx; rfl
        have hu' : u = u' := by
          simp [hi, h2] at hu
          exact hu.symm
        rw [hx', hu']; exact h3
    · cases hl
  · rw [if_neg ha] at hl
    obtain ⟨u, hu⟩ := hex off v hl
    refine ⟨u, ?_, hvr off v u hl hu⟩
    have ha' : d.agg = false := by simpa using ha
    simp [loadVar, ok.notAgg ht ha', hu]

theorem objR_cells {id cells} (h : ObjR ρ I w id cells) {B b} (hB : ρ id = some B) (hb : B.blk = some b) :
    (∀ (i : Nat) x, cells[i]? = some x → ∃ u, w.cell? ⟨b, 0 + i, none⟩ = some u) ∧
    (∀ (i : Nat) x u, cells[i]? = some x → w.cell? ⟨b, 0 + i, none⟩ = some u → VR ρ I w x u) := by
  obtain ⟨B', b', cur, ty, h1, h2, h3, h4, h5⟩ := h
  rw [hB] at h1; cases h1
  rw [hb] at h2; cases h2
  refine ⟨fun i x hx => ?_, fun i x u hx hu => ?_⟩
  · rw [cell_of_row w b _ cur ty _ h3, Nat.zero_add]
    have : i < cur.size := by rw [h4]; exact (List.getElem?_eq_some_iff.1 hx).1
    exact ⟨_, Array.getElem?_eq_getElem this⟩
  · rw [cell_of_row w b _ cur ty _ h3, Nat.zero_add] at hu
    exact h5 i x u hx hu

theorem rowR_cells {id sz xs} (h : RowR ρ I w id sz xs) {B b} (hB : ρ id = some B) (hb : B.blk = some b) {idx : Nat} {cells : List AV} (hc : xs[idx]? = some cells) :
    (∀ (i : Nat) x, cells[i]? = some x → ∃ u, w.cell? ⟨b, B.off + idx * B.sz + i, none⟩ = some u) ∧
    (∀ (i : Nat) x u, cells[i]? = some x → w.cell? ⟨b, B.off + idx * B.sz + i, none⟩ = some u → VR ρ I w x u) := by
  obtain ⟨B', h1, h2, h3, h4, h5, h6⟩ := h
  rw [hB] at h1; cases h1
  rcases h6 with ⟨h6, _⟩ | ⟨b', cur, ty, g1, g2, g3, g4, g5, g6⟩
  · rw [hb] at h6; cases h6
  · rw [hb] at g1; cases g1
    subst h2
    have hlen := h5 idx cells hc
    have hidx : idx < xs.length := (List.getElem?_eq_some_iff.1 hc).1
    refine ⟨fun i x hx => ?_, fun i x u hx hu => ?_⟩
    · rw [cell_of_row w b _ cur ty _ g2]
      have hi : i < B.sz := by rw [← hlen]; exact (List.getElem?_eq_some_iff.1 hx).1
      have h1 : idx + 1 ≤ B.cap := by omega
      have h2 := Nat.mul_le_mul_right B.sz h1
      rw [Nat.add_mul, Nat.one_mul] at h2
      have : B.off + idx * B.sz + i < cur.size := by omega
      exact ⟨_, Array.getElem?_eq_getElem this⟩
    · rw [cell_of_row w b _ cur ty _ g2] at hu
      exact g6 idx i x u (by simp [get2, hc, hx]) hu

theorem s_load_ptr (ok : C.Ok) (r : SRel N ρ I w st a) (hd : dstOk N o) (t x) (ho : o.op = .load t x) {p off : Nat} {d : TyD} {cells : List AV} {v : AV} (hx : st.ev x = .ptr p off)
    (ht : C.ty t = some d) (hp : st.h p = some (.obj cells)) (hl : loadA d cells off = some v) (h : K (st.put o.dst v)) : o.wp C.P a w (After N st ρ I w id K) Q := by
  have h1 := r.ev x
  rw [hx] at h1
  generalize hu : a.eval x = u at h1
  cases h1 with
  | ptr _ _ b B hB hb =>
    obtain ⟨c1, c2⟩ := objR_cells (r.hp.obj p cells hp) hB hb
    obtain ⟨v', hrun, hvr⟩ := load_run ok ht c1 c2 hl
    rw [Nat.zero_add] at hrun
    refine step_pure r hd ?_ hvr h
    simp [execOp, ho, hu, Instr.loadAt, Instr.sureAddr, hrun]

theorem s_load_ep (ok : C.Ok) (r : SRel N ρ I w st a) (hd : dstOk N o) (t x) (ho : o.op = .load t x) {p idx off sz : Nat} {d : TyD} {xs : List (List AV)} (hx : st.ev x = .ep p idx off)
    (ht : C.ty t = some d) (hp : st.h p = some (.row sz xs)) (hlt : idx < xs.length) (h : ∀ cells, xs[idx]? = some cells → ∃ v, loadA d cells off = some v ∧ K (st.put o.dst v)) :
    o.wp C.P a w (After N st ρ I w id K) Q := by
  have h1 := r.ev x
  rw [hx] at h1
  generalize hu : a.eval x = u at h1
  cases h1 with
  | ep _ _ _ b B hB hb =>
    have hc := List.getElem?_eq_getElem hlt
    obtain ⟨v, hl, hK⟩ := h _ hc
    obtain ⟨c1, c2⟩ := rowR_cells (r.hp.row p sz xs hp) hB hb hc
    obtain ⟨v', hrun, hvr⟩ := load_run ok ht c1 c2 hl
    refine step_pure r hd ?_ hvr hK
    simp [execOp, ho, hu, Instr.loadAt, Instr.sureAddr, hrun]

theorem s_load_vptr (ok : C.Ok) (r : SRel N ρ I w st a) (hd : dstOk N o) (t x) (ho : o.op = .load t x) {d : TyD} {cells : List AV} {v : AV} (hx : st.ev x = .vptr cells)
    (ht : C.ty t = some d) (hl : loadA d cells 0 = some v) (h : K (st.put o.dst v)) : o.wp C.P a w (After N st ρ I w id K) Q := by
  have h1 := r.ev x
  rw [hx] at h1
  generalize hu : a.eval x = u at h1
  cases h1 with
  | vptr _ p b off hp c1 c2 =>
    obtain ⟨v', hrun, hvr⟩ := load_run ok ht c1 c2 hl
    refine step_pure r hd ?_ hvr h
    rw [Nat.add_zero] at hrun
    simp [execOp, ho, hu, Instr.loadAt, Instr.sureAddr, hrun]

theorem fields_at (ok : C.Ok) {s : TypeId} {d : TyD} (hs : C.ty s = some d) (ha : d.agg = true) {f off sz : Nat} {ft : TypeId} (hf : d.fields[f]? = some (off, sz, ft)) :
    ∃ (fs : Array Field) (g : Field) (i : TypeInfo), C.P.underlying s = some (.struct fs) ∧ fs[f]? = some g ∧ g.offset = off ∧ g.type = ft ∧ C.P.info? ft = some i ∧ i.size = sz := by
  obtain ⟨fs, h1, h2, h3⟩ := ok.agg hs ha
  have h4 := h3 _ (List.mem_of_getElem? hf)
  have h5 : (d.fields.map fun f => (f.1, f.2.2))[f]? = some (off, ft) := by simp [hf]
  rw [← h2] at h5
  simp only [List.getElem?_map, Array.getElem?_toList, Option.map_eq_some_iff, Prod.mk.injEq] at h5
  obtain ⟨g, hg, hg1, hg2⟩ := h5
  simp only [Option.map_eq_some_iff] at h4
  obtain ⟨i, hi, hi2⟩ := h4
  exact ⟨fs, g, i, h1, hg, hg1, hg2, hi, hi2⟩

theorem s_fieldAddr (ok : C.Ok) (r : SRel N ρ I w st a) (hd : dstOk N o) (s x f) (ho : o.op = .fieldAddr s x f) {d off sz ft} (hs : C.ty s = some d) (ha : d.agg = true)
    (hf : d.fields[f]? = some (off, sz, ft)) (hsz : 0 < sz)
    (h : match st.ev x with
       | .ptr p o1 => K (st.put o.dst (.ptr p (o1 + off)))
       | .ep p i o1 => K (st.put o.dst (.ep p i (o1 + off)))
       | .vptr cells => K (st.put o.dst (.vptr (cells.drop off)))
       | _ => False) : o.wp C.P a w (After N st ρ I w id K) Q := by
  obtain ⟨fs, g, i, h1, h2, h3, h4, h5, h6⟩ := fields_at ok hs ha hf
  have hv := r.ev x
  have hrun : ∀ b o', a.eval x = .pointer (some ⟨b, o', none⟩) → (execOp a.eval o).run C.P w = .ok (.value (.pointer (some ⟨b, o' + off, none⟩))) w := by
    intro b o' hu
    have hne : i.size ≠ 0 := by omega
    simp [execOp, ho, hu, Instr.fieldAt, run_underlying h1, h2, Instr.sureAddr, fieldPlace, h4, run_sizeOf' h5, hne, h3, Addr.add_lit]
  generalize hu : a.eval x = u at hv hrun
  generalize st.ev x = v at h hv
  cases hv <;> first | exact h.elim | skip
  case ptr p o1 b B hB hb => exact step_pure r hd (hrun _ _ rfl) (.ptr p (o1 + off) b B hB hb) h
  case ep p idx o1 b B hB hb => exact step_pure r hd (hrun _ _ rfl) (by rw [Nat.add_assoc]; exact .ep p idx (o1 + off) b B hB hb) h
  case vptr cells p b o' hp c1 c2 =>
    refine step_pure r hd (hrun _ _ rfl) (.vptr _ p b (o' + off) hp (fun i x hx => ?_) (fun i x u hx hu => ?_)) h
    · rw [List.getElem?_drop] at hx
      rw [Nat.add_assoc]; exact c1 _ x hx
    · rw [List.getElem?_drop] at hx
      rw [Nat.add_assoc] at hu
      exact c2 _ x u hx hu

theorem s_field (ok : C.Ok) (r : SRel N ρ I w st a) (hd : dstOk N o) (t x f) (ho : o.op = .field t x f) {d off sz ft dt v cells} (hs : C.ty t = some d) (ha : d.agg = true)
    (hf : d.fields[f]? = some (off, sz, ft)) (hft : C.ty ft = some dt) (hx : st.ev x = .agg cells) (hl : loadA dt cells off = some v) (h : K (st.put o.dst v)) :
    o.wp C.P a w (After N st ρ I w id K) Q := by
  obtain ⟨fs, g, i, h1, h2, h3, h4, h5, h6⟩ := fields_at ok hs ha hf
  have hv := r.ev x
  rw [hx] at hv
  generalize hu : a.eval x = u at hv
  cases hv with
  | agg _ vs hsz hc =>
    unfold loadA at hl
    by_cases hag : dt.agg = true
    · rw [if_pos hag] at hl
      split at hl
      · rename_i hle
        cases hl
        obtain ⟨i', u0, z, F⟩ := ok.facts hft
        refine step_pure (v := .agg (vs.extract off (off + dt.size))) r hd ?_ (.agg _ _ (by simp; omega) fun j x u hx hu => ?_) h
        · simp [execOp, ho, hu, Instr.field, run_underlying h1, h2, asAgg, part, h4, ok.isAggT hft hag, h3, run_sizeOf' F.info, F.size]
        · have hj : j < dt.size := by have := (List.getElem?_eq_some_iff.1 hx).1; simp at this; omega
          rw [List.getElem?_take] at hx
          simp only [hj, if_true, List.getElem?_drop] at hx
          have hu' : vs[off + j]? = some u := by
            have hlt : off + j < vs.size := by omega
            have : j < (vs.extract off (off + dt.size)).size := by simp; omega
            rw [Array.getElem?_eq_getElem this] at hu
            simp at hu
            rw [Array.getElem?_eq_getElem hlt, hu]
          exact hc _ x u hx hu'
      · cases hl
    · rw [if_neg hag] at hl
      have hlt : off < vs.size := by rw [hsz]; exact (List.getElem?_eq_some_iff.1 hl).1
      have ha' : dt.agg = false := by simpa using hag
      refine step_pure (v := vs[off]) r hd ?_ (hc off v _ hl (Array.getElem?_eq_getElem hlt)) h
      simp [execOp, ho, hu, Instr.field, run_underlying h1, h2, asAgg, part, h4, ok.notAgg hft ha', h3, hlt]

end
end Go.AE
namespace Go.AE
section
variable {C : Ctx} {N : Nat} {ρ : Names} {I : Imm} {w : World} {st : St} {a : Act} {id : Nat} {K : St → Prop} {o : Oper} {Q : Exit → Act → World → Prop}

theorem get2_some {xs : List (List AV)} {i j x} (h : get2 xs i j = some x) : ∃ cells, xs[i]? = some cells ∧ cells[j]? = some x := by
  unfold get2 at h
  cases hc : xs[i]? with
  | none => simp [hc] at h
  | some cells => exact ⟨cells, rfl, by simpa [hc] using h⟩

theorem get2_drop_take {xs : List (List AV)} {l n i j x} (h : get2 ((xs.drop l).take n) i j = some x) : get2 xs (l + i) j = some x ∧ i < n := by
  obtain ⟨cells, h1, h2⟩ := get2_some h
  rw [List.getElem?_take] at h1
  split at h1
  · rw [List.getElem?_drop] at h1
    exact ⟨by simp [get2, h1, h2], by assumption⟩
  · cases h1

theorem s_indexAddr (ok : C.Ok) (r : SRel N ρ I w st a) (hd : dstOk N o) (t x i) (ho : o.op = .indexAddr t x i) {d e de k z} (ht : C.ty t = some d) (he : d.elem = some e)
    (hde : C.ty e = some de) (hi : st.ev i = .int k z)
    (h : match st.ev x with
       | .view _ sz xs => sz = de.size ∧ (0 ≤ z ∧ z < xs.length) ∧ ∀ cells, xs[z.toNat]? = some cells → K (st.put o.dst (.vptr cells))
       | .ref r s off len => s = de.size ∧ (0 ≤ z ∧ z < len) ∧ K (st.put o.dst (.ep r (off + z.toNat) 0))
       | _ => False) : o.wp C.P a w (After N st ρ I w id K) Q := by
  obtain ⟨i0, u0, z0, F⟩ := ok.facts hde
  have hsl := ok.slice ht he
  have hv := r.ev x
  have hiv := r.ev i
  rw [hi] at hiv
  have hrun : ∀ b o' len c, a.eval x = .slice (some ⟨b, o', none⟩) len c → 0 ≤ z → z < len → (execOp a.eval o).run C.P w = .ok (.value (.pointer (some ⟨b, o' + z.toNat * de.size, none⟩))) w := by
    intro b o' len c hu h0 h1
    simp [execOp, ho, hu, Instr.indexAt, hiv.int_inv, asIntOf, run_underlying hsl, h0, h1, run_sizeOf' F.info, F.size, Addr.add_lit]
  generalize hu : a.eval x = u at hv hrun
  generalize hxv : st.ev x = v at h hv
  cases hv <;> first | exact h.elim | skip
  case viewNil p sz a c => simp at h; omega
  case view p sz xs b off c hp h1 h2 h3 h4 h5 =>
    obtain ⟨rfl, ⟨h0, hlt⟩, hK⟩ := h
    have hlt' : z.toNat < xs.length := by omega
    refine step_pure r hd (hrun _ _ _ _ rfl h0 (by omega)) ?_ (hK _ (List.getElem?_eq_getElem hlt'))
    have hc := List.getElem?_eq_getElem hlt'
    exact .vptr _ p b _ hp (fun j x hx => h4 _ j x (by simp [get2, hc, hx])) (fun j x u hx hu => h5 _ j x u (by simp [get2, hc, hx]) hu)
  case ref0 id sz off a B hB hcap => simp at h; omega
  case ref id' sz off len b c B hB hb hsz hc1 hc2 hc3 =>
    obtain ⟨rfl, ⟨h0, hlt⟩, hK⟩ := h
    refine step_pure r hd (hrun _ _ _ _ rfl h0 hlt) ?_ hK
    have : B.off + off * B.sz + z.toNat * de.size = B.off + (off + z.toNat) * B.sz + 0 := by rw [hsz, Nat.add_mul]; omega
    rw [this]
    exact .ep _ _ 0 b B hB hb

theorem run_sliceBound {P : Program} {w : World} {k : IntKind} {z : Int} {y : Nat} {cd : BoundsCode} (h0 : 0 ≤ z) (h1 : z ≤ y) : (Instr.sliceBound (.int k z) y cd).run P w = .ok z.toNat w := by
  simp [Instr.sliceBound, asIntOf, h0, h1]

theorem s_slice (ok : C.Ok) (r : SRel N ρ I w st a) (hd : dstOk N o) (t x lo hi) (ho : o.op = .slice t x lo hi none) {d e de} {n l h : Nat} (ht : C.ty t = some d) (he : d.elem = some e)
    (hde : C.ty e = some de) (hn : lenA (st.ev x) = some (n, true))
    (hlo : match lo with | none => l = 0 | some v => ∃ k z, st.ev v = .int k z ∧ 0 ≤ z ∧ l = z.toNat)
    (hhi : match hi with | none => h = n | some v => ∃ k z, st.ev v = .int k z ∧ 0 ≤ z ∧ h = z.toNat) (hlh : l ≤ h) (hhn : h ≤ n)
    (hK : match st.ev x with
       | .nil => K (st.put o.dst .nil)
       | .view p sz xs => sz = de.size ∧ K (st.put o.dst (.view p sz ((xs.drop l).take (h - l))))
       | .ref r s off _ => s = de.size ∧ K (st.put o.dst (.ref r s (off + l) (h - l)))
       | _ => False) : o.wp C.P a w (After N st ρ I w id K) Q := by
  obtain ⟨i0, u0, z0, F⟩ := ok.facts hde
  have hsl := ok.slice ht he
  have hv := r.ev x
  have hrun : ∀ ad c, a.eval x = .slice ad n c → n ≤ c →
      (execOp a.eval o).run C.P w = .ok (.value (.slice (if c = l then ad else ad.map (·.add (l * de.size))) (h - l) (c - l))) w := by
    intro ad c hu hnc
    have hb : (Instr.sliceBounds true n c (lo.map a.eval) (hi.map a.eval) none).run C.P w = .ok (l, h, c) w := by
      cases hi with
      | none =>
        simp only at hhi
        cases lo with
        | none => simp only at hlo; simp [Instr.sliceBounds, hhi, hlo]
        | some v =>
          obtain ⟨k, z, hz, h0, rfl⟩ := hlo
          have := r.ev v; rw [hz] at this
          simp [Instr.sliceBounds, this.int_inv, run_sliceBound (P := C.P) (w := w) (k := k) (y := n) (cd := .sliceB) h0 (by omega), hhi]
      | some v' =>
        obtain ⟨k', z', hz', h0', rfl⟩ := hhi
        have h' := r.ev v'; rw [hz'] at h'
        cases lo with
        | none => simp only at hlo; simp [Instr.sliceBounds, h'.int_inv, run_sliceBound (P := C.P) (w := w) (k := k') (y := c) (cd := .sliceAcap) h0' (by omega), hlo]
        | some v =>
          obtain ⟨k, z, hz, h0, rfl⟩ := hlo
          have := r.ev v; rw [hz] at this
          simp [Instr.sliceBounds, h'.int_inv, this.int_inv, run_sliceBound (P := C.P) (w := w) (k := k') (y := c) (cd := .sliceAcap) h0' (by omega),
            run_sliceBound (P := C.P) (w := w) (k := k) (y := z'.toNat) (cd := .sliceB) h0 (by omega)]
    simp [execOp, ho, hu, Instr.sliceAt, Instr.slice, run_underlying hsl, hb, run_sizeOf' F.info, F.size]
  generalize hu : a.eval x = u at hv hrun
  generalize hxv : st.ev x = v at hK hv hn
  cases hv <;> first | exact hK.elim | skip
  all_goals simp only [lenA, Option.some.injEq, Prod.mk.injEq, and_true] at hn
  case nil =>
    subst hn
    have hl0 : l = 0 := by omega
    have hh0 : h = 0 := by omega
    subst hl0; subst hh0
    exact step_pure r hd (hrun _ _ rfl (Nat.le_refl _)) (by simp; exact .nil) hK
  case viewNil p sz a' c =>
    simp at hn; subst hn
    have hh0 : h = 0 := by omega
    subst hh0
    refine step_pure r hd (hrun _ _ rfl (Nat.zero_le _)) ?_ hK.2
    simp
    exact .viewNil ..
  case view p sz xs b off c hp h1 h2 h3 h4 h5 =>
    subst hn
    obtain ⟨rfl, hK⟩ := hK
    refine step_pure r hd (hrun _ _ rfl h2) ?_ hK
    have hlen : ((xs.drop l).take (h - l)).length = h - l := by simp; omega
    by_cases hz : h - l = 0
    · have : (xs.drop l).take (h - l) = [] := List.eq_nil_of_length_eq_zero (by omega)
      rw [this, hz]; exact .viewNil ..
    · have hcl : c ≠ l := by omega
      simp only [hcl, if_false, Option.map_some, Addr.add_lit]
      have hview : VR ρ I w (.view p de.size ((xs.drop l).take (h - l))) (.slice (some ⟨b, off + l * de.size, none⟩) ((xs.drop l).take (h - l)).length (c - l)) := by
        refine .view p _ _ b (off + l * de.size) (c - l) hp (by omega) (by omega) (fun i x hx => ?_) (fun i j x hx => ?_) (fun i j x u hx hu => ?_)
        · rw [List.getElem?_take] at hx
          split at hx
          · rw [List.getElem?_drop] at hx; exact h3 _ x hx
          · cases hx
        · have hg := (get2_drop_take hx).1
          have := h4 _ j x hg
          rwa [Nat.add_mul, ← Nat.add_assoc] at this
        · have hg := (get2_drop_take hx).1
          refine h5 _ j x u hg ?_
          rwa [Nat.add_mul, ← Nat.add_assoc]
      rw [hlen] at hview
      exact hview
  case ref0 id' sz off a' B hB hcap =>
    subst hn
    have hl0 : l = 0 := by omega
    have hh0 : h = 0 := by omega
    subst hl0; subst hh0
    refine step_pure r hd (hrun _ _ rfl (Nat.le_refl _)) ?_ hK.2
    simp
    exact .ref0 _ _ _ _ B hB hcap
  case ref id' sz off len b c B hB hb hsz hc1 hc2 hc3 =>
    subst hn
    obtain ⟨rfl, hK⟩ := hK
    refine step_pure r hd (hrun _ _ rfl hc2) ?_ hK
    by_cases hcl : c = l
    · have hh : h - l = 0 := by omega
      rw [hh, if_pos hcl, hcl, Nat.sub_self]
      exact .ref0 _ _ _ _ B hB (by omega)
    · rw [if_neg hcl]
      simp only [Option.map_some, Addr.add_lit]
      have : B.off + off * B.sz + l * de.size = B.off + (off + l) * B.sz := by rw [hsz, Nat.add_mul]; omega
      rw [this]
      exact .ref _ _ _ _ b _ B hB hb hsz (by omega) (by omega) (by omega)

theorem s_index (r : SRel N ρ I w st a) (hd : dstOk N o) (t x i) (ho : o.op = .index t x i) (hs : C.P.underlying t = some .string) {s : ByteArray} {k z} (hx : st.ev x = .str s) (hi : st.ev i = .int k z)
    (h0 : 0 ≤ z) (h1 : z < s.size) (h : ∀ b, s[z.toNat]? = some b → K (st.put o.dst (.int .u8 b.toNat))) : o.wp C.P a w (After N st ρ I w id K) Q := by
  have hv := r.ev x
  have hiv := r.ev i
  rw [hx] at hv
  rw [hi] at hiv
  have hlt : z.toNat < s.size := by omega
  have hb : s[z.toNat]? = some s[z.toNat] := by simp [hlt]
  refine step_pure (v := .int .u8 (s[z.toNat]).toNat) r hd ?_ (.int _ _) (h _ hb)
  simp [execOp, ho, hv.str_inv, hiv.int_inv, Instr.index, asIntOf, run_underlying hs, h0, hb]

end
end Go.AE
end

section
/- Abstract machine: comparing structs of numbers, bools and strings. -/
namespace Go.AE

inductive Lf where
  | b
  | i (k : IntKind)
  | s
  deriving DecidableEq

def lfOf : AV → Option Lf
  | .bool _ => some .b
  | .int k _ => some (.i k)
  | .str _ => some .s
  | _ => none

def cellEq : AV → AV → Bool
  | .bool a, .bool b => a == b
  | .int _ a, .int _ b => a == b
  | .str a, .str b => a.toList == b.toList
  | _, _ => false
def cellsEq : List AV → List AV → Bool
  | [], [] => true
  | x :: xs, y :: ys => cellEq x y && cellsEq xs ys
  | _, _ => false
section
variable {C : Ctx} {ρ : Names} {I : Imm} {w : World}

end
end Go.AE
end

section
/- Abstract machine: soundness of what makes and writes memory. -/
namespace Go.AE

section
variable {C : Ctx} {N : Nat} {ρ : Names} {I : Imm} {w : World} {st : St} {a : Act} {id : Nat} {K : St → Prop} {o : Oper} {Q : Exit → Act → World → Prop}

@[simp] theorem put_h (s : St) (d v) : (s.put d v).h = s.h := by cases d <;> rfl
@[simp] theorem put_nx (s : St) (d v) : (s.put d v).nx = s.nx := by cases d <;> rfl

theorem VR.cellsOf {x : AV} {v : Value} (h : VR ρ I w x v) (hk : x.known = true) :
    v.cells.size = x.cells.length ∧ ∀ (i : Nat) y u, x.cells[i]? = some y → v.cells[i]? = some u → VR ρ I w y u := by
  have one : ∀ (x : AV) (v : Value), VR ρ I w x v → x.cells = [x] → v.cells = #[v] → v.cells.size = x.cells.length ∧ ∀ (i : Nat) y u, x.cells[i]? = some y → v.cells[i]? = some u → VR ρ I w y u := by
    intro x v h h1 h2
    rw [h1, h2]
    refine ⟨rfl, fun i y u hy hu => ?_⟩
    cases i with
    | zero => simp at hy hu; subst hy; subst hu; exact h
    | succ i => simp at hy
  cases h with
  | agg cells vs h1 h2 => exact ⟨h1, h2⟩
  | dead v => simp [AV.known] at hk
  | bool b => exact one _ _ (.bool b) rfl rfl
  | int k n => exact one _ _ (.int k n) rfl rfl
  | str s => exact one _ _ (.str s) rfl rfl
  | nil => exact one _ _ .nil rfl rfl
  | viewNil p sz a c => exact one _ _ (.viewNil p sz a c) rfl rfl
  | view p sz xs b off c h1 h2 h3 h4 h5 h6 => exact one _ _ (.view p sz xs b off c h1 h2 h3 h4 h5 h6) rfl rfl
  | ref0 id sz off a B h1 h2 => exact one _ _ (.ref0 id sz off a B h1 h2) rfl rfl
  | ref id sz off len b c B h1 h2 h3 h4 h5 h6 => exact one _ _ (.ref id sz off len b c B h1 h2 h3 h4 h5 h6) rfl rfl
  | ptr id off b B h1 h2 => exact one _ _ (.ptr id off b B h1 h2) rfl rfl
  | ep id idx off b B h1 h2 => exact one _ _ (.ep id idx off b B h1 h2) rfl rfl
  | vptr cells p b o h1 h2 h3 => exact one _ _ (.vptr cells p b o h1 h2 h3) rfl rfl
  | fn f caps vs h1 h2 => exact one _ _ (.fn f caps vs h1 h2) rfl rfl
  | bnd f caps vs h1 h2 => exact one _ _ (.bnd f caps vs h1 h2) rfl rfl
  | tup cells vs h1 h2 => exact one _ _ (.tup cells vs h1 h2) rfl rfl

theorem VR.oneCell {x : AV} {v : Value} (h : VR ρ I w x v) (hk : x.one = true) : v.oneCell' = true := by
  cases h <;> first | rfl | (simp [AV.one] at hk)

theorem s_new (r : SRel N ρ I w st a) (hd : dstOk N o) (hn : ρ id = none) (hid : id < st.nx) {e : Ent} {av : AV} {v : Value} {B0 : Base} {w' : World} {h0 : Heap}
    (hrun : (execOp a.eval o).run C.P w = .ok (.value v) w')
    (hh0 : ∀ i e, h0 i = some e → st.h i = some e)
    (hb : B0.blk = none ∨ B0.blk = some w.heap.size) (hwk : ∀ k, k < w.heap.size → w'.heap[k]? = w.heap[k]?)
    (hsize : w.heap.size ≤ w'.heap.size) (hos : w'.os = w.os) (htape : w'.tape = w.tape) (hout : w'.output = w.output)
    (hrel : EntR (upd ρ id (some B0)) I w' id e) (hv : VR (upd ρ id (some B0)) I w' av v)
    (hK : K ((({ st with h := h0 } : St).new id e).put o.dst av)) : o.wp C.P a w (After N st ρ I w id K) Q := by
  have hold : ∀ i e', i ≠ id → upd h0 id (some e) i = some e' → st.h i = some e' := fun i e' hne h => hh0 i e' (by rwa [upd_ne _ _ _ _ hne] at h)
  obtain ⟨H', E'⟩ := alloc_ext (h' := upd h0 id (some e)) r.hp hn hold (upd_same ..) hb hwk hsize hos htape hout hrel
  unfold Oper.wp
  rw [hrun]
  show After N st ρ I w id K (a.put o.dst v) w'
  refine ⟨_, upd ρ id (some B0), I, hK, ?_, by rw [put_h]; exact E', fun i B h => ?_, by simp [St.new]⟩
  · refine SRel.put (st := ({ st with h := h0 } : St).new id e) ⟨r.sz, r.df, fun n => E'.vr r.hp (r.tm n), H', fun i B h => ?_⟩ hv hd
    show i < st.nx
    by_cases hi : i = id
    · subst hi; exact hid
    · rw [upd_ne _ _ _ _ hi] at h; exact r.nm i B h
  · by_cases hi : i = id
    · exact .inr (.inl hi)
    · rw [upd_ne _ _ _ _ hi] at h; exact .inl h

theorem newObj_rel {cells : List AV} {vs : Array Value} {ty : TypeId} (H : HRel ρ I w st.h) (hn : ρ id = none) (hs : vs.size = cells.length)
    (hc : ∀ (i : Nat) y u, cells[i]? = some y → vs[i]? = some u → VR ρ I w y u) :
    EntR (upd ρ id (some ⟨some w.heap.size, 0, 0, 0⟩)) I (w.alloc (.cells vs ty)) id (.obj cells) := by
  refine ⟨_, w.heap.size, vs, ty, upd_same .., rfl, heap_alloc_new w _, hs, fun i x u hx hu => ?_⟩
  refine (hc i x u hx hu).mono (fun j B hB => ?_) (fun _ _ h => h) (fun p b hb => heap_alloc_old w _ _ (H.immlt p b hb))
  have : j ≠ id := fun e => by subst e; rw [hn] at hB; cases hB
  rw [upd_ne _ _ _ _ this]; exact hB

theorem s_newObj (r : SRel N ρ I w st a) (hd : dstOk N o) (hn : ρ id = none) (hid : id < st.nx) {cells : List AV} {vs : Array Value} {ty : TypeId}
    (hrun : (execOp a.eval o).run C.P w = .ok (.value (.pointer (some ⟨w.heap.size, 0, none⟩))) (w.alloc (.cells vs ty))) (hs : vs.size = cells.length)
    (hc : ∀ (i : Nat) y u, cells[i]? = some y → vs[i]? = some u → VR ρ I w y u)
    (hK : K ((st.new id (.obj cells)).put o.dst (.ptr id 0))) : o.wp C.P a w (After N st ρ I w id K) Q :=
  s_new (B0 := ⟨some w.heap.size, 0, 0, 0⟩) (h0 := st.h) r hd hn hid hrun (fun _ _ h => h) (.inr rfl) (fun k hk => heap_alloc_old w _ k hk) (by simp) rfl rfl rfl
    (newObj_rel r.hp hn hs hc) (.ptr id 0 _ _ (upd_same ..) rfl) hK

theorem s_alloc (ok : C.Ok) (r : SRel N ρ I w st a) (hd : dstOk N o) (hn : ρ id = none) (hid : id < st.nx) (e) (ho : o.op = .alloc e) {d : TyD} (he : C.ty e = some d)
    (hK : K ((st.new id (.obj d.zero)).put o.dst (.ptr id 0))) : o.wp C.P a w (After N st ρ I w id K) Q := by
  obtain ⟨i, u, z, F⟩ := ok.facts he
  refine s_newObj (vs := z.cells) (ty := e) r hd hn hid ?_ (by rw [F.zsize, F.zlen]) (fun i y u hy hu => F.zvr i y u hy hu ρ I w) hK
  simp [execOp, ho, Instr.alloc, zeroValue, typeInfo, F.info, F.zero, newVar, newRow]

theorem s_box (r : SRel N ρ I w st a) (hd : dstOk N o) (hn : ρ id = none) (hid : id < st.nx) (e x) (ho : o.op = .box e x) (hk : (st.ev x).known = true)
    (hK : K ((st.new id (.obj (st.ev x).cells)).put o.dst (.ptr id 0))) : o.wp C.P a w (After N st ρ I w id K) Q := by
  obtain ⟨h1, h2⟩ := (r.ev x).cellsOf hk
  refine s_newObj (vs := (a.eval x).cells) (ty := e) r hd hn hid ?_ h1 h2 hK
  simp [execOp, ho, Instr.box, newVar, newRow]

theorem splice_get {α : Type} (cs vs : List α) (off i : Nat) (h : off + vs.length ≤ cs.length) :
    (cs.take off ++ vs ++ cs.drop (off + vs.length))[i]? = if off ≤ i ∧ i < off + vs.length then vs[i - off]? else cs[i]? := by
  have h0 : (cs.take off).length = off := by simp; omega
  by_cases h1 : i < off
  · rw [if_neg (by omega), List.append_assoc, List.getElem?_append_left (by omega), List.getElem?_take, if_pos h1]
  · by_cases h2 : i < off + vs.length
    · rw [if_pos ⟨by omega, h2⟩, List.append_assoc, List.getElem?_append_right (by omega), List.getElem?_append_left (by omega), h0]
    · rw [if_neg (by omega), List.getElem?_append_right (by simp; omega), List.getElem?_drop]
      congr 1
      simp; omega

theorem splice_len {α : Type} (cs vs : List α) (off : Nat) (h : off + vs.length ≤ cs.length) : (cs.take off ++ vs ++ cs.drop (off + vs.length)).length = cs.length := by
  simp; omega

theorem foldl_set_get (vs : List Value) : ∀ (off k : Nat) (cs : Array Value), off + k + vs.length ≤ cs.size →
    ((vs.zipIdx k).foldl (fun cs (p : Value × Nat) => cs.setIfInBounds (off + p.2) p.1) cs).toList = cs.toList.take (off + k) ++ vs ++ cs.toList.drop (off + k + vs.length) := by
  induction vs with
  | nil => intro off k cs h; simp
  | cons v vs ih =>
    intro off k cs h
    simp only [List.length_cons] at h
    simp only [List.zipIdx_cons, List.foldl_cons]
    rw [ih off (k + 1) _ (by simp; omega)]
    apply List.ext_getElem?
    intro i
    have e1 := splice_get (cs.setIfInBounds (off + k) v).toList vs (off + (k + 1)) i (by simp; omega)
    have e2 := splice_get cs.toList (v :: vs) (off + k) i (by simp; omega)
    rw [e1, e2]
    simp only [List.length_cons]
    simp only [Array.getElem?_toList]
    by_cases h1 : i = off + k
    · subst h1
      rw [if_neg (by omega), if_pos (by omega)]
      have : off + k < cs.size := by omega
      simp [this]
    · by_cases h2 : off + k < i ∧ i < off + k + (vs.length + 1)
      · rw [if_pos (by omega), if_pos (by omega)]
        have : i - (off + k) = (i - (off + (k + 1))) + 1 := by omega
        rw [this, List.getElem?_cons_succ]
      · rw [if_neg (by omega), if_neg (by omega), Array.getElem?_setIfInBounds_ne (by omega)]

theorem fill_sound {fs : List (Nat × Nat)} {place : Nat → Option (Nat × Nat)} (hp : ∀ i, place i = fs[i]?) : ∀ (parts : List (Nat × AV)) (vparts : List (Nat × Value)) (cs cs' : List AV) (us : Array Value),
    parts.length = vparts.length → (∀ (j : Nat) i x i' v, parts[j]? = some (i, x) → vparts[j]? = some (i', v) → i = i' ∧ VR ρ I w x v ∧ x.known = true) →
    us.size = cs.length → (∀ (j : Nat) x u, cs[j]? = some x → us[j]? = some u → VR ρ I w x u) → fillA fs parts cs = some cs' →
    ∃ us', Instr.fill place us vparts = some us' ∧ us'.size = cs'.length ∧ ∀ (j : Nat) x u, cs'[j]? = some x → us'[j]? = some u → VR ρ I w x u := by
  intro parts
  induction parts with
  | nil =>
    intro vparts cs cs' us hl _ hs hr hf
    cases vparts with
    | nil => simp [fillA] at hf; subst hf; exact ⟨us, rfl, hs, hr⟩
    | cons => simp at hl
  | cons p parts ih =>
    intro vparts cs cs' us hl hrel hs hr hf
    cases vparts with
    | nil => simp at hl
    | cons q vparts =>
      obtain ⟨i, x⟩ := p
      obtain ⟨i', v⟩ := q
      obtain ⟨rfl, hx, hk⟩ := hrel 0 i x i' v rfl rfl
      simp only [fillA] at hf
      cases hfi : fs[i]? with
      | none => simp [hfi] at hf
      | some q =>
        obtain ⟨off, size⟩ := q
        simp only [hfi] at hf
        split at hf
        · rename_i hc
          obtain ⟨hc1, hc2⟩ := hc
          obtain ⟨g1, g2⟩ := hx.cellsOf hk
          have hfold := foldl_set_get v.cells.toList off 0 us (by simp; omega)
          simp only [Nat.add_zero, Array.length_toList] at hfold
          have hz : (v.cells.zipIdx.foldl (fun cs (c, j) => cs.setIfInBounds (off + j) c) us) = (us.toList.take off ++ v.cells.toList ++ us.toList.drop (off + v.cells.size)).toArray := by
            apply Array.ext'
            rw [← Array.foldl_toList, Array.toList_zipIdx]
            simpa using hfold
          have hl1 : (splice cs off x.cells).length = cs.length := splice_len _ _ _ (by omega)
          obtain ⟨us', h1, h2, h3⟩ := ih vparts (splice cs off x.cells) cs' (us.toList.take off ++ v.cells.toList ++ us.toList.drop (off + v.cells.size)).toArray (by simpa using hl)
            (fun j i y i' u h h' => hrel (j + 1) i y i' u h h') (by
              rw [hl1]
              have := splice_len us.toList v.cells.toList off (by simp; omega)
              simp only [Array.length_toList] at this
              simp only [List.size_toArray]
              omega) (fun j y u hy hu => by
              have e1 := splice_get cs x.cells off j (by omega)
              have e2 := splice_get us.toList v.cells.toList off j (by simp; omega)
              simp only [Array.length_toList, Array.getElem?_toList] at e2
              unfold splice at hy
              rw [e1] at hy
              rw [List.getElem?_toArray, e2] at hu
              by_cases hj : off ≤ j ∧ j < off + x.cells.length
              · rw [if_pos hj] at hy
                rw [if_pos (by omega)] at hu
                exact g2 _ y u hy hu
              · rw [if_neg hj] at hy
                rw [if_neg (by omega)] at hu
                exact hr j y u hy hu) hf
          refine ⟨us', ?_, h2, h3⟩
          have hn1 : ¬ (v.cells.size ≠ size ∨ off + v.cells.size > us.size) := by omega
          simp only [Instr.fill, hp, hfi]
          rw [hz]
          have : (decide (v.cells.size ≠ size) || decide (off + v.cells.size > us.size)) = false := by simp; omega
          rw [if_neg (by simpa using this)]
          exact h1
        · cases hf

end
end Go.AE
end

section
/- Abstract machine: freezing rows; building structs and rows. -/
namespace Go.AE

section
variable {C : Ctx} {N : Nat} {ρ : Names} {I : Imm} {w : World} {st : St} {a : Act} {id : Nat} {K : St → Prop} {o : Oper} {Q : Exit → Act → World → Prop}

theorem s_build (ok : C.Ok) (r : SRel N ρ I w st a) (hd : dstOk N o) (t parts) (ho : o.op = .build t parts) {d : TyD} {cs : List AV} (ht : C.ty t = some d) (ha : d.agg = true)
    (hk : ∀ p ∈ parts.toList, (st.ev p.2).known = true)
    (hf : fillA (d.fields.map fun f => (f.1, f.2.1)) (parts.toList.map fun (i, x) => (i, st.ev x)) d.zero = some cs) (h : K (st.put o.dst (.agg cs))) :
    o.wp C.P a w (After N st ρ I w id K) Q := by
  obtain ⟨i, u, z, F⟩ := ok.facts ht
  obtain ⟨fs, h1, h2, h3⟩ := ok.agg ht ha
  let place : Nat → Option (Nat × Nat) := fun i => (d.fields.map fun f => (f.1, f.2.1))[i]?
  obtain ⟨us', g1, g2, g3⟩ := fill_sound (ρ := ρ) (I := I) (w := w) (place := place) (fun _ => rfl) (parts.toList.map fun (i, x) => (i, st.ev x)) (parts.toList.map fun (i, x) => (i, a.eval x)) d.zero cs z.cells
    (by simp) (fun j i x i' v hx hv => by
      simp only [List.getElem?_map, Option.map_eq_some_iff] at hx hv
      obtain ⟨p, hp, hp'⟩ := hx
      obtain ⟨q, hq, hq'⟩ := hv
      rw [hp] at hq; cases hq
      obtain ⟨i0, x0⟩ := p
      simp at hp' hq'
      obtain ⟨rfl, rfl⟩ := hp'
      obtain ⟨rfl, rfl⟩ := hq'
      exact ⟨rfl, r.ev x0, hk _ (List.mem_of_getElem? hp)⟩) (by rw [F.zsize, F.zlen]) (fun j x u hx hu => F.zvr j x u hx hu ρ I w) hf
  refine step_pure (v := .agg us') r hd ?_ (.agg cs us' g2 g3) h
  have hpl : ∀ (l : List Field) (W : World), (∀ f ∈ l, ∃ s, (C.P.info? f.type).map (·.size) = some s) →
      (l.mapM (m := Sem) fun f => Prod.mk f.offset <$> sizeOf f.type).run C.P W = .ok (l.map fun f => (f.offset, ((C.P.info? f.type).map (·.size)).getD 0)) W := by
    intro l
    induction l with
    | nil => intro W _; simp
    | cons f l ih =>
      intro W hl
      obtain ⟨s, hs⟩ := hl f (by simp)
      simp only [Option.map_eq_some_iff] at hs
      obtain ⟨i, hi, rfl⟩ := hs
      have := ih W (fun f hf => hl f (by simp [hf]))
      simp [List.mapM_cons, run_sizeOf' hi, this, hi]
  have hsizes : ∀ f ∈ fs.toList, ∃ s, (C.P.info? f.type).map (·.size) = some s := by
    intro f hf
    have : (f.offset, f.type) ∈ d.fields.map (fun f => (f.1, f.2.2)) := by rw [← h2]; exact List.mem_map.2 ⟨f, hf, rfl⟩
    obtain ⟨g, hg, hge⟩ := List.mem_map.1 this
    simp at hge
    exact ⟨_, by rw [← hge.2]; exact h3 g hg⟩
  have hplaces := hpl fs.toList w hsizes
  have hplist : (fs.toList.map fun f => (f.offset, ((C.P.info? f.type).map (·.size)).getD 0)) = d.fields.map fun f => (f.1, f.2.1) := by
    have e1 : (fs.toList.map fun f => (f.offset, ((C.P.info? f.type).map (·.size)).getD 0)) = (fs.toList.map fun f => (f.offset, f.type)).map fun p => (p.1, ((C.P.info? p.2).map (·.size)).getD 0) := by simp
    rw [e1, h2, List.map_map]
    apply List.map_congr_left
    intro f hf
    simp [h3 f hf]
  rw [hplist] at hplaces
  have hm : (fs.mapM (m := Sem) fun f => Prod.mk f.offset <$> sizeOf f.type).run C.P w = .ok (d.fields.map fun f => (f.1, f.2.1)).toArray w := by
    rw [Array.mapM_eq_mapM_toList]
    simp [hplaces]
  have hplc : (fun i => ((d.fields.map fun f => (f.1, f.2.1)).toArray)[i]?) = place := by funext i; simp [place]
  simp only [execOp, ho]
  refine run_v (a := a) ?_
  simp only [Instr.build, Sem.run_bind, zeroValue, typeInfo, run_program, Result.andThen_ok, F.info, Sem.run_pure, F.zero, run_underlying h1, bind_pure_comp, hm, Array.toList_map]
  have : (fun x => (d.fields.map fun f => (f.1, f.2.1)).toArray[x]?) = place := hplc
  simp only [this]
  rw [g1]
  rfl

theorem freeze_one (H : HRel ρ I w st.h) {id sz s0 off len : Nat} {xs : List (List AV)} (hid : st.h id = some (.row sz xs)) (hle : off + len ≤ xs.length) :
    ∃ I', HRel ρ I' w (upd st.h id none) ∧ Ext st.h ρ I w (upd st.h id none) ρ I' w ∧
      ∀ u, VR ρ I w (.ref id s0 off len) u → VR ρ I' w (.view true sz ((xs.drop off).take len)) u := by
  obtain ⟨B, hB, hsz, hpos, hlim, hel, hrow⟩ := H.row id sz xs hid
  let I' : Imm := fun p b => I p b ∨ (p = true ∧ B.blk = some b)
  have hII : ∀ p b, I p b → I' p b := fun p b h => .inl h
  have hold : ∀ i e, upd st.h id none i = some e → i ≠ id ∧ st.h i = some e := by
    intro i e h
    by_cases hi : i = id
    · subst hi; simp at h
    · rw [upd_ne _ _ _ _ hi] at h; exact ⟨hi, h⟩
  refine ⟨I', ⟨fun i cells h => (H.obj i cells (hold _ _ h).2).mono (fun _ _ h => h) hII (fun _ _ _ => rfl) (fun _ _ _ _ => rfl), fun i s ys h => (H.row i s ys (hold _ _ h).2).mono (fun _ _ h => h) hII (fun _ _ _ => rfl) (fun _ _ _ _ => rfl),
    fun i j e e' B1 B2 b h h' => H.sep i j e e' B1 B2 b (hold _ _ h).2 (hold _ _ h').2, ?_, ?_⟩, ⟨fun _ _ h => h, hII, ?_, ?_, ?_, rfl, rfl, rfl, Nat.le_refl _, fun _ _ _ => rfl⟩, ?_⟩
  · intro i e B1 b p h hB1 hb hI
    rcases hI with hI | ⟨_, hI⟩
    · exact H.imm i e B1 b p (hold _ _ h).2 hB1 hb hI
    · exact H.sep i id e _ B1 B b (hold _ _ h).2 hid (hold _ _ h).1 hB1 hB hb hI
  · intro p b hI
    rcases hI with hI | ⟨_, hI⟩
    · exact H.immlt p b hI
    · exact (H.ent hid).lt hB hI
  · intro b hI
    rcases hI with hI | ⟨h, _⟩
    · exact hI
    · cases h
  · intro b hI
    rcases hI with hI | ⟨_, hI⟩
    · exact .inl hI
    · exact .inr (.inl ⟨id, _, B, hid, hB, hI⟩)
  · rintro b ⟨i, e, B1, h, hB1, hb⟩
    exact .inl ⟨i, e, B1, (hold _ _ h).2, hB1, hb⟩
  · intro u hu
    have hlen : ((xs.drop off).take len).length = len := by simp; omega
    cases hu with
    | ref0 _ _ _ a B' hB' => rw [List.take_zero]; exact .viewNil ..
    | ref _ _ _ _ b c B' hB' hb hs0 hc1 hc2 hc3 =>
      rw [hB] at hB'; cases hB'
      rcases hrow with ⟨h0, _⟩ | ⟨b', cur, ty, g1, g2, g3, g4, g5, g6⟩
      · rw [h0] at hb; cases hb
      · rw [hb] at g1; cases g1
        have hv : VR ρ I' w (.view true sz ((xs.drop off).take len)) (.slice (some ⟨b, B.off + off * B.sz, none⟩) ((xs.drop off).take len).length c) := by
          refine .view true sz _ b _ c (.inr ⟨rfl, hb⟩) (by omega) (by omega) (fun i x hx => ?_) (fun i j x hx => ?_) (fun i j x u hx hu => ?_)
          · rw [List.getElem?_take] at hx
            split at hx
            · rw [List.getElem?_drop] at hx; exact hel _ x hx
            · cases hx
          · obtain ⟨hg, hi⟩ := get2_drop_take hx
            obtain ⟨cells, q1, q2⟩ := get2_some hg
            have hj : j < sz := by rw [← hel _ _ q1]; exact (List.getElem?_eq_some_iff.1 q2).1
            rw [cell_of_row w b _ cur ty _ g2]
            have h1 : off + i + 1 ≤ B.cap := by have := (List.getElem?_eq_some_iff.1 q1).1; omega
            have h2 := Nat.mul_le_mul_right sz h1
            rw [Nat.add_mul, Nat.add_mul, Nat.one_mul] at h2
            have : B.off + off * B.sz + i * sz + j < cur.size := by rw [hsz]; omega
            exact ⟨_, Array.getElem?_eq_getElem this⟩
          · obtain ⟨hg, hi⟩ := get2_drop_take hx
            rw [cell_of_row w b _ cur ty _ g2] at hu
            refine (g6 (off + i) j x u hg ?_).mono (fun _ _ h => h) hII (fun _ _ _ => rfl)
            rw [← hu, hsz, Nat.add_mul, ← Nat.add_assoc]
        rw [hlen] at hv
        exact hv

theorem frz_sound : ∀ (cells : List AV) (h h' : Heap) (I : Imm) (cs' : List AV) (us : List Value), HRel ρ I w h → frz h cells = some (cs', h') → us.length = cells.length →
    (∀ (i : Nat) x u, cells[i]? = some x → us[i]? = some u → VR ρ I w x u) →
    ∃ I', HRel ρ I' w h' ∧ Ext h ρ I w h' ρ I' w ∧ cs'.length = cells.length ∧ ∀ (i : Nat) x u, cs'[i]? = some x → us[i]? = some u → VR ρ I' w x u := by
  intro cells
  induction cells with
  | nil =>
    intro h h' I cs' us H hf hl hr
    simp [frz] at hf
    obtain ⟨rfl, rfl⟩ := hf
    exact ⟨I, H, Ext.refl, rfl, hr⟩
  | cons c cells ih =>
    intro h h' I cs' us H hf hl hr
    cases us with
    | nil => simp at hl
    | cons u us =>
      have hc := hr 0 c u rfl rfl
      have hrest : ∀ (i : Nat) x u, cells[i]? = some x → us[i]? = some u → VR ρ I w x u := fun i x u hx hu => hr (i + 1) x u (by simpa using hx) (by simpa using hu)
      have plain : ∀ (r : Option (List AV × Heap)), r = frz h cells → (match r with | some (r, h') => some (c :: r, h') | none => none) = some (cs', h') →
          ∃ I', HRel ρ I' w h' ∧ Ext h ρ I w h' ρ I' w ∧ cs'.length = (c :: cells).length ∧ ∀ (i : Nat) x v, cs'[i]? = some x → (u :: us)[i]? = some v → VR ρ I' w x v := by
        intro r hr' hm
        subst hr'
        cases hf' : frz h cells with
        | none => rw [hf'] at hm; cases hm
        | some q =>
          obtain ⟨r, h''⟩ := q
          rw [hf'] at hm
          simp only [Option.some.injEq, Prod.mk.injEq] at hm
          obtain ⟨rfl, rfl⟩ := hm
          obtain ⟨I', H', E, hl', hr'⟩ := ih h h'' I r us H hf' (by simpa using hl) hrest
          refine ⟨I', H', E, by simp [hl'], fun i x v hx hv => ?_⟩
          cases i with
          | zero => simp at hx hv; subst hx; subst hv; exact E.vr H hc
          | succ i => exact hr' i x v (by simpa using hx) (by simpa using hv)
      unfold frz at hf
      split at hf
      all_goals first | exact plain _ rfl hf | cases hf

end
end Go.AE
end

section
/- Abstract machine: building rows, stores. -/
namespace Go.AE

section
variable {C : Ctx} {N : Nat} {ρ : Names} {I : Imm} {w : World} {st : St} {a : Act} {id : Nat} {K : St → Prop} {o : Oper} {Q : Exit → Act → World → Prop}

def FlatR (ρ : Names) (I : Imm) (w : World) (sz : Nat) (xs : List (List AV)) (us : Array Value) : Prop :=
  us.size = xs.length * sz ∧ (∀ (i : Nat) x, xs[i]? = some x → x.length = sz) ∧
  ∀ (i j : Nat) x u, get2 xs i j = some x → us[i * sz + j]? = some u → VR ρ I w x u

theorem get2_set {xs : List (List AV)} {i k j : Nat} {cs : List AV} {x : AV} (hk : k < xs.length) (h : get2 (xs.set k cs) i j = some x) :
    (i = k ∧ cs[j]? = some x) ∨ (i ≠ k ∧ get2 xs i j = some x) := by
  obtain ⟨cells, h1, h2⟩ := get2_some h
  by_cases hi : i = k
  · subst hi
    rw [List.getElem?_set_self hk] at h1
    cases h1
    exact .inl ⟨rfl, h2⟩
  · rw [List.getElem?_set_ne (fun e => hi e.symm)] at h1
    exact .inr ⟨hi, by simp [get2, h1, h2]⟩

theorem flat_idx {sz i j k l : Nat} (hj : j < sz) (hl : l < sz) (h : i * sz + j = k * sz + l) : i = k ∧ j = l := by
  have h1 : (i * sz + j) / sz = i := by rw [Nat.add_comm, Nat.add_mul_div_right _ _ (by omega), Nat.div_eq_of_lt hj]; omega
  have h2 : (k * sz + l) / sz = k := by rw [Nat.add_comm, Nat.add_mul_div_right _ _ (by omega), Nat.div_eq_of_lt hl]; omega
  have : i = k := by rw [← h1, h, h2]
  exact ⟨this, by subst this; omega⟩

theorem FlatR.splice {sz : Nat} {xs : List (List AV)} {us : Array Value} (F : FlatR ρ I w sz xs us) {k off : Nat} {cs vs : List AV} {uv : Array Value} (hcs : xs[k]? = some cs)
    (hl : uv.size = vs.length) (hle : off + vs.length ≤ sz) (hv : ∀ (j : Nat) x u, vs[j]? = some x → uv[j]? = some u → VR ρ I w x u) :
    FlatR ρ I w sz (xs.set k (splice cs off vs)) (us.toList.take (k * sz + off) ++ uv.toList ++ us.toList.drop (k * sz + off + uv.size)).toArray := by
  obtain ⟨h1, h2, h3⟩ := F
  have hk : k < xs.length := (List.getElem?_eq_some_iff.1 hcs).1
  have hcl : cs.length = sz := h2 k cs hcs
  have hbound : k * sz + sz ≤ us.size := by
    rw [h1]
    have := Nat.mul_le_mul_right sz (show k + 1 ≤ xs.length from hk)
    rwa [Nat.add_mul, Nat.one_mul] at this
  have hul : (us.toList.take (k * sz + off) ++ uv.toList ++ us.toList.drop (k * sz + off + uv.size)).length = us.size := by
    have := splice_len us.toList uv.toList (k * sz + off) (by simp; omega)
    simpa using this
  refine ⟨by simp only [List.size_toArray]; rw [hul, h1, List.length_set], fun i x hx => ?_, fun i j x u hx hu => ?_⟩
  · by_cases hi : i = k
    · subst hi
      rw [List.getElem?_set_self hk] at hx
      cases hx
      unfold AE.splice
      rw [splice_len _ _ _ (by omega), hcl]
    · rw [List.getElem?_set_ne (fun e => hi e.symm)] at hx
      exact h2 i x hx
  · rw [List.getElem?_toArray] at hu
    have e := splice_get us.toList uv.toList (k * sz + off) (i * sz + j) (by simp; omega)
    simp only [Array.length_toList, Array.getElem?_toList] at e
    rw [e] at hu
    rcases get2_set hk hx with ⟨rfl, hx2⟩ | ⟨hne, hx2⟩
    · have hj : j < sz := by
        have := (List.getElem?_eq_some_iff.1 hx2).1
        unfold AE.splice at this
        rw [splice_len _ _ _ (by omega)] at this
        omega
      unfold AE.splice at hx2
      rw [splice_get _ _ _ _ (by omega)] at hx2
      by_cases hin : off ≤ j ∧ j < off + vs.length
      · rw [if_pos hin] at hx2
        rw [if_pos (by omega)] at hu
        have : i * sz + j - (i * sz + off) = j - off := by omega
        rw [this] at hu
        exact hv _ x u hx2 hu
      · rw [if_neg hin] at hx2
        rw [if_neg (by omega)] at hu
        exact h3 i j x u (by simp [get2, hcs, hx2]) hu
    · have hj : j < sz := by
        obtain ⟨cells, q1, q2⟩ := get2_some hx2
        rw [← h2 i cells q1]; exact (List.getElem?_eq_some_iff.1 q2).1
      have hout : ¬ (k * sz + off ≤ i * sz + j ∧ i * sz + j < k * sz + off + uv.size) := by
        rintro ⟨g1, g2⟩
        have : i * sz + j = k * sz + (i * sz + j - k * sz) := by omega
        exact hne (flat_idx hj (by omega) this).1
      rw [if_neg hout] at hu
      exact h3 i j x u hx2 hu

theorem FlatR.mono {ρ' I' w'} {sz : Nat} {xs : List (List AV)} {us : Array Value} (F : FlatR ρ I w sz xs us) (h : ∀ x u, VR ρ I w x u → VR ρ' I' w' x u) : FlatR ρ' I' w' sz xs us :=
  ⟨F.1, F.2.1, fun i j x u hx hu => h _ _ (F.2.2 i j x u hx hu)⟩

theorem rowA_sound {n : Nat} (place : Nat → Option (Nat × Nat)) (hp : ∀ i, place i = some (i * n, n)) : ∀ (parts : List (Nat × AV)) (vparts : List (Nat × Value)) (h h' : Heap) (I : Imm) (xs xs' : List (List AV)) (us : Array Value),
    HRel ρ I w h → parts.length = vparts.length → (∀ (j : Nat) i x i' v, parts[j]? = some (i, x) → vparts[j]? = some (i', v) → i = i' ∧ VR ρ I w x v) →
    FlatR ρ I w n xs us → rowA n h parts xs = some (xs', h') →
    ∃ us' I', Instr.fill place us vparts = some us' ∧ HRel ρ I' w h' ∧ Ext h ρ I w h' ρ I' w ∧ FlatR ρ I' w n xs' us' ∧ xs'.length = xs.length := by
  intro parts
  induction parts with
  | nil =>
    intro vparts h h' I xs xs' us H hl _ F hf
    cases vparts with
    | nil => simp [rowA] at hf; obtain ⟨rfl, rfl⟩ := hf; exact ⟨us, I, rfl, H, Ext.refl, F, rfl⟩
    | cons => simp at hl
  | cons p parts ih =>
    intro vparts h h' I xs xs' us H hl hrel F hf
    cases vparts with
    | nil => simp at hl
    | cons q vparts =>
      obtain ⟨i, x⟩ := p
      obtain ⟨i', v⟩ := q
      obtain ⟨rfl, hx⟩ := hrel 0 i x i' v rfl rfl
      simp only [rowA] at hf
      split at hf
      · rename_i hc
        obtain ⟨hc1, hc2, hk⟩ := hc
        cases hz : frz h x.cells with
        | none => rw [hz] at hf; cases hf
        | some q =>
          obtain ⟨cs, h1⟩ := q
          rw [hz] at hf
          simp only at hf
          obtain ⟨g1, g2⟩ := hx.cellsOf hk
          obtain ⟨I1, H1, E1, hl1, hv1⟩ := frz_sound x.cells h h1 I cs v.cells.toList H hz (by simpa using g1) (fun i y u hy hu => g2 i y u hy (by simpa using hu))
          have hxi := List.getElem?_eq_getElem hc2
          have hlen : (xs[i]).length = n := F.2.1 i _ hxi
          have F1 := (F.mono (fun x u h => E1.vr H h)).splice (k := i) (off := 0) (vs := cs) (uv := v.cells) hxi (by omega) (by omega) (fun j y u hy hu => hv1 j y u hy (by simpa using hu))
          have hsp : splice xs[i] 0 cs = cs := by
            unfold splice
            rw [List.drop_eq_nil_of_le (by omega)]
            simp
          rw [hsp] at F1
          have hbound : i * n + n ≤ us.size := by
            rw [F.1]
            have := Nat.mul_le_mul_right n (show i + 1 ≤ xs.length from hc2)
            rwa [Nat.add_mul, Nat.one_mul] at this
          obtain ⟨us', I', r1, r2, r3, r4, r5⟩ := ih vparts h1 h' I1 (xs.set i cs) xs' _ H1 (by simpa using hl)
            (fun j i y i' u h h' => by have := hrel (j + 1) i y i' u h h'; exact ⟨this.1, E1.vr H this.2⟩) F1 hf
          refine ⟨us', I', ?_, r2, E1.trans r3, r4, by rw [r5, List.length_set]⟩
          have hfold := foldl_set_get v.cells.toList (i * n) 0 us (by simp; omega)
          simp only [Nat.add_zero, Array.length_toList] at hfold
          have hz : (v.cells.zipIdx.foldl (fun cs (c, j) => cs.setIfInBounds (i * n + j) c) us) = (us.toList.take (i * n) ++ v.cells.toList ++ us.toList.drop (i * n + v.cells.size)).toArray := by
            apply Array.ext'
            rw [← Array.foldl_toList, Array.toList_zipIdx]
            simpa using hfold
          simp only [Instr.fill, hp]
          rw [hz]
          rw [if_neg (by simp; omega)]
          exact r1
      · cases hf

theorem zeroRow_flat {z : Value} {d : TyD} {n : Nat} (hpos : 0 < d.size) (hzl : d.zero.length = d.size) (hzs : z.cells.size = d.size)
    (hz : ∀ (j : Nat) x u, d.zero[j]? = some x → z.cells[j]? = some u → VR ρ I w x u) :
    FlatR ρ I w d.size (List.replicate n d.zero) ((Array.range (n * d.size)).map (z.cells[· % z.cells.size]!)) := by
  refine ⟨by simp, fun i x hx => ?_, fun i j x u hx hu => ?_⟩
  · rw [List.getElem?_replicate] at hx
    split at hx
    · cases hx; exact hzl
    · cases hx
  · obtain ⟨cells, h1, h2⟩ := get2_some hx
    rw [List.getElem?_replicate] at h1
    split at h1
    · rename_i hi
      cases h1
      have hj : j < d.size := by rw [← hzl]; exact (List.getElem?_eq_some_iff.1 h2).1
      refine hz j x u h2 ?_
      have hlt : i * d.size + j < n * d.size := by
        have := Nat.mul_le_mul_right d.size (show i + 1 ≤ n from hi)
        rw [Nat.add_mul, Nat.one_mul] at this
        omega
      have hmod : (i * d.size + j) % d.size = j := by rw [Nat.add_comm, Nat.add_mul_mod_self_right, Nat.mod_eq_of_lt hj]
      have hjz : j < z.cells.size := by omega
      simp [hlt, hzs, hmod, hjz] at hu
      rw [← hu]; simp [hjz]
    · cases h1

theorem row_of_flat {us : Array Value} {xs : List (List AV)} {sz : Nat} {ty : TypeId} {ρ' : Names} {w' : World} (hpos : 0 < sz) (hlim : xs.length ≤ LIM) (F : FlatR ρ' I w' sz xs us) {b : Nat}
    (hB : ρ' id = some ⟨some b, 0, xs.length, sz⟩) (hheap : w'.heap[b]? = some (.cells us ty (0, 0))) : EntR ρ' I w' id (.row sz xs) := by
  refine ⟨_, hB, rfl, hpos, hlim, F.2.1, .inr ⟨b, us, ty, rfl, hheap, by simp [F.1], Nat.le_refl _, by simp only [maxLen]; simp only [LIM] at hlim; omega, fun i j x u hx hu => ?_⟩⟩
  simp only [Nat.zero_add] at hu
  exact F.2.2 i j x u hx hu

theorem mono_new {ρ : Names} {I : Imm} {w : World} {h : Heap} (H : HRel ρ I w h) {id : Nat} {B : Base} (hn : ρ id = none) (ob : Obj) {x u} (hv : VR ρ I w x u) : VR (upd ρ id (some B)) I (w.alloc ob) x u := by
  refine hv.mono (fun j B' hB => ?_) (fun _ _ h => h) (fun p b hb => heap_alloc_old w _ _ (H.immlt p b hb))
  have : j ≠ id := fun e => by subst e; rw [hn] at hB; cases hB
  rw [upd_ne _ _ _ _ this]; exact hB

theorem s_makeSlice (ok : C.Ok) (r : SRel N ρ I w st a) (hd : dstOk N o) (hn : ρ id = none) (hid : id < st.nx) (t l c) (ho : o.op = .makeSlice t l c) {d e de} {k k' n}
    (ht : C.ty t = some d) (he : d.elem = some e) (hde : C.ty e = some de) (hpos : 0 < de.size) (hby : de.bytes ≤ 128) (hl : st.ev l = .int k n) (hc : st.ev c = .int k' n) (h0 : 0 ≤ n) (hlim : n ≤ MLIM)
    (hK : K ((st.new id (.row de.size (List.replicate n.toNat de.zero))).put o.dst (.ref id de.size 0 n.toNat))) : o.wp C.P a w (After N st ρ I w id K) Q := by
  obtain ⟨i, u, z, F⟩ := ok.facts hde
  have hsl := ok.slice ht he
  have hlv := (hl ▸ r.ev l : VR ρ I w (.int k n) (a.eval l)).int_inv
  have hcv := (hc ▸ r.ev c : VR ρ I w (.int k' n) (a.eval c)).int_inv
  have hnn : n.toNat ≤ LIM := mlim_le (by omega)
  have hw63 : IntKind.i64.wrap n = n := by
    simp only [MLIM] at hlim
    unfold IntKind.wrap
    simp [IntKind.bits, IntKind.signed]
    omega
  have hbytes : i.bytes * n ≤ 2 ^ 48 := by
    rw [F.bytes]
    have h1 : (de.bytes : Int) ≤ 128 := by omega
    have h2 : (de.bytes : Int) * n ≤ 128 * n := Int.mul_le_mul_of_nonneg_right h1 h0
    simp only [MLIM] at hlim
    omega
  have hfl := zeroRow_flat (ρ := ρ) (I := I) (w := w) (z := z) (d := de) (n := n.toNat) hpos F.zlen F.zsize (fun j x u hx hu => F.zvr j x u hx hu ρ I w)
  have hrun : (execOp a.eval o).run C.P w = .ok (.value (.slice (some ⟨w.heap.size, 0, none⟩) n.toNat n.toNat)) (w.alloc (.cells ((Array.range (n.toNat * de.size)).map (z.cells[· % z.cells.size]!)) e)) := by
    simp only [execOp, ho]
    refine run_v (a := a) ?_
    have g1 : ¬ (n < 0) := by omega
    have g2 : ¬ (2 ^ 48 < (i.bytes : Int) * n) := by omega
    simp [Instr.makeSlice, run_underlying hsl, hlv, hcv, asInt, asIntOf, typeInfo, F.info, hw63, g1, run_sizeOf' F.info, F.size, newRow]
    rw [if_neg (by omega)]
    by_cases hz : n.toNat * de.size = 0
    · have : n.toNat = 0 := by rcases Nat.mul_eq_zero.1 hz with h | h <;> omega
      simp only [this, Nat.zero_mul, true_or, if_true, Sem.run_pure, Result.andThen_ok]
      have hr : Array.range 0 = #[] := by simp [Array.range]
      simp [hr]
    · have : ¬ (n.toNat = 0 ∨ de.size = 0) := by intro h; rcases h with h | h <;> simp [h] at hz
      simp [this, zeroValue, typeInfo, F.info, F.zero]
      exact fun h => absurd h hz
  have hlen : (List.replicate n.toNat de.zero).length = n.toNat := by simp
  refine s_new (B0 := ⟨some w.heap.size, 0, n.toNat, de.size⟩) (h0 := st.h) r hd hn hid hrun (fun _ _ h => h) (.inr rfl) (fun k hk => heap_alloc_old w _ k hk) (by simp) rfl rfl rfl ?_ ?_ hK
  · refine row_of_flat hpos (by rw [hlen]; exact hnn) (hfl.mono fun x u h => mono_new r.hp hn _ h) (b := w.heap.size) ?_ (heap_alloc_new w _)
    rw [hlen]; exact upd_same ..
  · have := VR.ref (ρ := upd ρ id (some ⟨some w.heap.size, 0, n.toNat, de.size⟩)) (I := I) (w := w.alloc (.cells ((Array.range (n.toNat * de.size)).map (z.cells[· % z.cells.size]!)) e)) id de.size 0 n.toNat w.heap.size n.toNat _ (upd_same ..) rfl rfl (by simp) (Nat.le_refl _) hnn
    simpa using this

end
end Go.AE
end

section
/- Abstract machine: row literals, stores, append. -/
namespace Go.AE

section
variable {C : Ctx} {N : Nat} {ρ : Names} {I : Imm} {w : World} {st : St} {a : Act} {id : Nat} {K : St → Prop} {o : Oper} {Q : Exit → Act → World → Prop}

theorem After.of_ext {st1 : St} {ρ1 : Names} {I1 : Imm} {w1 : World} {a' w'} (E : Ext st.h ρ I w st1.h ρ1 I1 w1) (hρ : ρ1 = ρ) (hnx : st1.nx = st.nx) (h : After N st1 ρ1 I1 w1 id K a' w') :
    After N st ρ I w id K a' w' := by
  obtain ⟨st', ρ', I', h1, h2, h3, h4, h5⟩ := h
  refine ⟨st', ρ', I', h1, h2, E.trans h3, fun i B hB => ?_, by omega⟩
  rcases h4 i B hB with h | h | h
  · exact .inl (by rw [← hρ]; exact h)
  · exact .inr (.inl h)
  · exact .inr (.inr (by omega))

theorem SRel.ext {st1 : St} {I1 : Imm} (r : SRel N ρ I w st a) (H : HRel ρ I1 w st1.h) (E : Ext st.h ρ I w st1.h ρ I1 w) (ht : st1.t = st.t) (hnx : st1.nx = st.nx) : SRel N ρ I1 w st1 a :=
  ⟨r.sz, r.df, fun n => by rw [ht]; exact E.vr r.hp (r.tm n), H, fun i B h => by rw [hnx]; exact r.nm i B h⟩

theorem s_buildSlice (ok : C.Ok) (r : SRel N ρ I w st a) (hd : dstOk N o) (hn : ρ id = none) (hid : id < st.nx) (t len parts) (ho : o.op = .buildSlice t len parts) {d e de} {xs : List (List AV)} {h' : Heap}
    (ht : C.ty t = some d) (he : d.elem = some e) (hde : C.ty e = some de) (hpos : 0 < de.size) (hlen : len * de.size ≤ 2 ^ 24)
    (hrow : rowA de.size st.h (parts.toList.map fun (i, x) => (i, st.ev x)) (List.replicate len de.zero) = some (xs, h'))
    (hK : K ((({ st with h := h' } : St).new id (.row de.size xs)).put o.dst (.ref id de.size 0 len))) : o.wp C.P a w (After N st ρ I w id K) Q := by
  obtain ⟨i, u, z, F⟩ := ok.facts hde
  have hsl := ok.slice ht he
  have hfl := zeroRow_flat (ρ := ρ) (I := I) (w := w) (z := z) (d := de) (n := len) hpos F.zlen F.zsize (fun j x u hx hu => F.zvr j x u hx hu ρ I w)
  obtain ⟨us', I1, g1, g2, g3, g4, g5⟩ := rowA_sound (ρ := ρ) (w := w) (n := de.size) (fun i => some (i * de.size, de.size)) (fun _ => rfl) (parts.toList.map fun (i, x) => (i, st.ev x)) (parts.toList.map fun (i, x) => (i, a.eval x))
    st.h h' I (List.replicate len de.zero) xs _ r.hp (by simp) (fun j i x i' v hx hv => by
      simp only [List.getElem?_map, Option.map_eq_some_iff] at hx hv
      obtain ⟨p, hp, hp'⟩ := hx
      obtain ⟨q, hq, hq'⟩ := hv
      rw [hp] at hq; cases hq
      obtain ⟨i0, x0⟩ := p
      simp at hp' hq'
      obtain ⟨rfl, rfl⟩ := hp'
      obtain ⟨rfl, rfl⟩ := hq'
      exact ⟨rfl, r.ev x0⟩) hfl hrow
  have hxl : xs.length = len := by simpa using g5
  have hlim : len ≤ LIM := by
    have : len * 1 ≤ len * de.size := Nat.mul_le_mul_left len hpos
    simp only [LIM]; omega
  have hrun : (execOp a.eval o).run C.P w = .ok (.value (.slice (some ⟨w.heap.size, 0, none⟩) len len)) (w.alloc (.cells us' e)) := by
    simp only [execOp, ho]
    refine run_v (a := a) ?_
    have hle : ¬ (len * de.size > 2 ^ 24) := by omega
    simp only [Instr.buildSlice, Sem.run_bind, run_underlying hsl, Result.andThen_ok, run_sizeOf' F.info, F.size, if_neg hle, Sem.run_pure, Array.toList_map]
    by_cases hz : len * de.size = 0
    · have h0 : len = 0 := by rcases Nat.mul_eq_zero.1 hz with h | h <;> omega
      have e1 : (Array.range (len * de.size)).map (z.cells[· % z.cells.size]!) = #[] := by simp [hz, Array.range]
      have e2 : ∀ zz : Array Value, (Array.range (len * de.size)).map (zz[· % zz.size]!) = #[] := by intro zz; simp [hz, Array.range]
      rw [e1] at g1
      simp only [hz, if_true, Sem.run_pure, Result.andThen_ok]
      rw [hz] at e2
      simp only [e2]
      rw [g1]
      simp [newRow]
    · simp only [hz, if_false, Sem.run_bind, zeroValue, typeInfo, run_program, Result.andThen_ok, F.info, Sem.run_pure, F.zero]
      rw [g1]
      simp [newRow]
  have r1 : SRel N ρ I1 w { st with h := h' } a := r.ext (st1 := { st with h := h' }) g2 g3 rfl rfl
  have key : o.wp C.P a w (After N { st with h := h' } ρ I1 w id K) Q := by
    refine s_new (B0 := ⟨some w.heap.size, 0, len, de.size⟩) (h0 := h') r1 hd hn hid hrun (fun _ _ h => h) (.inr rfl) (fun k hk => heap_alloc_old w _ k hk) (by simp) rfl rfl rfl ?_ ?_ hK
    · refine row_of_flat hpos (by omega) (g4.mono fun x u h => mono_new g2 hn _ h) (b := w.heap.size) ?_ (heap_alloc_new w _)
      rw [hxl]; exact upd_same ..
    · have := VR.ref (ρ := upd ρ id (some ⟨some w.heap.size, 0, len, de.size⟩)) (I := I1) (w := w.alloc (.cells us' e)) id de.size 0 len w.heap.size len _ (upd_same ..) rfl rfl (by simp) (Nat.le_refl _) hlim
      simpa using this
  unfold Oper.wp at key ⊢
  rw [hrun] at key ⊢
  exact After.of_ext (st1 := { st with h := h' }) g3 rfl rfl key

theorem run_storeVar {P : Program} {t : TypeId} {i : TypeInfo} (hi : P.info? t = some i) {b o : Nat} {cur : Array Value} {ty : TypeId} {v : Value} (hb : w.heap[b]? = some (.cells cur ty (0, 0))) (hs : v.cells.size = i.size)
    (hle : o + v.cells.size ≤ cur.size) (h1 : ∀ u ∈ v.cells.toList, u.oneCell' = true) :
    (storeVar t ⟨b, o, none⟩ v).run P w = .ok () (w.setRow b (cur.toList.take o ++ v.cells.toList ++ cur.toList.drop (o + v.cells.size)).toArray) := by
  have h := run_storeCells_at P b o ty v.cells.toList 0 cur w hb (by simpa using hle) h1
  simp only [Nat.add_zero, Array.length_toList] at h
  simp [storeVar, run_sizeOf' hi, hs, h]

theorem cells_one {x : AV} {v : Value} (h : VR ρ I w x v) (hk : x.cells.all AV.one = true) : (v.cells.size = x.cells.length ∧ ∀ (i : Nat) y u, x.cells[i]? = some y → v.cells[i]? = some u → VR ρ I w y u) ∧ ∀ u ∈ v.cells.toList, u.oneCell' = true := by
  have hkn : x.known = true := by cases x <;> first | rfl | (simp [AV.cells, AV.one] at hk)
  have hc := h.cellsOf hkn
  refine ⟨hc, fun u hu => ?_⟩
  obtain ⟨i, hi⟩ := List.getElem?_of_mem hu
  have hlt : i < v.cells.size := by have := (List.getElem?_eq_some_iff.1 hi).1; simpa using this
  have hx : i < x.cells.length := by omega
  have hone : (x.cells[i]).one = true := by
    rw [List.all_eq_true] at hk
    exact hk _ (List.getElem_mem hx)
  exact (hc.2 i _ u (List.getElem?_eq_getElem hx) (by simpa using hi)).oneCell hone

theorem change_ext {h h' : Heap} (H : HRel ρ I w h) {id0 : Nat} {e e0 : Ent} {B0 : Base} {b : Nat} {cur cur' : Array Value} {ty : TypeId} (he : h id0 = some e) (hB : ρ id0 = some B0) (hb : B0.blk = some b)
    (hcur : w.heap[b]? = some (.cells cur ty (0, 0))) (hold : ∀ i e, i ≠ id0 → h' i = some e → h i = some e) (hid : h' id0 = some e0) (hrel : EntR ρ I (w.setRow b cur') id0 e0) :
    HRel ρ I (w.setRow b cur') h' ∧ Ext h ρ I w h' ρ I (w.setRow b cur') := by
  have hw : ∀ k, k < w.heap.size → B0.blk ≠ some k → (w.setRow b cur').heap[k]? = w.heap[k]? := fun k hk hne => setRow_other w b k cur' (fun e => hne (by rw [hb, e]))
  refine ⟨H.replace (fun _ _ h => h) hold hid hB ?_ ?_ hw (by simp) hrel, Ext.replace H (fun _ _ h => h) hold hid hB ?_ hw (by simp) rfl rfl rfl⟩
  · intro i e' B b' hne hi hBi hb' hb2
    exact H.sep id0 i e e' B0 B b' he (hold i e' hne hi) (fun e => hne e.symm) hB hBi hb' hb2
  · intro b' p hb' hi
    exact H.imm id0 e B0 b' p he hB hb' hi
  · intro b' hb'
    exact .inl ⟨id0, e, B0, he, hB, hb'⟩

theorem mono_row {H : HRel ρ I w st.h} {id0 e B0 b cur'} (he : st.h id0 = some e) (hB : ρ id0 = some B0) (hb : B0.blk = some b) {x u} (hv : VR ρ I w x u) : VR ρ I (w.setRow b cur') x u := by
  refine hv.mono (fun _ _ h => h) (fun _ _ h => h) (fun p k hk => setRow_other w b k cur' ?_)
  rintro rfl
  exact H.imm id0 e B0 k p he hB hb hk

theorem s_changed (r : SRel N ρ I w st a) (hd : dstOk N o) {id0 : Nat} {e e0 : Ent} {B0 : Base} {b : Nat} {cur cur' : Array Value} {ty : TypeId} {h1 : Heap} (he : st.h id0 = some e) (hB : ρ id0 = some B0) (hb : B0.blk = some b)
    (hcur : w.heap[b]? = some (.cells cur ty (0, 0))) (hh1 : ∀ i e, i ≠ id0 → h1 i = some e → st.h i = some e)
    (hrel : EntR ρ I (w.setRow b cur') id0 e0) (hrun : (execOp a.eval o).run C.P w = .ok .skip (w.setRow b cur'))
    (hK : K ({ st with h := upd h1 id0 (some e0) }.put o.dst .dead)) : o.wp C.P a w (After N st ρ I w id K) Q := by
  obtain ⟨H', E'⟩ := change_ext (h' := upd h1 id0 (some e0)) (cur' := cur') r.hp he hB hb hcur (fun i e' hne h => hh1 i e' hne (by rwa [upd_ne _ _ _ _ hne] at h)) (upd_same ..) hrel
  unfold Oper.wp
  rw [hrun]
  show After N st ρ I w id K (a.put o.dst undef) _
  refine ⟨_, ρ, I, hK, ?_, by rw [put_h]; exact E', fun i B h => .inl h, by simp⟩
  exact SRel.put (st := { st with h := upd h1 id0 (some e0) }) ⟨r.sz, r.df, fun n => E'.vr r.hp (r.tm n), H', r.nm⟩ (.dead _) hd

theorem s_store_ptr (ok : C.Ok) (r : SRel N ρ I w st a) (hd : dstOk N o) (t p x) (ho : o.op = .store t p x) (hone : (st.ev x).cells.all AV.one = true) {q off : Nat} {d : TyD} {cells : List AV} (hp : st.ev p = .ptr q off)
    (ht : C.ty t = some d) (hq : st.h q = some (.obj cells)) (hl : (st.ev x).cells.length = d.size) (hle : off + d.size ≤ cells.length)
    (hK : K ({ st with h := upd st.h q (some (.obj (splice cells off (st.ev x).cells))) }.put o.dst .dead)) : o.wp C.P a w (After N st ρ I w id K) Q := by
  obtain ⟨i, u, z, F⟩ := ok.facts ht
  have hpv := r.ev p
  rw [hp] at hpv
  obtain ⟨⟨c1, c2⟩, c3⟩ := cells_one (r.ev x) hone
  generalize hu : a.eval p = pv at hpv
  cases hpv with
  | ptr _ _ b B hB hb =>
    obtain ⟨B', b', cur, ty, g1, g2, g3, g4, g5⟩ := r.hp.obj q cells hq
    rw [hB] at g1; cases g1
    rw [hb] at g2; cases g2
    have hs : (a.eval x).cells.size = d.size := by omega
    have hst := run_storeVar (P := C.P) (w := w) (t := t) F.info (b := b) (o := off) g3 (by rw [hs, F.size]) (by omega) c3
    refine s_changed (cur' := (cur.toList.take off ++ (a.eval x).cells.toList ++ cur.toList.drop (off + (a.eval x).cells.size)).toArray) r hd hq hB hb g3 (h1 := st.h) (fun i e _ h => h) ?_
      (by simp only [execOp, ho, Sem.run_bind, hu, Instr.storeAt, Instr.sureAddr, Sem.run_pure, Result.andThen_ok, hst]) hK
    refine ⟨B, b, _, ty, hB, hb, setRow_heap w b cur _ ty _ g3, ?_, fun j y v hy hv => mono_row (H := r.hp) hq hB hb ?_⟩
    · have e1 := splice_len cells (st.ev x).cells off (by omega)
      have e2 := splice_len cur.toList (a.eval x).cells.toList off (by simp; omega)
      simp only [Array.length_toList] at e2
      unfold splice
      rw [e1, List.size_toArray, e2, g4]
    · unfold splice at hy
      rw [splice_get _ _ _ _ (by omega)] at hy
      have e2 := splice_get cur.toList (a.eval x).cells.toList off j (by simp; omega)
      simp only [Array.length_toList, Array.getElem?_toList] at e2
      rw [List.getElem?_toArray, e2] at hv
      by_cases hj : off ≤ j ∧ j < off + (st.ev x).cells.length
      · rw [if_pos hj] at hy
        rw [if_pos (by omega)] at hv
        exact c2 _ y v hy hv
      · rw [if_neg hj] at hy
        rw [if_neg (by omega)] at hv
        exact g5 j y v hy hv

theorem s_store_ep (ok : C.Ok) (r : SRel N ρ I w st a) (hd : dstOk N o) (t p x) (ho : o.op = .store t p x) (hone : (st.ev x).cells.all AV.one = true) {q idx off sz : Nat} {d : TyD} {xs : List (List AV)} {vs : List AV} {h' : Heap}
    (hp : st.ev p = .ep q idx off) (ht : C.ty t = some d) (hf : frz st.h (st.ev x).cells = some (vs, h')) (hq : h' q = some (.row sz xs)) (hl : vs.length = d.size) (hle : off + d.size ≤ sz) (hlt : idx < xs.length)
    (hK : ∀ cells, xs[idx]? = some cells → K ({ st with h := upd h' q (some (.row sz (xs.set idx (splice cells off vs)))) }.put o.dst .dead)) : o.wp C.P a w (After N st ρ I w id K) Q := by
  obtain ⟨i, u, z, F⟩ := ok.facts ht
  have hpv := r.ev p
  rw [hp] at hpv
  obtain ⟨⟨c1, c2⟩, c3⟩ := cells_one (r.ev x) hone
  obtain ⟨I1, H1, E1, l1, v1⟩ := frz_sound (st.ev x).cells st.h h' I vs (a.eval x).cells.toList r.hp hf (by simpa using c1) (fun i y u hy hu => c2 i y u hy (by simpa using hu))
  have r1 : SRel N ρ I1 w { st with h := h' } a := r.ext (st1 := { st with h := h' }) H1 E1 rfl rfl
  generalize hu : a.eval p = pv at hpv
  cases hpv with
  | ep _ _ _ b B hB hb =>
    have hcells := List.getElem?_eq_getElem hlt
    obtain ⟨B', g1, g2, g3, g4, g5, g6⟩ := H1.row q sz xs hq
    rw [hB] at g1; cases g1
    rcases g6 with ⟨g6, _⟩ | ⟨b', cur, ty, k1, k2, k3, k4, k5, k6⟩
    · rw [hb] at g6; cases g6
    · rw [hb] at k1; cases k1
      have hs : (a.eval x).cells.size = d.size := by omega
      have hidx := Nat.mul_le_mul_right sz (show idx + 1 ≤ B.cap by omega)
      rw [Nat.add_mul, Nat.one_mul] at hidx
      have hst := run_storeVar (P := C.P) (w := w) (t := t) F.info (b := b) (o := B.off + idx * B.sz + off) k2 (by rw [hs, F.size]) (by rw [g2]; omega) c3
      have hrun : (execOp a.eval o).run C.P w = .ok .skip (w.setRow b (cur.toList.take (B.off + idx * B.sz + off) ++ (a.eval x).cells.toList ++ cur.toList.drop (B.off + idx * B.sz + off + (a.eval x).cells.size)).toArray) := by
        simp only [execOp, ho, Sem.run_bind, hu, Instr.storeAt, Instr.sureAddr, Sem.run_pure, Result.andThen_ok, hst]
      have key : o.wp C.P a w (After N { st with h := h' } ρ I1 w id K) Q := by
        refine s_changed (e0 := .row sz (xs.set idx (splice xs[idx] off vs))) r1 hd hq hB hb k2 (h1 := h') (fun i e _ h => h) ?_ hrun (hK _ hcells)
        have hlen : (xs[idx]).length = sz := g5 idx _ hcells
        refine ⟨B, hB, g2, g3, by rw [List.length_set]; exact g4, fun i y hy => ?_, .inr ⟨b, _, ty, hb, setRow_heap w b cur _ ty _ k2, ?_, by rw [List.length_set]; exact k4, k5, fun i j y v hy hv => mono_row (st := { st with h := h' }) (H := H1) hq hB hb ?_⟩⟩
        · by_cases hi : i = idx
          · subst hi
            rw [List.getElem?_set_self hlt] at hy
            cases hy
            unfold splice
            rw [splice_len _ _ _ (by omega), hlen]
          · rw [List.getElem?_set_ne (fun e => hi e.symm)] at hy
            exact g5 i y hy
        · have e2 := splice_len cur.toList (a.eval x).cells.toList (B.off + idx * B.sz + off) (by simp [g2]; omega)
          simp only [Array.length_toList] at e2
          rw [List.size_toArray, e2]
          exact k3
        · have e2 := splice_get cur.toList (a.eval x).cells.toList (B.off + idx * B.sz + off) (B.off + i * sz + j) (by simp [g2]; omega)
          simp only [Array.length_toList, Array.getElem?_toList] at e2
          rw [List.getElem?_toArray, e2, g2] at hv
          rcases get2_set hlt hy with ⟨rfl, hy2⟩ | ⟨hne, hy2⟩
          · unfold splice at hy2
            rw [splice_get _ _ _ _ (by omega)] at hy2
            by_cases hin : off ≤ j ∧ j < off + vs.length
            · rw [if_pos hin] at hy2
              rw [if_pos (by omega)] at hv
              have : B.off + i * sz + j - (B.off + i * sz + off) = j - off := by omega
              rw [this] at hv
              exact v1 _ y v hy2 (by simpa using hv)
            · rw [if_neg hin] at hy2
              rw [if_neg (by omega)] at hv
              exact k6 i j y v (by simp [get2, hcells, hy2]) hv
          · have hj : j < sz := by
              obtain ⟨cells, q1, q2⟩ := get2_some hy2
              rw [← g5 i cells q1]; exact (List.getElem?_eq_some_iff.1 q2).1
            have hout : ¬ (B.off + idx * sz + off ≤ B.off + i * sz + j ∧ B.off + i * sz + j < B.off + idx * sz + off + (a.eval x).cells.size) := by
              rintro ⟨q1, q2⟩
              have : i * sz + j = idx * sz + (i * sz + j - idx * sz) := by omega
              exact hne (flat_idx hj (by omega) this).1
            rw [if_neg hout] at hv
            exact k6 i j y v hy2 hv
      unfold Oper.wp at key ⊢
      rw [hrun] at key ⊢
      exact After.of_ext (st1 := { st with h := h' }) E1 rfl rfl key

end
end Go.AE
end

section
/- Abstract machine: append. -/
namespace Go.AE

section
variable {C : Ctx} {N : Nat} {ρ : Names} {I : Imm} {w : World} {st : St} {a : Act} {id : Nat} {K : St → Prop} {o : Oper} {Q : Exit → Act → World → Prop}

theorem run_append_room' {P : Program} {t ty e : TypeId} {i : TypeInfo} (ht : P.underlying t = some (.slice e)) (hi : P.info? e = some i) {base : Option Addr} {sLen sCap n : Nat} {xv : Value} {news : List Value}
    (hl : (Builtin.lenOf xv).run P w = .ok n w) (hf : (Builtin.firstCells i.size n xv).run P w = .ok news.toArray w) (hroom : sLen + n ≤ sCap) :
    (Builtin.append_ #[t, t] ty #[.slice base sLen sCap, xv]).run P w =
      match base with
      | some a => ((storeCells (a.add (sLen * i.size)) news).run P w).andThen fun _ w' => .ok (.slice base (sLen + n) sCap) w'
      | none => .ok (.slice base (sLen + n) sCap) w := by
  cases base <;> simp [Builtin.append_, run_underlying ht, sizeOf, typeInfo, hi, hl, hroom, hf]

theorem run_append_grow' {P : Program} {t ty e : TypeId} {i : TypeInfo} {z : Value} (ht : P.underlying t = some (.slice e)) (hi : P.info? e = some i) (hz : i.zero = some z) {base : Option Addr} {sLen sCap n : Nat} {xv : Value} {olds news : List Value}
    (hl : ∀ W, (Builtin.lenOf xv).run P W = .ok n W) (ho : (Builtin.firstCells i.size sLen (.slice base sLen sCap)).run P w.drew = .ok olds.toArray w.drew) (hf : (Builtin.firstCells i.size n xv).run P w.drew = .ok news.toArray w.drew)
    (hg : sCap < sLen + n) (h63 : ((sLen + n : Nat) : Int) ≤ 9223372036854775807) (hfit : Builtin.nextslicecap (sLen + n) sCap * i.bytes ≤ 281474976710656) :
    (Builtin.append_ #[t, t] ty #[.slice base sLen sCap, xv]).run P w =
      .ok (.slice (some ⟨w.heap.size, 0, none⟩) (sLen + n) (grownCap w (sLen + n) sCap e)) (w.drew.alloc (.cells (olds.toArray ++ news.toArray ++ Builtin.zeroCells z.cells (grownCap w (sLen + n) sCap e - (sLen + n))) e)) := by
  have hn : ¬ (sLen + n ≤ sCap) := by omega
  have h63' : ¬ (9223372036854775807 < ((sLen : Int) + (n : Int))) := by omega
  have h48' : ¬ (281474976710656 < Builtin.nextslicecap (sLen + n) sCap * i.bytes) := by omega
  simp [Builtin.append_, run_underlying ht, sizeOf, typeInfo, zeroValue, hi, hz, hl, hn, h63', h48', Question.forced, ho, hf, newRow, grownCap]
  congr 2
  apply Array.ext'
  simp

theorem rowOf_cells (H : HRel ρ I w st.h) {sz : Nat} (hpos : 0 < sz) {x : AV} {xv : Value} {ys : List (List AV)} (hx : rowOf st.h sz x = some ys) (hv : VR ρ I w x xv) :
    ∃ base len cap, xv = .slice base len cap ∧ len = ys.length ∧ ∃ news : List Value, news.length = ys.length * sz ∧
      (∀ W : World, (∀ k, k < w.heap.size → W.heap[k]? = w.heap[k]?) → ∀ P : Program, (Builtin.firstCells sz len xv).run P W = .ok news.toArray W) ∧
      (∀ (i : Nat) c, ys[i]? = some c → c.length = sz) ∧ (∀ (i j : Nat) y u, get2 ys i j = some y → news[i * sz + j]? = some u → VR ρ I w y u) := by
  have empty : ∀ (b : Option Addr) (c : Nat), ys = [] → ∃ base len cap, Value.slice b 0 c = .slice base len cap ∧ len = ys.length ∧ ∃ news : List Value, news.length = ys.length * sz ∧
      (∀ W : World, (∀ k, k < w.heap.size → W.heap[k]? = w.heap[k]?) → ∀ P : Program, (Builtin.firstCells sz len (Value.slice b 0 c)).run P W = .ok news.toArray W) ∧
      (∀ (i : Nat) c, ys[i]? = some c → c.length = sz) ∧ (∀ (i j : Nat) y u, get2 ys i j = some y → news[i * sz + j]? = some u → VR ρ I w y u) := by
    intro b c hy
    subst hy
    refine ⟨b, 0, c, rfl, rfl, [], by simp, fun W _ P => ?_, fun i c h => by simp at h, fun i j y u h _ => by simp [get2] at h⟩
    cases b <;> simp [Builtin.firstCells, loadCells, loadCellsFrom]
  have full : ∀ (b off c : Nat), (∀ (i : Nat) c, ys[i]? = some c → c.length = sz) → b < w.heap.size →
      (∀ (i j : Nat) y, get2 ys i j = some y → ∃ u, w.cell? ⟨b, off + i * sz + j, none⟩ = some u) →
      (∀ (i j : Nat) y u, get2 ys i j = some y → w.cell? ⟨b, off + i * sz + j, none⟩ = some u → VR ρ I w y u) →
      ∃ base len cap, Value.slice (some ⟨b, off, none⟩) ys.length c = .slice base len cap ∧ len = ys.length ∧ ∃ news : List Value, news.length = ys.length * sz ∧
      (∀ W : World, (∀ k, k < w.heap.size → W.heap[k]? = w.heap[k]?) → ∀ P : Program, (Builtin.firstCells sz len (Value.slice (some ⟨b, off, none⟩) ys.length c)).run P W = .ok news.toArray W) ∧
      (∀ (i : Nat) c, ys[i]? = some c → c.length = sz) ∧ (∀ (i j : Nat) y u, get2 ys i j = some y → news[i * sz + j]? = some u → VR ρ I w y u) := by
    intro b off c hlen hb h1 h2
    have hcell : ∀ k, k < ys.length * sz → ∃ u, w.cell? ⟨b, off + k, none⟩ = some u := by
      intro k hk
      have hi : k / sz < ys.length := by rw [Nat.div_lt_iff_lt_mul hpos]; exact hk
      have hj : k % sz < sz := Nat.mod_lt _ hpos
      have hc := List.getElem?_eq_getElem hi
      have hl := hlen _ _ hc
      have hj' : k % sz < (ys[k / sz]).length := by omega
      obtain ⟨u, hu⟩ := h1 (k / sz) (k % sz) _ (by simp [get2, hc]; exact List.getElem?_eq_getElem hj')
      have : off + k / sz * sz + k % sz = off + k := by have := Nat.div_add_mod k sz; rw [Nat.mul_comm] at this; omega
      exact ⟨u, by rw [← this]; exact hu⟩
    refine ⟨_, _, _, rfl, rfl, (List.range (ys.length * sz)).map (fun k => (w.cell? ⟨b, off + k, none⟩).getD undef), by simp, fun W hW P => ?_, hlen, fun i j y u hy hu => ?_⟩
    · simp only [Builtin.firstCells]
      refine run_loadCells W _ _ _ fun k hk => ?_
      obtain ⟨u, hu⟩ := hcell k hk
      rw [Addr.add_lit, World.cell?_of_block (w := w) (a := ⟨b, off + k, none⟩) (hW b hb), hu]; rfl
    · obtain ⟨cs, q1, q2⟩ := get2_some hy
      have hi := (List.getElem?_eq_some_iff.1 q1).1
      have hj : j < sz := by rw [← hlen i cs q1]; exact (List.getElem?_eq_some_iff.1 q2).1
      have hk : i * sz + j < ys.length * sz := by
        have := Nat.mul_le_mul_right sz (show i + 1 ≤ ys.length from hi)
        rw [Nat.add_mul, Nat.one_mul] at this; omega
      obtain ⟨v, hv⟩ := hcell _ hk
      simp [hk, hv] at hu
      subst hu
      exact h2 i j y v hy (by rw [Nat.add_assoc]; exact hv)
  cases hv <;> simp only [rowOf] at hx <;> first | (cases hx; done) | skip
  case nil => cases hx; exact empty _ _ rfl
  case viewNil p s a c => split at hx <;> first | (cases hx; exact empty _ _ rfl) | cases hx
  case view p s xs b off c hp h1 h2 h3 h4 h5 =>
    split at hx
    · rename_i hs; subst hs; cases hx
      exact full b off c h3 (H.immlt _ _ hp) h4 h5
    · cases hx
  case ref0 id s0 off a B hB hcap =>
    split at hx
    · split at hx
      · cases hx; exact empty _ _ (by simp)
      · cases hx
    · cases hx
  case ref id s0 off len b c B hB hb hs0 hc1 hc2 hc3 =>
    split at hx
    · rename_i s ws hid
      split at hx
      · rename_i hc
        obtain ⟨rfl, rfl, hle⟩ := hc
        cases hx
        obtain ⟨B', g1, g2, g3, g4, g5, g6⟩ := H.row id s0 ws hid
        rw [hB] at g1; cases g1
        rcases g6 with ⟨g6, _⟩ | ⟨b', cur, ty, k1, k2, k3, k4, k5, k6⟩
        · rw [hb] at g6; cases g6
        · rw [hb] at k1; cases k1
          have hlen : ((ws.drop off).take len).length = len := by simp; omega
          have hfull := full b (B.off + off * B.sz) c (fun i c h => by
              rw [List.getElem?_take] at h
              split at h
              · rw [List.getElem?_drop] at h; exact g5 _ _ h
              · cases h) ((Array.getElem?_eq_some_iff.1 k2).1) (fun i j y hy => by
              obtain ⟨hg, hi⟩ := get2_drop_take hy
              obtain ⟨cs, q1, q2⟩ := get2_some hg
              have hj : j < s0 := by rw [← g5 _ _ q1]; exact (List.getElem?_eq_some_iff.1 q2).1
              rw [cell_of_row w b _ cur ty _ k2]
              have h1 : off + i + 1 ≤ B.cap := by have := (List.getElem?_eq_some_iff.1 q1).1; omega
              have h2 := Nat.mul_le_mul_right s0 h1
              rw [Nat.add_mul, Nat.add_mul, Nat.one_mul] at h2
              have : B.off + off * B.sz + i * s0 + j < cur.size := by rw [g2]; omega
              exact ⟨_, Array.getElem?_eq_getElem this⟩) (fun i j y u hy hu => by
              obtain ⟨hg, hi⟩ := get2_drop_take hy
              rw [cell_of_row w b _ cur ty _ k2] at hu
              refine k6 (off + i) j y u hg ?_
              rw [← hu, g2, Nat.add_mul, ← Nat.add_assoc])
          rw [hlen] at hfull ⊢
          exact hfull
      · cases hx
    · cases hx

theorem row_append_flat {sz n m : Nat} {xs ys : List (List AV)} {us vs zs : List Value} (hxl : us.length = xs.length * sz)
    (hx2 : ∀ (i : Nat) c, xs[i]? = some c → c.length = sz) (hy2 : ∀ (i : Nat) c, ys[i]? = some c → c.length = sz)
    (hx : ∀ (i j : Nat) y u, get2 xs i j = some y → us[i * sz + j]? = some u → VR ρ I w y u) (hyl : vs.length = ys.length * sz)
    (hy : ∀ (i j : Nat) y u, get2 ys i j = some y → vs[i * sz + j]? = some u → VR ρ I w y u) :
    ∀ (i j : Nat) y u, get2 (xs ++ ys) i j = some y → (us ++ vs ++ zs)[i * sz + j]? = some u → VR ρ I w y u := by
  intro i j y u hg hu
  obtain ⟨cs, q1, q2⟩ := get2_some hg
  by_cases hi : i < xs.length
  · rw [List.getElem?_append_left hi] at q1
    have hj : j < sz := by rw [← hx2 _ _ q1]; exact (List.getElem?_eq_some_iff.1 q2).1
    have hk : i * sz + j < us.length := by
      rw [hxl]
      have := Nat.mul_le_mul_right sz (show i + 1 ≤ xs.length from hi)
      rw [Nat.add_mul, Nat.one_mul] at this; omega
    rw [List.append_assoc, List.getElem?_append_left hk] at hu
    exact hx i j y u (by simp [get2, q1, q2]) hu
  · rw [List.getElem?_append_right (by omega)] at q1
    have hj : j < sz := by rw [← hy2 _ _ q1]; exact (List.getElem?_eq_some_iff.1 q2).1
    have hi2 : i - xs.length < ys.length := (List.getElem?_eq_some_iff.1 q1).1
    have hk : i * sz + j = us.length + ((i - xs.length) * sz + j) := by
      rw [hxl, Nat.sub_mul]
      have := Nat.mul_le_mul_right sz (show xs.length ≤ i by omega)
      omega
    have hk2 : (i - xs.length) * sz + j < vs.length := by
      rw [hyl]
      have := Nat.mul_le_mul_right sz (show i - xs.length + 1 ≤ ys.length from hi2)
      rw [Nat.add_mul, Nat.one_mul] at this; omega
    rw [List.append_assoc, List.getElem?_append_right (by omega), hk] at hu
    have : us.length + ((i - xs.length) * sz + j) - us.length = (i - xs.length) * sz + j := by omega
    rw [this, List.getElem?_append_left hk2] at hu
    exact hy _ j y u (by simp [get2, q1, q2]) hu

theorem s_append (ok : C.Ok) (r : SRel N ρ I w st a) (hd : dstOk N o) (hn : ρ id = none) (hid : id < st.nx) (s x t) (ho : o.op = .call { callee := .builtin .append, args := #[s, x], argTypes := #[t, t] })
    (h : appendA C id (st.ev s) (st.ev x) t st fun r s' => K (s'.put o.dst r)) : o.wp C.P a w (After N st ρ I w id K) Q := by
  obtain ⟨d, e, de, xs, ys, ht, he, hde, hpos, hby, hxs, hys, hlim, hone, hK⟩ := h
  obtain ⟨i, u, z, F⟩ := ok.facts hde
  have hsl := ok.slice ht he
  have hsv := r.ev s
  have hxv := r.ev x
  obtain ⟨xb, xl, xc, hx1, rfl, news, hnl, hnf, hyl, hyr⟩ := rowOf_cells r.hp hpos hys hxv
  have hones : ∀ v ∈ news, v.oneCell' = true := by
    intro v hv
    obtain ⟨k, hk⟩ := List.getElem?_of_mem hv
    have hlt : k < ys.length * de.size := by rw [← hnl]; exact (List.getElem?_eq_some_iff.1 hk).1
    have hi : k / de.size < ys.length := by rw [Nat.div_lt_iff_lt_mul hpos]; exact hlt
    have hj : k % de.size < de.size := Nat.mod_lt _ hpos
    have hc := List.getElem?_eq_getElem hi
    have hj' : k % de.size < (ys[k / de.size]).length := by rw [hyl _ _ hc]; exact hj
    have hkk : k / de.size * de.size + k % de.size = k := by have := Nat.div_add_mod k de.size; rw [Nat.mul_comm] at this; omega
    have hvr := hyr (k / de.size) (k % de.size) (ys[k / de.size][k % de.size]) v (by simp [get2, hc]) (by rw [hkk]; exact hk)
    refine hvr.oneCell ?_
    rw [List.all_eq_true] at hone
    have := hone _ (List.getElem_mem hi)
    rw [List.all_eq_true] at this
    exact this _ (List.getElem_mem hj')
  have hlo : ∀ W, (Builtin.lenOf (a.eval x)).run C.P W = .ok ys.length W := by intro W; rw [hx1]; simp [Builtin.lenOf]
  have hexec : ∀ v w', (Builtin.append_ #[t, t] o.type #[a.eval s, a.eval x]).run C.P w = .ok v w' → (execOp a.eval o).run C.P w = .ok (.value v) w' := by
    intro v w' hr
    simp [execOp, ho, resolve, invoke, builtin, hr]
  -- a new block
  have grow : ∀ (base : Option Addr) (sLen sCap : Nat) (olds : List Value) (h0 : Heap), a.eval s = .slice base sLen sCap → sLen = xs.length → sCap < xs.length + ys.length →
      olds.length = xs.length * de.size → (Builtin.firstCells i.size sLen (.slice base sLen sCap)).run C.P w.drew = .ok olds.toArray w.drew → (∀ (i : Nat) c, xs[i]? = some c → c.length = de.size) →
      (∀ (i j : Nat) y u, get2 xs i j = some y → olds[i * de.size + j]? = some u → VR ρ I w y u) → (∀ i e, h0 i = some e → st.h i = some e) →
      K ((({ st with h := h0 } : St).new id (.row de.size (xs ++ ys))).put o.dst (.ref id de.size 0 (xs ++ ys).length)) → o.wp C.P a w (After N st ρ I w id K) Q := by
    intro base sLen sCap olds h0 hsv' hsLen hcap hol hof hxl hxr hh0 hK
    subst hsLen
    have hbytes : (xs.length + ys.length) * i.bytes ≤ 140737488355328 := by
      rw [F.bytes]
      have h1 := Nat.mul_le_mul hlim hby
      simp only [MLIM] at h1; omega
    have hr := run_append_grow' (P := C.P) (w := w) (ty := o.type) hsl F.info F.zero (base := base) (sLen := xs.length) (sCap := sCap) (n := ys.length) (xv := a.eval x) (olds := olds) (news := news)
      hlo hof (by rw [F.size]; exact hnf w.drew (fun k _ => rfl) C.P) hcap (by simp only [MLIM] at hlim; omega) (growslice_fits hcap hbytes)
    rw [← hsv'] at hr
    have hge := grownCap_ge w (xs.length + ys.length) sCap e
    have hcm : grownCap w (xs.length + ys.length) sCap e ≤ maxLen := grownCap_le_maxLen w _ sCap e (by simp only [MLIM] at hlim; simp only [maxLen]; omega)
    generalize hnc : grownCap w (xs.length + ys.length) sCap e = nc at hr hge hcm
    have hsize : (olds.toArray ++ news.toArray ++ Builtin.zeroCells z.cells (nc - (xs.length + ys.length))).size = nc * de.size := by
      simp [size_zeroCells, F.zsize, hol, hnl]
      rw [← Nat.add_mul, ← Nat.add_mul]
      congr 1; omega
    have hmono : ∀ x u, VR ρ I w x u → VR (upd ρ id (some ⟨some w.heap.size, 0, nc, de.size⟩)) I (w.drew.alloc (.cells (olds.toArray ++ news.toArray ++ Builtin.zeroCells z.cells (nc - (xs.length + ys.length))) e)) x u :=
      fun x u hv => hv.mono (fun j B' hB => by
        have : j ≠ id := fun e => by subst e; rw [hn] at hB; cases hB
        rw [upd_ne _ _ _ _ this]; exact hB) (fun _ _ h => h) (fun p b hb => heap_alloc_old w.drew _ _ (r.hp.immlt p b hb))
    refine s_new (B0 := ⟨some w.heap.size, 0, nc, de.size⟩) (h0 := h0) r hd hn hid (hexec _ _ hr) hh0 (.inr rfl) (fun k hk => heap_alloc_old w.drew _ k hk) (by simp) rfl rfl rfl ?_ ?_ hK
    · refine ⟨_, upd_same .., rfl, hpos, by simpa using mlim_le hlim, fun i c hc => ?_, .inr ⟨w.heap.size, _, e, rfl, heap_alloc_new w.drew _, by simp only [Nat.zero_add]; rw [hsize]; exact Nat.le_refl _, by simpa using hge, hcm, fun k j y u hg hu => hmono _ _ ?_⟩⟩
      · by_cases hi : i < xs.length
        · rw [List.getElem?_append_left hi] at hc; exact hxl _ _ hc
        · rw [List.getElem?_append_right (by omega)] at hc; exact hyl _ _ hc
      · simp only [Nat.zero_add] at hu
        refine row_append_flat (sz := de.size) (n := 0) (m := 0) (us := olds) (vs := news) (zs := (Builtin.zeroCells z.cells (nc - (xs.length + ys.length))).toList) hol hxl hyl hxr hnl hyr k j y u hg ?_
        rw [← hu, ← Array.getElem?_toList]
        congr 1
        simp
    · have := VR.ref (ρ := upd ρ id (some ⟨some w.heap.size, 0, nc, de.size⟩)) (I := I) (w := w.drew.alloc (.cells (olds.toArray ++ news.toArray ++ Builtin.zeroCells z.cells (nc - (xs.length + ys.length))) e)) id de.size 0 (xs ++ ys).length w.heap.size nc _ (upd_same ..) rfl rfl (by simp) (by simpa using hge) (by simpa using mlim_le hlim)
      simpa using this
  have none_room : ∀ (ba : Option Addr) (h0 : Heap), a.eval s = .slice ba 0 0 → xs = [] → ys.length = 0 → (∀ i e, h0 i = some e → st.h i = some e) →
      K ((({ st with h := h0 } : St).new id (.row de.size (xs ++ ys))).put o.dst (.ref id de.size 0 (xs ++ ys).length)) → o.wp C.P a w (After N st ρ I w id K) Q := by
    intro ba h0 hsv' hx0 hy0 hh0 hK
    have hy : ys = [] := List.eq_nil_of_length_eq_zero hy0
    subst hy
    subst hx0
    have hnews : news = [] := List.eq_nil_of_length_eq_zero (by simpa using hnl)
    subst hnews
    have hr : (Builtin.append_ #[t, t] o.type #[a.eval s, a.eval x]).run C.P w = .ok (.slice ba 0 0) w := by
      rw [hsv']
      have := run_append_room' (P := C.P) (w := w) (ty := o.type) hsl F.info (base := ba) (sLen := 0) (sCap := 0) (n := 0) (xv := a.eval x) (news := []) (hlo w) (by rw [F.size]; exact hnf w (fun _ _ => rfl) C.P) (Nat.le_refl _)
      rw [this]
      cases ba <;> simp [storeCells]
    refine s_new (B0 := ⟨none, 0, 0, de.size⟩) (h0 := h0) r hd hn hid (hexec _ _ hr) hh0 (.inl rfl) (fun k hk => rfl) (Nat.le_refl _) rfl rfl rfl ?_ ?_ hK
    · exact ⟨_, upd_same .., rfl, hpos, by simp [LIM], fun i c hc => by simp at hc, .inl ⟨rfl, rfl, rfl⟩⟩
    · exact .ref0 id de.size 0 ba _ (upd_same ..) rfl
  generalize hse : st.ev s = sv at hsv hK hxs
  cases sv <;> simp only at hK <;> first | exact hK.elim | skip
  case nil =>
    simp only [rowOf] at hxs
    cases hxs
    have hs0 := hsv.nil_inv
    by_cases hy0 : ys.length = 0
    · exact none_room none st.h hs0 rfl hy0 (fun _ _ h => h) hK
    · exact grow none 0 0 [] st.h hs0 rfl (by simp; omega) (by simp) (by simp [Builtin.firstCells]) (fun i c hc => by simp at hc) (fun i j y u hg _ => by simp [get2] at hg) (fun _ _ h => h) hK
  case ref id' s0 off len =>
    have hrow0 : ∃ ws, st.h id' = some (.row de.size ws) ∧ s0 = de.size ∧ off + len ≤ ws.length ∧ xs = (ws.drop off).take len := by
      simp only [rowOf] at hxs
      cases hrow : st.h id' with
      | none => rw [hrow] at hxs; cases hxs
      | some ent =>
        rw [hrow] at hxs
        cases ent with
        | obj => cases hxs
        | row s' ws =>
          simp only at hxs
          split at hxs
          · rename_i hc
            obtain ⟨rfl, rfl, hle⟩ := hc
            cases hxs
            exact ⟨ws, rfl, rfl, hle, rfl⟩
          · cases hxs
    obtain ⟨ws, hrow, hs00, hle, hxsw⟩ := hrow0
    have hK := hK _ ws hrow
    have hxlen : xs.length = len := by rw [hxsw]; simp; omega
    have hh0 : ∀ i e, upd st.h id' none i = some e → st.h i = some e := by
      intro i e h
      by_cases hi : i = id'
      · subst hi; simp at h
      · rwa [upd_ne _ _ _ _ hi] at h
    obtain ⟨sb, sl, sc, hs1, hsl', olds, hol, hof, hxl, hxr⟩ := rowOf_cells r.hp hpos hxs hsv
    subst hsl'
    by_cases hroom : xs.length + ys.length ≤ sc
    · generalize hsv' : a.eval s = sv' at hsv hs1
      cases hsv with
      | ref0 _ _ _ ba B hB hcap =>
        simp only [Value.slice.injEq] at hs1
        obtain ⟨e1, e2, e3⟩ := hs1
        have hx0 : xs = [] := List.eq_nil_of_length_eq_zero (by omega)
        have hrest : ws.drop (off + 0 + ys.length) = [] := by
          obtain ⟨B', g1, g2, g3, g4, g5, g6⟩ := r.hp.row id' _ ws hrow
          rw [hB] at g1; cases g1
          refine List.drop_eq_nil_of_le ?_
          rcases g6 with ⟨_, g6, _⟩ | ⟨_, _, _, _, _, _, g7, _⟩
          · rw [g6]; simp
          · omega
        rw [hrest, List.append_nil] at hK
        exact none_room ba _ hsv' hx0 (by omega) hh0 hK
      | ref _ _ _ _ b c B hB hb hs0 hc1 hc2 hc3 =>
        simp only [Value.slice.injEq] at hs1
        obtain ⟨e1, rfl, rfl⟩ := hs1
        have hxs := hxsw.symm
        let rest := ws.drop (off + xs.length + ys.length)
        have hrl : rest.length = ws.length - (off + xs.length + ys.length) := by simp [rest]
        have hrg : ∀ k, rest[k]? = ws[off + xs.length + ys.length + k]? := fun k => by simp [rest, List.getElem?_drop]
        obtain ⟨B', g1, g2, g3, g4, g5, g6⟩ := r.hp.row id' _ ws hrow
        rw [hB] at g1; cases g1
        rcases g6 with ⟨g6, _⟩ | ⟨b', cur, ty, k1, k2, k3, k4, k5, k6⟩
        · rw [hb] at g6; cases g6
        · rw [hb] at k1; cases k1
          have hoffc := Nat.mul_le_mul_right de.size (Nat.le_of_eq hc1)
          rw [Nat.add_mul] at hoffc
          have hroomc := Nat.mul_le_mul_right de.size hroom
          rw [Nat.add_mul] at hroomc
          have hst := run_storeCells_at C.P b (B.off + off * B.sz + xs.length * de.size) ty news 0 cur w k2 (by rw [hnl, g2]; omega) hones
          simp only [Nat.add_zero] at hst
          have hr : (Builtin.append_ #[t, t] o.type #[a.eval s, a.eval x]).run C.P w = .ok (.slice (some ⟨b, B.off + off * B.sz, none⟩) (xs.length + ys.length) c)
              (w.setRow b (cur.toList.take (B.off + off * B.sz + xs.length * de.size) ++ news ++ cur.toList.drop (B.off + off * B.sz + xs.length * de.size + news.length)).toArray) := by
            rw [hsv']
            rw [run_append_room' (P := C.P) (w := w) (ty := o.type) hsl F.info (hlo w) (by rw [F.size]; exact hnf w (fun _ _ => rfl) C.P) hroom]
            simp only [Addr.add_lit, F.size, hst, Result.andThen_ok]
          have hidne : id ≠ id' := fun e => by rw [← e, hn] at hB; cases hB
          have hρ : ∀ j B', ρ j = some B' → upd ρ id (some (⟨some b, B.off + off * B.sz, c, de.size⟩ : Base)) j = some B' := by
            intro j B' hB'
            have : j ≠ id := fun e => by subst e; rw [hn] at hB'; cases hB'
            rw [upd_ne _ _ _ _ this]; exact hB'
          have hold : ∀ i e, i ≠ id → upd (upd st.h id' none) id (some (Ent.row de.size (xs ++ ys ++ rest))) i = some e → st.h i = some e := fun i e hne h => hh0 i e (by rwa [upd_ne _ _ _ _ hne] at h)
          have hw : ∀ k, k < w.heap.size → some b ≠ some k → (w.setRow b (cur.toList.take (B.off + off * B.sz + xs.length * de.size) ++ news ++ cur.toList.drop (B.off + off * B.sz + xs.length * de.size + news.length)).toArray).heap[k]? = w.heap[k]? :=
            fun k hk hne => setRow_other w b k _ (fun e => hne (by rw [e]))
          have hmono : ∀ x u, VR ρ I w x u → VR (upd ρ id (some (⟨some b, B.off + off * B.sz, c, de.size⟩ : Base))) I (w.setRow b (cur.toList.take (B.off + off * B.sz + xs.length * de.size) ++ news ++ cur.toList.drop (B.off + off * B.sz + xs.length * de.size + news.length)).toArray) x u :=
            fun x u hv => hv.mono hρ (fun _ _ h => h) (fun p k hk => setRow_other w b k _ (by rintro rfl; exact r.hp.imm id' _ B k p hrow hB hb hk))
          have hwc : ws.length ≤ off + c := by omega
          have hlim' : xs.length + ys.length ≤ LIM := mlim_le hlim
          have hrel : EntR (upd ρ id (some (⟨some b, B.off + off * B.sz, c, de.size⟩ : Base))) I (w.setRow b (cur.toList.take (B.off + off * B.sz + xs.length * de.size) ++ news ++ cur.toList.drop (B.off + off * B.sz + xs.length * de.size + news.length)).toArray) id (.row de.size (xs ++ ys ++ rest)) := by
            have hsp : B.off + off * B.sz + xs.length * de.size + news.length ≤ cur.toList.length := by simp only [Array.length_toList]; rw [hnl, g2]; omega
            refine ⟨_, upd_same .., rfl, hpos, by simp only [List.length_append, hrl]; omega, fun i c hc => ?_, .inr ⟨b, _, ty, rfl, setRow_heap w b cur _ ty _ k2, ?_, (by show (xs ++ ys ++ rest).length ≤ c; simp only [List.length_append, hrl]; omega), (by show c ≤ maxLen; omega), fun k j y u hg hu => hmono _ _ ?_⟩⟩
            · by_cases hi2 : i < xs.length + ys.length
              · rw [List.getElem?_append_left (by simpa using hi2)] at hc
                by_cases hi : i < xs.length
                · rw [List.getElem?_append_left hi] at hc; exact hxl _ _ hc
                · rw [List.getElem?_append_right (by omega)] at hc; exact hyl _ _ hc
              · rw [List.getElem?_append_right (by simpa using hi2), hrg] at hc
                exact g5 _ _ hc
            · have e2 := splice_len cur.toList news (B.off + off * B.sz + xs.length * de.size) hsp
              rw [List.size_toArray, e2, Array.length_toList]
              simp only [g2]; omega
            · have e2 := splice_get cur.toList news (B.off + off * B.sz + xs.length * de.size) (B.off + off * B.sz + k * de.size + j) hsp
              rw [List.getElem?_toArray, e2] at hu
              obtain ⟨cs, q1, q2⟩ := get2_some hg
              by_cases hk2 : ¬ k < xs.length + ys.length
              · rw [List.getElem?_append_right (by simpa using hk2), hrg] at q1
                have hkx : off + xs.length + ys.length + (k - (xs ++ ys).length) = off + k := by simp; omega
                rw [hkx] at q1
                have hj : j < de.size := by rw [← g5 _ _ q1]; exact (List.getElem?_eq_some_iff.1 q2).1
                have hkk := Nat.mul_le_mul_right de.size (show xs.length + ys.length ≤ k by omega)
                rw [Nat.add_mul] at hkk
                rw [if_neg (by rw [hnl]; omega), Array.getElem?_toList] at hu
                refine k6 (off + k) j y u (by simp [get2, q1, q2]) ?_
                rw [← hu, g2, Nat.add_mul, ← Nat.add_assoc]
              have hk2 : k < xs.length + ys.length := by omega
              rw [List.getElem?_append_left (by simpa using hk2)] at q1
              by_cases hk : k < xs.length
              · rw [List.getElem?_append_left hk] at q1
                have hj : j < de.size := by rw [← hxl _ _ q1]; exact (List.getElem?_eq_some_iff.1 q2).1
                have hkk := Nat.mul_le_mul_right de.size (show k + 1 ≤ xs.length from hk)
                rw [Nat.add_mul, Nat.one_mul] at hkk
                rw [if_neg (by omega), Array.getElem?_toList] at hu
                refine k6 (off + k) j y u ?_ ?_
                · have q1' : ((ws.drop off).take xs.length)[k]? = some cs := by rw [hxs]; exact q1
                  rw [List.getElem?_take, if_pos hk, List.getElem?_drop] at q1'
                  simp [get2, q1', q2]
                · rw [← hu, g2, Nat.add_mul, ← Nat.add_assoc]
              · rw [List.getElem?_append_right (by omega)] at q1
                have hj : j < de.size := by rw [← hyl _ _ q1]; exact (List.getElem?_eq_some_iff.1 q2).1
                have hi2 : k - xs.length < ys.length := (List.getElem?_eq_some_iff.1 q1).1
                have hkk := Nat.mul_le_mul_right de.size (show k - xs.length + 1 ≤ ys.length from hi2)
                rw [Nat.add_mul, Nat.one_mul] at hkk
                have hks : k * de.size = xs.length * de.size + (k - xs.length) * de.size := by rw [← Nat.add_mul]; congr 1; omega
                rw [if_pos (by rw [hnl]; omega)] at hu
                have : B.off + off * B.sz + k * de.size + j - (B.off + off * B.sz + xs.length * de.size) = (k - xs.length) * de.size + j := by omega
                rw [this] at hu
                exact hyr _ j y u (by simp [get2, q1, q2]) hu
          have hdisj : ∀ i e B' b', i ≠ id → upd (upd st.h id' none) id (some (Ent.row de.size (xs ++ ys ++ rest))) i = some e → ρ i = some B' → some b = some b' → B'.blk ≠ some b' := by
            intro i e B' b' hne hi hB' hbb
            cases hbb
            rw [upd_ne _ _ _ _ hne] at hi
            have hi' : i ≠ id' := fun e => by subst e; simp at hi
            exact r.hp.sep id' i _ e B B' b hrow (hh0 i e hi) (fun e => hi' e.symm) hB hB' hb
          have H' := HRel.replace (h' := upd (upd st.h id' none) id (some (Ent.row de.size (xs ++ ys ++ rest)))) r.hp (B0 := ⟨some b, B.off + off * B.sz, c, de.size⟩) hρ hold (upd_same ..) (upd_same ..) hdisj
            (fun b' p hb' hi => by cases hb'; exact r.hp.imm id' _ B b p hrow hB hb hi) hw (by simp) hrel
          have E' := Ext.replace (h' := upd (upd st.h id' none) id (some (Ent.row de.size (xs ++ ys ++ rest)))) r.hp (B0 := ⟨some b, B.off + off * B.sz, c, de.size⟩) hρ hold (upd_same ..) (upd_same ..)
            (fun b' hb' => by cases hb'; exact .inl ⟨id', _, B, hrow, hB, hb⟩) hw (by simp) rfl rfl rfl
          unfold Oper.wp
          rw [hexec _ _ hr]
          show After N st ρ I w id K (a.put o.dst _) _
          refine ⟨_, _, I, hK, ?_, by rw [put_h]; exact E', fun i B' h => ?_, by simp [St.new]⟩
          · refine SRel.put (st := ({ st with h := upd st.h id' none } : St).new id (.row de.size (xs ++ ys ++ rest))) ⟨r.sz, r.df, fun n => E'.vr r.hp (r.tm n), H', fun i B' h => ?_⟩ ?_ hd
            · show i < st.nx
              by_cases hi : i = id
              · subst hi; exact hid
              · rw [upd_ne _ _ _ _ hi] at h; exact r.nm i B' h
            · have := VR.ref (ρ := upd ρ id (some (⟨some b, B.off + off * B.sz, c, de.size⟩ : Base))) (I := I) (w := w.setRow b (cur.toList.take (B.off + off * B.sz + xs.length * de.size) ++ news ++ cur.toList.drop (B.off + off * B.sz + xs.length * de.size + news.length)).toArray) id de.size 0 (xs ++ ys).length b c _ (upd_same ..) rfl rfl (by simp) (by simpa using hroom) (by simpa using mlim_le hlim)
              simpa using this
          · by_cases hi : i = id
            · exact .inr (.inl hi)
            · rw [upd_ne _ _ _ _ hi] at h; exact .inl h
    · have hrest : ws.drop (off + len + ys.length) = [] := by
        refine List.drop_eq_nil_of_le ?_
        obtain ⟨B', g1, g2, g3, g4, g5, g6⟩ := r.hp.row id' _ ws hrow
        generalize hsv' : a.eval s = sv' at hsv hs1
        cases hsv with
        | ref0 _ _ _ ba B hB hcap =>
          rw [hB] at g1; cases g1
          rcases g6 with ⟨_, g6, _⟩ | ⟨_, _, _, _, _, _, g7, _⟩
          · rw [g6]; simp
          · omega
        | ref _ _ _ _ b c B hB hb hs0 hc1 hc2 hc3 =>
          simp only [Value.slice.injEq] at hs1
          obtain ⟨e1, e2, e3⟩ := hs1
          rw [hB] at g1; cases g1
          rcases g6 with ⟨_, g6, _⟩ | ⟨_, _, _, _, _, _, g7, _⟩
          · rw [g6]; simp
          · omega
      rw [hrest, List.append_nil] at hK
      exact grow sb xs.length sc olds (upd st.h id' none) hs1 rfl (by omega) hol (by rw [← hs1, F.size]; exact hof w.drew (fun _ _ => rfl) C.P) hxl hxr hh0 hK

end
end Go.AE
end

section
/- Abstract machine: more of slices. -/
namespace Go.AE

section
variable {C : Ctx} {N : Nat} {ρ : Names} {I : Imm} {w : World} {st : St} {a : Act} {id : Nat} {K : St → Prop} {o : Oper} {Q : Exit → Act → World → Prop}

theorem run_bounds (r : SRel N ρ I w st a) {n c l h : Nat} {lo hi : Option Operand} (hb : bounds n (lo.map st.ev) (hi.map st.ev) l h) (hnc : n ≤ c) (hhc : h ≤ c) :
    (Instr.sliceBounds true n c (lo.map a.eval) (hi.map a.eval) none).run C.P w = .ok (l, h, c) w := by
  obtain ⟨hlo, hhi, hlh⟩ := hb
  cases hi with
  | none =>
    simp only [Option.map_none] at hhi
    cases lo with
    | none => simp only [Option.map_none] at hlo; simp [Instr.sliceBounds, hhi, hlo]
    | some v =>
      obtain ⟨k, z, hz, h0, rfl⟩ := hlo
      have := r.ev v; rw [hz] at this
      simp [Instr.sliceBounds, this.int_inv, run_sliceBound (P := C.P) (w := w) (k := k) (y := n) (cd := .sliceB) h0 (by omega), hhi]
  | some v' =>
    obtain ⟨k', z', hz', h0', rfl⟩ := hhi
    have h' := r.ev v'; rw [hz'] at h'
    cases lo with
    | none => simp only [Option.map_none] at hlo; simp [Instr.sliceBounds, h'.int_inv, run_sliceBound (P := C.P) (w := w) (k := k') (y := c) (cd := .sliceAcap) h0' (by omega), hlo]
    | some v =>
      obtain ⟨k, z, hz, h0, rfl⟩ := hlo
      have := r.ev v; rw [hz] at this
      simp [Instr.sliceBounds, h'.int_inv, this.int_inv, run_sliceBound (P := C.P) (w := w) (k := k') (y := c) (cd := .sliceAcap) h0' (by omega),
        run_sliceBound (P := C.P) (w := w) (k := k) (y := z'.toNat) (cd := .sliceB) h0 (by omega)]

theorem run_boundsM (r : SRel N ρ I w st a) {n c l h : Nat} {lo hi : Option Operand} {m : Operand} {k : IntKind} {z : Int} (hm : st.ev m = .int k z) (hz0 : 0 ≤ z) (hzc : z.toNat ≤ c) (hhz : h ≤ z.toNat) (hsome : hi.isSome = true)
    (hb : bounds n (lo.map st.ev) (hi.map st.ev) l h) : (Instr.sliceBounds true n c (lo.map a.eval) (hi.map a.eval) (some (a.eval m))).run C.P w = .ok (l, h, z.toNat) w := by
  obtain ⟨hlo, hhi, hlh⟩ := hb
  have hmv := r.ev m; rw [hm] at hmv
  cases hi with
  | none => cases hsome
  | some v' =>
    obtain ⟨k', z', hz', h0', rfl⟩ := hhi
    have h' := r.ev v'; rw [hz'] at h'
    have e1 := run_sliceBound (P := C.P) (w := w) (k := k) (y := c) (cd := .slice3Acap) hz0 (by omega)
    have e2 := run_sliceBound (P := C.P) (w := w) (k := k') (y := z.toNat) (cd := .slice3B) h0' (by omega)
    cases lo with
    | none => simp only [Option.map_none] at hlo; simp [Instr.sliceBounds, hmv.int_inv, h'.int_inv, e1, e2, hlo]
    | some v =>
      obtain ⟨k2, z2, hz2, h02, rfl⟩ := hlo
      have := r.ev v; rw [hz2] at this
      simp [Instr.sliceBounds, hmv.int_inv, h'.int_inv, this.int_inv, e1, e2, run_sliceBound (P := C.P) (w := w) (k := k2) (y := z'.toNat) (cd := .slice3C) h02 (by omega)]

theorem s_sliceA (ok : C.Ok) (r : SRel N ρ I w st a) (hd : dstOk N o) (t x lo hi) (ho : o.op = .slice t x lo hi none) (h : sliceA C t x lo hi st fun v => K (st.put o.dst v)) : o.wp C.P a w (After N st ρ I w id K) Q := by
  obtain ⟨d, e, de, n, l, h', ht, he, hde, hl, ⟨hlo, hhi, hlh⟩, hhn, hK⟩ := h
  exact s_slice ok r hd t x lo hi ho ht he hde hl (by cases lo <;> exact hlo) (by cases hi <;> exact hhi) hlh hhn hK

theorem s_sliceFar (ok : C.Ok) (r : SRel N ρ I w st a) (hd : dstOk N o) (t x lo hi) (ho : o.op = .slice t x lo hi none) (h : sliceFar C t x lo hi st fun v => K (st.put o.dst v)) : o.wp C.P a w (After N st ρ I w id K) Q := by
  obtain ⟨d, e, de, n, l, h', id', s, off, ws, ht, he, hde, hx, hb, hrow, hs, hle, hK⟩ := h
  obtain ⟨i0, u0, z0, F⟩ := ok.facts hde
  have hsl := ok.slice ht he
  have hv := r.ev x
  rw [hx] at hv
  obtain ⟨B, g1, g2, g3, g4, g5, g6⟩ := r.hp.row id' _ ws hrow
  have hwc : ws.length ≤ B.cap := by
    rcases g6 with ⟨_, g6, _⟩ | ⟨_, _, _, _, _, _, g7, _⟩
    · rw [g6]; simp
    · exact g7
  have hlh := hb.2.2
  have hrun : ∀ ad c, a.eval x = .slice ad n c → n ≤ c → h' ≤ c →
      (execOp a.eval o).run C.P w = .ok (.value (.slice (if c = l then ad else ad.map (·.add (l * de.size))) (h' - l) (c - l))) w := by
    intro ad c hu hnc hhc
    have hb := run_bounds (C := C) r hb hnc hhc
    simp [execOp, ho, hu, Instr.sliceAt, Instr.slice, run_underlying hsl, hb, run_sizeOf' F.info, F.size]
  generalize hu : a.eval x = u at hv hrun
  cases hv with
  | ref0 _ _ _ ad B' hB hcap =>
    rw [g1] at hB; cases hB
    have hh0 : h' = 0 := by omega
    have hl0 : l = 0 := by omega
    subst hh0; subst hl0
    refine step_pure r hd (hrun _ _ rfl (Nat.le_refl _) (Nat.le_refl _)) ?_ hK
    simp
    exact .ref0 _ _ _ _ B g1 hcap
  | ref _ _ _ _ b c B' hB hb' hsz hc1 hc2 hc3 =>
    rw [g1] at hB; cases hB
    refine step_pure r hd (hrun _ _ rfl hc2 (by omega)) ?_ hK
    by_cases hcl : c = l
    · have hh : h' - l = 0 := by omega
      rw [hh, if_pos hcl, hcl, Nat.sub_self]
      exact .ref0 _ _ _ _ B g1 (by omega)
    · rw [if_neg hcl]
      simp only [Option.map_some, Addr.add_lit]
      have : B.off + off * B.sz + l * de.size = B.off + (off + l) * B.sz := by rw [hsz, hs, Nat.add_mul]; omega
      rw [this]
      exact .ref _ _ _ _ b _ B g1 hb' hsz (by omega) (by omega) (by omega)

theorem s_sliceMax (ok : C.Ok) (r : SRel N ρ I w st a) (hd : dstOk N o) (t x lo hi m) (ho : o.op = .slice t x lo hi (some m)) (h : sliceMax C t x lo hi m st (K (st.put o.dst .dead))) : o.wp C.P a w (After N st ρ I w id K) Q := by
  obtain ⟨d, e, de, n, l, h', k, z, hsome, ht, he, hde, hl, hb, hm, hz0, hhz, hzn, hK⟩ := h
  obtain ⟨i0, u0, z0, F⟩ := ok.facts hde
  have hsl := ok.slice ht he
  have hv := r.ev x
  have hrun : ∀ ad c, a.eval x = .slice ad n c → n ≤ c → ∃ v, (execOp a.eval o).run C.P w = .ok (.value v) w := by
    intro ad c hu hnc
    have hb := run_boundsM (C := C) (a := a) r hm hz0 (show z.toNat ≤ c by omega) hhz hsome hb
    exact ⟨_, by simp [execOp, ho, hu, Instr.sliceAt, Instr.slice, run_underlying hsl, hb, run_sizeOf' F.info, F.size]; rfl⟩
  have fin : (∃ v, (execOp a.eval o).run C.P w = .ok (.value v) w) → o.wp C.P a w (After N st ρ I w id K) Q := fun ⟨v, hv⟩ => step_pure r hd hv (.dead _) hK
  generalize hu : a.eval x = u at hv hrun
  generalize hxv : st.ev x = xv at hl hv
  cases hv <;> simp only [lenA, Option.some.injEq, Prod.mk.injEq, and_true, reduceCtorEq, Bool.false_eq_true, and_false] at hl
  case nil => subst hl; exact fin (hrun _ _ rfl (Nat.le_refl _))
  case viewNil => subst hl; exact fin (hrun _ _ rfl (Nat.zero_le _))
  case view p sz xs b off c h1 h2 h3 h4 h5 h6 => subst hl; exact fin (hrun _ _ rfl h3)
  case ref0 => subst hl; exact fin (hrun _ _ rfl (Nat.le_refl _))
  case ref id sz off len b c B h1 h2 h3 h4 h5 h6 => subst hl; exact fin (hrun _ _ rfl (by assumption))

theorem s_nilCmp (ok : C.Ok) (r : SRel N ρ I w st a) (hd : dstOk N o) (op t x y ty) (ho : o.op = .binOp op t x y ty) {d : TyD} (ht : C.ty t = some d) (he : d.elem.isSome = true)
    (h : nilCmp op (st.ev x) (st.ev y) fun b => K (st.put o.dst (.bool b))) : o.wp C.P a w (After N st ρ I w id K) Q := by
  obtain ⟨e, he⟩ := Option.isSome_iff_exists.1 he
  have hsl := ok.slice ht he
  have hxv := r.ev x
  have hyv := r.ev y
  have eqr : op = .eql → ∀ ad n c, a.eval x = .slice ad n c → a.eval y = .slice none 0 0 → (execOp a.eval o).run C.P w = .ok (.value (.bool ad.isNone)) w := by
    rintro rfl ad n c h1 h2
    simp only [execOp, ho]
    refine run_v (a := a) ?_
    rw [h1, h2]
    simp [eqGuard, run_eql_slice_nil w t e ad n c hsl]
  have ner : op = .neq → ∀ ad n c, a.eval x = .slice ad n c → a.eval y = .slice none 0 0 → (execOp a.eval o).run C.P w = .ok (.value (.bool !ad.isNone)) w := by
    rintro rfl ad n c h1 h2
    simp only [execOp, ho]
    refine run_v (a := a) ?_
    rw [h1, h2]
    simp [eqGuard, run_neq_slice_nil w t e ad n c hsl]
  generalize hxe : st.ev x = xa at h hxv
  generalize hye : st.ev y = ya at h hyv
  unfold nilCmp at h
  split at h
  · exact step_pure r hd (eqr rfl _ _ _ hxv.nil_inv hyv.nil_inv) (.bool _) h
  · exact step_pure r hd (ner rfl _ _ _ hxv.nil_inv hyv.nil_inv) (.bool _) h
  · generalize hu : a.eval x = u at hxv eqr
    cases hxv with
    | viewNil => exact step_pure r hd (eqr rfl _ _ _ rfl hyv.nil_inv) (.bool _) (h _ fun _ => rfl)
    | view => exact step_pure r hd (eqr rfl _ _ _ rfl hyv.nil_inv) (.bool _) (h _ fun hb => by cases hb)
  · generalize hu : a.eval x = u at hxv ner
    cases hxv with
    | viewNil => exact step_pure r hd (ner rfl _ _ _ rfl hyv.nil_inv) (.bool _) (h _ fun _ => rfl)
    | view => exact step_pure r hd (ner rfl _ _ _ rfl hyv.nil_inv) (.bool _) (h _ fun hb => by cases hb)
  · generalize hu : a.eval x = u at hxv eqr
    cases hxv with
    | ref0 => exact step_pure r hd (eqr rfl _ _ _ rfl hyv.nil_inv) (.bool _) (h _ fun _ => rfl)
    | ref => exact step_pure r hd (eqr rfl _ _ _ rfl hyv.nil_inv) (.bool _) (h _ fun hb => by cases hb)
  · generalize hu : a.eval x = u at hxv ner
    cases hxv with
    | ref0 => exact step_pure r hd (ner rfl _ _ _ rfl hyv.nil_inv) (.bool _) (h _ fun _ => rfl)
    | ref => exact step_pure r hd (ner rfl _ _ _ rfl hyv.nil_inv) (.bool _) (h _ fun hb => by cases hb)
  · exact h.elim

theorem run_clear_none {P : Program} {t ty e : TypeId} (ht : P.underlying t = some (.slice e)) (ad : Option Addr) (c : Nat) : (Builtin.clear_ #[t] ty #[.slice ad 0 c]).run P w = .ok (.tuple #[]) w := by
  cases ad <;> simp [Builtin.clear_, run_underlying ht]

theorem run_clear_some {P : Program} {t ty e : TypeId} {i : TypeInfo} {z : Value} (ht : P.underlying t = some (.slice e)) (hi : P.info? e = some i) (hz : i.zero = some z) (ad : Addr) (n c : Nat) :
    (Builtin.clear_ #[t] ty #[.slice (some ad) (n + 1) c]).run P w = ((storeCells ad (Builtin.zeroCells z.cells (n + 1)).toList).run P w).andThen fun _ w' => .ok (.tuple #[]) w' := by
  simp [Builtin.clear_, run_underlying ht, zeroValue, typeInfo, hi, hz]

theorem s_clear (ok : C.Ok) (r : SRel N ρ I w st a) (hd : dstOk N o) (x t) (ho : o.op = .call { callee := .builtin .clear, args := #[x], argTypes := #[t] }) {d e de} (ht : C.ty t = some d) (he : d.elem = some e) (hde : C.ty e = some de)
    {id' s off len : Nat} {ws : List (List AV)} (hx : st.ev x = .ref id' s off len) (hrow : st.h id' = some (.row s ws)) (hs : s = de.size) (hend : off + len = ws.length) (hone : de.zero.all AV.one = true)
    (hK : K ({ st with h := upd st.h id' (some (.row s (ws.take off))) }.put o.dst .dead)) : o.wp C.P a w (After N st ρ I w id K) Q := by
  obtain ⟨i, u, z, F⟩ := ok.facts hde
  have hsl := ok.slice ht he
  have hv := r.ev x
  rw [hx] at hv
  obtain ⟨B, g1, g2, g3, g4, g5, g6⟩ := r.hp.row id' _ ws hrow
  have hexec : ∀ v w', (Builtin.clear_ #[t] o.type #[a.eval x]).run C.P w = .ok v w' → (execOp a.eval o).run C.P w = .ok (.value v) w' := by
    intro v w' hr
    simp [execOp, ho, resolve, invoke, builtin, hr]
  have hones : ∀ u ∈ z.cells.toList, u.oneCell' = true := by
    intro u hu
    obtain ⟨j, hj⟩ := List.getElem?_of_mem hu
    have hlt : j < z.cells.size := by simpa using (List.getElem?_eq_some_iff.1 hj).1
    rw [F.zsize] at hlt
    have hlt' : j < de.zero.length := by rw [F.zlen]; exact hlt
    have := F.zvr j _ u (List.getElem?_eq_getElem hlt') (by simpa using hj) ρ I w
    refine this.oneCell ?_
    rw [List.all_eq_true] at hone
    exact hone _ (List.getElem_mem hlt')
  -- the row is forgotten from off on, whatever is written there
  have taken : ∀ (w' : World), (∀ b cur ty, B.blk = some b → w.heap[b]? = some (.cells cur ty (0, 0)) → ∃ cur', w'.heap[b]? = some (.cells cur' ty (0, 0)) ∧ cur'.size = cur.size ∧ ∀ k, k < B.off + off * s → cur'[k]? = cur[k]?) →
      (∀ x u, VR ρ I w x u → VR ρ I w' x u) → EntR ρ I w' id' (.row s (ws.take off)) := by
    intro w' hw hm
    refine ⟨B, g1, g2, g3, by simp; omega, fun i c hc => ?_, ?_⟩
    · rw [List.getElem?_take] at hc
      split at hc
      · exact g5 _ _ hc
      · cases hc
    · rcases g6 with ⟨q1, q2, q3⟩ | ⟨b, cur, ty, k1, k2, k3, k4, k5, k6⟩
      · exact .inl ⟨q1, by rw [q2]; simp, q3⟩
      · obtain ⟨cur', c1, c2, c3⟩ := hw b cur ty k1 k2
        refine .inr ⟨b, cur', ty, k1, c1, by rw [c2]; exact k3, by simp; omega, k5, fun i j y u hg hu => ?_⟩
        obtain ⟨cs, q1, q2⟩ := get2_some hg
        rw [List.getElem?_take] at q1
        split at q1
        · rename_i hi
          have hj : j < s := by rw [← g5 _ _ q1]; exact (List.getElem?_eq_some_iff.1 q2).1
          have hk := Nat.mul_le_mul_right s (show i + 1 ≤ off from hi)
          rw [Nat.add_mul, Nat.one_mul] at hk
          rw [c3 _ (by omega)] at hu
          exact hm _ _ (k6 i j y u (by simp [get2, q1, q2]) hu)
        · cases q1
  have same : (execOp a.eval o).run C.P w = .ok (.value (.tuple #[])) w → o.wp C.P a w (After N st ρ I w id K) Q := by
    intro hrun
    have hrel := taken w (fun b cur ty _ hc => ⟨cur, hc, rfl, fun _ _ => rfl⟩) (fun _ _ h => h)
    have H' := HRel.replace (h' := upd st.h id' (some (.row s (ws.take off)))) r.hp (w' := w) (ρ' := ρ) (B0 := B) (fun _ _ h => h) (fun i e hne h => by rwa [upd_ne _ _ _ _ hne] at h) (upd_same ..) g1
      (fun i e B' b' hne hi hB hb => r.hp.sep id' i _ e B B' b' hrow (by rwa [upd_ne _ _ _ _ hne] at hi) (Ne.symm hne) g1 hB hb) (fun b' p hb' => r.hp.imm id' _ B b' p hrow g1 hb') (fun _ _ _ => rfl) (Nat.le_refl _) hrel
    have E' := Ext.replace (h' := upd st.h id' (some (.row s (ws.take off)))) r.hp (w' := w) (ρ' := ρ) (B0 := B) (fun _ _ h => h) (fun i e hne h => by rwa [upd_ne _ _ _ _ hne] at h) (upd_same ..) g1
      (fun b' hb' => .inl ⟨id', _, B, hrow, g1, hb'⟩) (fun _ _ _ => rfl) (Nat.le_refl _) rfl rfl rfl
    unfold Oper.wp
    rw [hrun]
    show After N st ρ I w id K (a.put o.dst _) _
    refine ⟨_, ρ, I, hK, ?_, by rw [put_h]; exact E', fun i B h => .inl h, by simp⟩
    exact SRel.put (st := { st with h := upd st.h id' (some (.row s (ws.take off))) }) ⟨r.sz, r.df, r.tm, H', r.nm⟩ (.dead _) hd
  generalize hu : a.eval x = xv at hv hexec
  cases hv with
  | ref0 => exact same (hexec _ _ (run_clear_none hsl _ _))
  | ref _ _ _ _ b c B' hB hb hsz hc1 hc2 hc3 =>
    rw [g1] at hB; cases hB
    cases len with
    | zero => exact same (hexec _ _ (run_clear_none hsl _ _))
    | succ len =>
      rcases g6 with ⟨q1, _⟩ | ⟨b', cur, ty, k1, k2, k3, k4, k5, k6⟩
      · rw [hb] at q1; cases q1
      · rw [hb] at k1; cases k1
        have hzl : (Builtin.zeroCells z.cells (len + 1)).toList.length = (len + 1) * de.size := by
          rw [Array.length_toList, size_zeroCells, F.zsize]
        have hcap : (off + (len + 1)) * s ≤ B.cap * s := Nat.mul_le_mul_right s (by omega)
        rw [Nat.add_mul] at hcap
        have hz1 : ∀ v ∈ (Builtin.zeroCells z.cells (len + 1)).toList, v.oneCell' = true := by
          intro v hv
          simp only [Builtin.zeroCells, Array.toList_map, List.mem_map] at hv
          obtain ⟨k, hk, rfl⟩ := hv
          have hpos : 0 < z.cells.size := by rw [F.zsize, ← hs]; exact g3
          have hmod := Nat.mod_lt k hpos
          rw [getElem!_pos z.cells _ hmod]
          exact hones _ (by simp)
        have hst := run_storeCells_at C.P b (B.off + off * B.sz) ty (Builtin.zeroCells z.cells (len + 1)).toList 0 cur w k2 (by rw [hzl, hsz, ← hs]; omega) hz1
        simp only [Nat.add_zero] at hst
        have hr : (Builtin.clear_ #[t] o.type #[.slice (some ⟨b, B.off + off * B.sz, none⟩) (len + 1) c]).run C.P w = .ok (.tuple #[]) (w.setRow b (cur.toList.take (B.off + off * B.sz) ++ (Builtin.zeroCells z.cells (len + 1)).toList ++ cur.toList.drop (B.off + off * B.sz + (Builtin.zeroCells z.cells (len + 1)).toList.length)).toArray) := by
          rw [run_clear_some (ty := o.type) hsl F.info F.zero, hst]; rfl
        have hrun := hexec _ _ hr
        have hsp : B.off + off * B.sz + (Builtin.zeroCells z.cells (len + 1)).toList.length ≤ cur.toList.length := by rw [hzl, hsz, ← hs, Array.length_toList]; omega
        have hrel : EntR ρ I (w.setRow b (cur.toList.take (B.off + off * B.sz) ++ (Builtin.zeroCells z.cells (len + 1)).toList ++ cur.toList.drop (B.off + off * B.sz + (Builtin.zeroCells z.cells (len + 1)).toList.length)).toArray) id' (.row s (ws.take off)) := by
          refine taken _ (fun b2 cur2 ty2 hb2 hc2 => ?_) (fun x u hv => hv.mono (fun _ _ h => h) (fun _ _ h => h) fun p k hk => setRow_other w b k _ (by rintro rfl; exact r.hp.imm id' _ B k p hrow g1 hb hk))
          rw [hb] at hb2; cases hb2
          rw [k2] at hc2; cases hc2
          refine ⟨_, setRow_heap w b cur _ ty _ k2, ?_, fun k hk => ?_⟩
          · have e2 := splice_len cur.toList (Builtin.zeroCells z.cells (len + 1)).toList (B.off + off * B.sz) hsp
            rw [List.size_toArray, e2, Array.length_toList]
          · have e2 := splice_get cur.toList (Builtin.zeroCells z.cells (len + 1)).toList (B.off + off * B.sz) k hsp
            rw [List.getElem?_toArray, e2, if_neg (by rw [hsz]; omega), Array.getElem?_toList]
        obtain ⟨H', E'⟩ := change_ext (h' := upd st.h id' (some (.row s (ws.take off)))) (cur' := (cur.toList.take (B.off + off * B.sz) ++ (Builtin.zeroCells z.cells (len + 1)).toList ++ cur.toList.drop (B.off + off * B.sz + (Builtin.zeroCells z.cells (len + 1)).toList.length)).toArray) r.hp hrow g1 hb k2
          (fun i e' hne h => by rwa [upd_ne _ _ _ _ hne] at h) (upd_same ..) hrel
        unfold Oper.wp
        rw [hrun]
        show After N st ρ I w id K (a.put o.dst _) _
        refine ⟨_, ρ, I, hK, ?_, by rw [put_h]; exact E', fun i B h => .inl h, by simp⟩
        exact SRel.put (st := { st with h := upd st.h id' (some (.row s (ws.take off))) }) ⟨r.sz, r.df, fun n => E'.vr r.hp (r.tm n), H', r.nm⟩ (.dead _) hd
end
end Go.AE
end

section
/- Abstract machine: the capacity of nil; an append of new zeros to nil. -/
namespace Go.AE

section
variable {C : Ctx} {N : Nat} {ρ : Names} {I : Imm} {w : World} {st : St} {a : Act} {id : Nat} {K : St → Prop} {o : Oper} {Q : Exit → Act → World → Prop}

theorem s_cap (ok : C.Ok) (r : SRel N ρ I w st a) (hd : dstOk N o) (x t) (ho : o.op = .call { callee := .builtin .cap, args := #[x], argTypes := #[t] }) {d e}
    (ht : C.ty t = some d) (he : d.elem = some e) (hx : st.ev x = .nil) (h : K (st.put o.dst (.int .i64 0))) : o.wp C.P a w (After N st ρ I w id K) Q := by
  have h1 := r.ev x
  rw [hx] at h1
  have hs := ok.slice ht he
  refine step_pure (v := .int .i64 0) r hd ?_ (.int _ _) h
  simp [execOp, ho, resolve, invoke, builtin, h1.nil_inv, Builtin.cap_, run_underlying hs, goInt]

theorem run_append_zeros {P : Program} {t t' ty e : TypeId} {i : TypeInfo} {z : Value} {k : IntKind} (ht : P.underlying t = some (.slice e)) (ht' : P.underlying t' = some (.int k)) (hi : P.info? e = some i) (hz : i.zero = some z) {n : Nat}
    (hn : 0 < n) (hs : 0 < i.size) (hm : n ≤ MLIM) (hb : i.bytes ≤ 128) :
    (Builtin.append_ #[t, t'] ty #[.slice none 0 0, .int .i64 n]).run P w =
      .ok (.slice (some ⟨w.heap.size, 0, none⟩) n (grownCap w n 0 e)) (w.drew.alloc (.cells (Builtin.zeroCells z.cells n ++ Builtin.zeroCells z.cells (grownCap w n 0 e - n)) e)) := by
  have hbytes : n * i.bytes ≤ 140737488355328 := by
    have h1 := Nat.mul_le_mul hm hb
    simp only [MLIM] at h1; omega
  simp only [MLIM] at hm
  have hw : IntKind.i64.wrap (n : Int) = n := by
    unfold IntKind.wrap
    simp [IntKind.bits, IntKind.signed]
    omega
  have g1 : ¬ ((n : Int) < 0) := by omega
  have g2 : ¬ (281474976710656 < (n : Int) * (i.bytes : Int)) := by
    have : ((n * i.bytes : Nat) : Int) ≤ 140737488355328 := by omega
    rw [Int.natCast_mul] at this; omega
  have g3 : ¬ (n = 0) := by omega
  have g4 : ¬ (9223372036854775807 < (n : Int)) := by omega
  have g5 : Builtin.nextslicecap n 0 = n := by simp [Builtin.nextslicecap]; omega
  have g6 : ¬ (281474976710656 < n * i.bytes) := by omega
  have g7 : ¬ (i.size = 0) := by omega
  simp [Builtin.append_, run_underlying ht, run_underlying ht', sizeOf, typeInfo, zeroValue, hi, hz, asInt, asIntOf, hw, g1, g2, g3, g4, g5, g6, g7, Question.forced, newRow, grownCap, Builtin.firstCells]
  intro h0
  rcases Nat.mul_eq_zero.1 h0 with h | h <;> omega

theorem s_appZ (ok : C.Ok) (r : SRel N ρ I w st a) (hd : dstOk N o) (hn : ρ id = none) (hid : id < st.nx) (s x t t') (ho : o.op = .call { callee := .builtin .append, args := #[s, x], argTypes := #[t, t'] })
    (h : zerA C id (st.ev s) (st.ev x) t t' st fun r s' => K (s'.put o.dst r)) : o.wp C.P a w (After N st ρ I w id K) Q := by
  obtain ⟨d, e, de, d', k, n, ht, he, hde, hpos, hby, ht', hk, hs, hx, hn0, hlim, hK⟩ := h
  obtain ⟨i, u, z, F⟩ := ok.facts hde
  have hsl := ok.slice ht he
  have hin := ok.int ht' hk
  have hsv := (hs ▸ r.ev s : VR ρ I w .nil (a.eval s)).nil_inv
  have hxv := (hx ▸ r.ev x : VR ρ I w (.int .i64 n) (a.eval x)).int_inv
  have hnn : n ≤ LIM := mlim_le hlim
  have hr := run_append_zeros (P := C.P) (w := w) (ty := o.type) hsl hin F.info F.zero hn0 (by rw [F.size]; exact hpos) hlim (by rw [F.bytes]; exact hby)
  have hge := grownCap_ge w n 0 e
  have hcm : grownCap w n 0 e ≤ maxLen := grownCap_le_maxLen w _ 0 e (by simp only [MLIM] at hlim; simp only [maxLen]; omega)
  generalize hnc : grownCap w n 0 e = nc at hr hge hcm
  have hexec : (execOp a.eval o).run C.P w = .ok (.value (.slice (some ⟨w.heap.size, 0, none⟩) n nc)) (w.drew.alloc (.cells (Builtin.zeroCells z.cells n ++ Builtin.zeroCells z.cells (nc - n)) e)) := by
    simp [execOp, ho, resolve, invoke, builtin, hsv, hxv, hr]
  have hfl := zeroRow_flat (ρ := ρ) (I := I) (w := w) (z := z) (d := de) (n := n) hpos F.zlen F.zsize (fun j x u hx hu => F.zvr j x u hx hu ρ I w)
  have hzc : Builtin.zeroCells z.cells n = (Array.range (n * de.size)).map (z.cells[· % z.cells.size]!) := by
    simp only [Builtin.zeroCells, F.zsize]
  have hsize : (Builtin.zeroCells z.cells n ++ Builtin.zeroCells z.cells (nc - n)).size = nc * de.size := by
    simp [size_zeroCells, F.zsize]
    rw [← Nat.add_mul]
    congr 1; omega
  have hlen : (List.replicate n de.zero).length = n := by simp
  have hmono : ∀ x u, VR ρ I w x u → VR (upd ρ id (some ⟨some w.heap.size, 0, nc, de.size⟩)) I (w.drew.alloc (.cells (Builtin.zeroCells z.cells n ++ Builtin.zeroCells z.cells (nc - n)) e)) x u :=
    fun x u hv => hv.mono (fun j B' hB => by
      have : j ≠ id := fun e => by subst e; rw [hn] at hB; cases hB
      rw [upd_ne _ _ _ _ this]; exact hB) (fun _ _ h => h) (fun p b hb => heap_alloc_old w.drew _ _ (r.hp.immlt p b hb))
  refine s_new (B0 := ⟨some w.heap.size, 0, nc, de.size⟩) (h0 := st.h) r hd hn hid hexec (fun _ _ h => h) (.inr rfl) (fun k hk => heap_alloc_old w.drew _ k hk) (by simp) rfl rfl rfl ?_ ?_ hK
  · refine ⟨_, upd_same .., rfl, hpos, by rw [hlen]; exact hnn, hfl.2.1, .inr ⟨w.heap.size, _, e, rfl, heap_alloc_new w.drew _, by simp only [Nat.zero_add]; rw [hsize]; exact Nat.le_refl _, by rw [hlen]; exact hge, hcm, fun k j y u hg hu => hmono _ _ ?_⟩⟩
    simp only [Nat.zero_add] at hu
    refine hfl.2.2 k j y u hg ?_
    rw [← hu, Array.getElem?_append_left, hzc]
    obtain ⟨cs, q1, q2⟩ := get2_some hg
    have hk : k < n := by have := (List.getElem?_eq_some_iff.1 q1).1; simpa using this
    have hj : j < de.size := by rw [← hfl.2.1 k cs q1]; exact (List.getElem?_eq_some_iff.1 q2).1
    have := Nat.mul_le_mul_right de.size (show k + 1 ≤ n from hk)
    rw [Nat.add_mul, Nat.one_mul] at this
    simp [size_zeroCells, F.zsize]; omega
  · have := VR.ref (ρ := upd ρ id (some ⟨some w.heap.size, 0, nc, de.size⟩)) (I := I) (w := w.drew.alloc (.cells (Builtin.zeroCells z.cells n ++ Builtin.zeroCells z.cells (nc - n)) e)) id de.size 0 n w.heap.size nc _ (upd_same ..) rfl rfl (by simp) hge hnn
    simpa using this

end
end Go.AE
end
