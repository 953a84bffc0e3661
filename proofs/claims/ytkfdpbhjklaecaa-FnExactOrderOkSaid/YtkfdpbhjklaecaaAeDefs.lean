/- Abstract machine: values, heap, relation to the model's memory; a predicate transformer over the model's code. -/
import Derived.ProofKit
import Derived.Calls
import Derived.Orders
import Derived.Laws.Rows
import Derived.Laws.Cells
import Derived.Laws.AppendOwn
namespace Go.AE

inductive AV where
  | bool (b : Bool)
  | int (k : IntKind) (n : Int)
  | str (s : ByteArray)
  | nil
  | view (p : Bool) (sz : Nat) (xs : List (List AV))
  | ref (id sz off len : Nat)
  | ptr (id off : Nat)
  | ep (id idx off : Nat)
  | vptr (cells : List AV)
  | fn (f : FuncId) (caps : List AV)
  | agg (cells : List AV)
  | tup (vs : List AV)
  | dead

def LIM : Nat := 1099511627776

def AV.cells : AV → List AV
  | .agg cs => cs
  | v => [v]

/-- One cell may hold it, and it is known. -/
def AV.one : AV → Bool
  | .agg _ | .tup _ | .dead => false
  | _ => true
def AV.known : AV → Bool
  | .dead => false
  | _ => true

inductive Ent where
  | obj (cells : List AV)
  | row (sz : Nat) (xs : List (List AV))

abbrev Heap := Nat → Option Ent

structure Base where
  blk : Option Nat
  off : Nat
  cap : Nat
  sz : Nat

def get2 (xs : List (List AV)) (i j : Nat) : Option AV := (xs[i]?).bind (·[j]?)

abbrev Names := Nat → Option Base
abbrev Imm := Bool → Nat → Prop

inductive VR (ρ : Names) (I : Imm) (w : World) : AV → Value → Prop
  | bool (b : Bool) : VR ρ I w (.bool b) (.bool b)
  | int (k : IntKind) (n : Int) : VR ρ I w (.int k n) (.int k n)
  | str (s : ByteArray) : VR ρ I w (.str s) (.string s)
  | nil : VR ρ I w .nil (.slice none 0 0)
  | viewNil (p : Bool) (sz : Nat) (a : Option Addr) (c : Nat) : VR ρ I w (.view p sz []) (.slice a 0 c)
  | view (p : Bool) (sz : Nat) (xs : List (List AV)) (b off c : Nat) : I p b → xs.length ≤ LIM → xs.length ≤ c →
      (∀ (i : Nat) x, xs[i]? = some x → x.length = sz) →
      (∀ (i j : Nat) x, get2 xs i j = some x → ∃ u, w.cell? ⟨b, off + i * sz + j, none⟩ = some u) →
      (∀ (i j : Nat) x u, get2 xs i j = some x → w.cell? ⟨b, off + i * sz + j, none⟩ = some u → VR ρ I w x u) →
      VR ρ I w (.view p sz xs) (.slice (some ⟨b, off, none⟩) xs.length c)
  | ref0 (id sz off : Nat) (a : Option Addr) (B : Base) : ρ id = some B → VR ρ I w (.ref id sz off 0) (.slice a 0 0)
  | ref (id sz off len b c : Nat) (B : Base) : ρ id = some B → B.blk = some b → B.sz = sz → off + c ≤ B.cap → len ≤ c → len ≤ LIM →
      VR ρ I w (.ref id sz off len) (.slice (some ⟨b, B.off + off * B.sz, none⟩) len c)
  | ptr (id off b : Nat) (B : Base) : ρ id = some B → B.blk = some b → VR ρ I w (.ptr id off) (.pointer (some ⟨b, off, none⟩))
  | ep (id idx off b : Nat) (B : Base) : ρ id = some B → B.blk = some b →
      VR ρ I w (.ep id idx off) (.pointer (some ⟨b, B.off + idx * B.sz + off, none⟩))
  | vptr (cells : List AV) (p : Bool) (b o : Nat) : I p b →
      (∀ (i : Nat) x, cells[i]? = some x → ∃ u, w.cell? ⟨b, o + i, none⟩ = some u) →
      (∀ (i : Nat) x u, cells[i]? = some x → w.cell? ⟨b, o + i, none⟩ = some u → VR ρ I w x u) →
      VR ρ I w (.vptr cells) (.pointer (some ⟨b, o, none⟩))
  | fn (f : FuncId) (caps : List AV) (vs : Array Value) : vs.size = caps.length →
      (∀ (i : Nat) x u, caps[i]? = some x → vs[i]? = some u → VR ρ I w x u) → VR ρ I w (.fn f caps) (.func (.func f) #[] vs)
  | agg (cells : List AV) (vs : Array Value) : vs.size = cells.length →
      (∀ (i : Nat) x u, cells[i]? = some x → vs[i]? = some u → VR ρ I w x u) → VR ρ I w (.agg cells) (.agg vs)
  | tup (cells : List AV) (vs : Array Value) : vs.size = cells.length →
      (∀ (i : Nat) x u, cells[i]? = some x → vs[i]? = some u → VR ρ I w x u) → VR ρ I w (.tup cells) (.tuple vs)
  | dead (v : Value) : VR ρ I w .dead v

/-- What a row's content is in a block. -/
def RowR (ρ : Names) (I : Imm) (w : World) (id sz : Nat) (xs : List (List AV)) : Prop :=
  ∃ B, ρ id = some B ∧ B.sz = sz ∧ 0 < sz ∧ xs.length ≤ LIM ∧ (∀ (i : Nat) x, xs[i]? = some x → x.length = sz) ∧
  ((B.blk = none ∧ xs = [] ∧ B.cap = 0) ∨
   ∃ b cur ty, B.blk = some b ∧ w.heap[b]? = some (.cells cur ty (0, 0)) ∧ B.off + B.cap * sz ≤ cur.size ∧
     xs.length ≤ B.cap ∧ B.cap ≤ maxLen ∧
     ∀ (i j : Nat) x u, get2 xs i j = some x → cur[B.off + i * sz + j]? = some u → VR ρ I w x u)

def ObjR (ρ : Names) (I : Imm) (w : World) (id : Nat) (cells : List AV) : Prop :=
  ∃ B b cur ty, ρ id = some B ∧ B.blk = some b ∧ w.heap[b]? = some (.cells cur ty (0, 0)) ∧
    cur.size = cells.length ∧ ∀ (i : Nat) x u, cells[i]? = some x → cur[i]? = some u → VR ρ I w x u

structure HRel (ρ : Names) (I : Imm) (w : World) (h : Heap) : Prop where
  obj : ∀ id cells, h id = some (.obj cells) → ObjR ρ I w id cells
  row : ∀ id sz xs, h id = some (.row sz xs) → RowR ρ I w id sz xs
  sep : ∀ id id' e e' B B' b, h id = some e → h id' = some e' → id ≠ id' → ρ id = some B → ρ id' = some B' → B.blk = some b → B'.blk ≠ some b
  imm : ∀ id e B b p, h id = some e → ρ id = some B → B.blk = some b → ¬ I p b
  immlt : ∀ p b, I p b → b < w.heap.size

/-- Block b belongs to an entry. -/
def Owns (h : Heap) (ρ : Names) (b : Nat) : Prop := ∃ id e B, h id = some e ∧ ρ id = some B ∧ B.blk = some b

/-- What has become of the world, between two related states. -/
structure Ext (h : Heap) (ρ : Names) (I : Imm) (w : World) (h' : Heap) (ρ' : Names) (I' : Imm) (w' : World) : Prop where
  rho : ∀ id B, ρ id = some B → ρ' id = some B
  imm : ∀ p b, I p b → I' p b
  bor : ∀ b, I' false b → I false b
  immN : ∀ b, I' true b → I true b ∨ Owns h ρ b ∨ w.heap.size ≤ b
  own : ∀ b, Owns h' ρ' b → Owns h ρ b ∨ w.heap.size ≤ b
  os : w'.os = w.os
  tape : w'.tape = w.tape
  output : w'.output = w.output
  size : w.heap.size ≤ w'.heap.size
  frame : ∀ k, k < w.heap.size → ¬ Owns h ρ k → w'.heap[k]? = w.heap[k]?

theorem VR.mono {ρ ρ' : Names} {I I' : Imm} {w w' : World} {x : AV} {u : Value} (h : VR ρ I w x u)
    (hr : ∀ id B, ρ id = some B → ρ' id = some B) (hI : ∀ p b, I p b → I' p b) (hw : ∀ p b, I p b → w'.heap[b]? = w.heap[b]?) :
    VR ρ' I' w' x u := by
  have hc : ∀ p b o, I p b → w'.cell? ⟨b, o, none⟩ = w.cell? ⟨b, o, none⟩ := fun p b o hb => World.cell?_of_block (a := ⟨b, o, none⟩) (hw p b hb)
  induction h with
  | bool b => exact .bool b
  | int k n => exact .int k n
  | str s => exact .str s
  | nil => exact .nil
  | viewNil p sz a c => exact .viewNil p sz a c
  | view p sz xs b off c h1 h2 h3 h4 h5 h6 ih =>
    refine .view p sz xs b off c (hI _ _ h1) h2 h3 h4 (fun i j x hx => ?_) (fun i j x u hx hu => ?_)
    · rw [hc _ _ _ h1]; exact h5 i j x hx
    · rw [hc _ _ _ h1] at hu; exact ih i j x u hx hu
  | ref0 id sz off a B h1 => exact .ref0 id sz off a B (hr _ _ h1)
  | ref id sz off len b c B h1 h2 h3 h4 h5 h6 => exact .ref id sz off len b c B (hr _ _ h1) h2 h3 h4 h5 h6
  | ptr id off b B h1 h2 => exact .ptr id off b B (hr _ _ h1) h2
  | ep id idx off b B h1 h2 => exact .ep id idx off b B (hr _ _ h1) h2
  | vptr cells p b o h1 h2 h3 ih =>
    refine .vptr cells p b o (hI _ _ h1) (fun i x hx => ?_) (fun i x u hx hu => ?_)
    · rw [hc _ _ _ h1]; exact h2 i x hx
    · rw [hc _ _ _ h1] at hu; exact ih i x u hx hu
  | fn f caps vs h1 h2 ih => exact .fn f caps vs h1 ih
  | agg cells vs h1 h2 ih => exact .agg cells vs h1 ih
  | tup cells vs h1 h2 ih => exact .tup cells vs h1 ih
  | dead v => exact .dead v

theorem HRel.not_imm {ρ I w h} (hr : HRel ρ I w h) {p b} (hb : I p b) : ¬ Owns h ρ b := fun ⟨id, e, B, h1, h2, h3⟩ => hr.imm id e B b p h1 h2 h3 hb

theorem Ext.vr {h h' ρ ρ' I I' w w' x u} (e : Ext h ρ I w h' ρ' I' w') (hr : HRel ρ I w h) (hv : VR ρ I w x u) : VR ρ' I' w' x u :=
  hv.mono e.rho e.imm fun p b hb => e.frame b (hr.immlt p b hb) (hr.not_imm hb)

theorem Ext.refl {h ρ I w} : Ext h ρ I w h ρ I w where
  rho _ _ h := h
  imm _ _ h := h
  bor _ h := h
  immN _ h := .inl h
  own _ h := .inl h
  os := rfl
  tape := rfl
  output := rfl
  size := Nat.le_refl _
  frame _ _ _ := rfl

theorem Ext.trans {h h1 h2 ρ ρ1 ρ2 I I1 I2 w w1 w2} (a : Ext h ρ I w h1 ρ1 I1 w1) (b : Ext h1 ρ1 I1 w1 h2 ρ2 I2 w2) :
    Ext h ρ I w h2 ρ2 I2 w2 where
  rho id B hi := b.rho id B (a.rho id B hi)
  imm p q h := b.imm _ _ (a.imm _ _ h)
  bor q h := a.bor _ (b.bor _ h)
  immN q h := by
    rcases b.immN q h with h | h | h
    · exact a.immN q h
    · exact .inr (a.own q h)
    · exact .inr (.inr (Nat.le_trans a.size h))
  own q h := by
    rcases b.own q h with h | h
    · exact a.own q h
    · exact .inr (Nat.le_trans a.size h)
  os := b.os.trans a.os
  tape := b.tape.trans a.tape
  output := b.output.trans a.output
  size := Nat.le_trans a.size b.size
  frame k hk hno := by
    rw [b.frame k (Nat.lt_of_lt_of_le hk a.size) fun ho => ?_]
    · exact a.frame k hk hno
    · rcases a.own k ho with h | h
      · exact hno h
      · omega

end Go.AE
