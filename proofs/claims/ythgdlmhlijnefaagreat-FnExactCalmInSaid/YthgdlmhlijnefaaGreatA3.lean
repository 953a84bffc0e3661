/- An abstract machine over the model: its states, its steps, and that what it shows holds of the model. -/
import Derived.Test.YthgdlmhlijnefaaGreatA2
import Derived.ChangeShapes
import Derived.Deep.Slices
import Derived.DataReads
import Derived.Below
import Derived.WideShapes
import GoSem.ClaimJoined
section
/- What the reference's conditions answer, against the program's. -/
namespace Go.AE
set_option linter.unusedVariables false
theorem pickI_rest {t : List Nod} {l : List Evt} {i : Nat} {acc : List Int} (hi : i < t.length) (h : acc ++ pickI (fun i _ => (firstOf t l i).isSome) (fun i _ => i) (t.drop i) i = doneBy t l) :
    (if (firstOf t l i).isSome then acc ++ [(i : Int)] else acc) ++ pickI (fun i _ => (firstOf t l i).isSome) (fun i _ => i) (t.drop (i + 1)) ((i + 1 : Nat) : Int) = doneBy t l := by
  rw [drop_gt hi, pickI_cons] at h
  rw [← h]
  split <;> simp
theorem told_rest {l : List Bool} {i : Nat} {acc : List Int} (hi : i < l.length) (h : acc ++ pickI (fun _ b => b) (fun i _ => i) (l.drop i) i = toldOf l) :
    (if gt l (i : Int) then acc ++ [(i : Int)] else acc) ++ pickI (fun _ b => b) (fun i _ => i) (l.drop (i + 1)) ((i + 1 : Nat) : Int) = toldOf l := by
  rw [drop_gt hi, pickI_cons] at h
  rw [← h]
  split <;> simp
theorem doneN_idx {t : List Nod} {l : List Evt} {n : Int} (h : isIn n t = true) : doneN t l n = decide (0 ≤ idxI (fun e => (chain t n).contains e.node) l 0) := by
  rw [doneN, h, Bool.true_and, firstOf_idx]
  split
  · rename_i g; symm; rw [Option.isSome_none, decide_eq_false_iff_not]; omega
  · rename_i g; symm; rw [Option.isSome_some, decide_eq_true_eq]; omega
theorem heard_eq {t : List Nod} {l : List Evt} {told : List Bool} (hl : told.length = t.length) : (toldOf told == doneBy t l) = allI (fun i _ => gt told i == doneN t l i) t 0 := by
  rw [Bool.eq_iff_iff, beq_iff_eq, toldOf, doneBy, pickI_eq hl, allI_iff]
  constructor
  · intro h i hi
    have := h i (by omega) hi
    rw [Int.zero_add] at this ⊢
    rw [beq_iff_eq, gt_nat (by omega : i < told.length), doneN, this]
    have : isIn (i : Int) t = true := by rw [isIn_true]; omega
    rw [this, Bool.true_and]
  · intro h i h1 h2
    have := h i h2
    rw [Int.zero_add] at this ⊢
    rw [beq_iff_eq, gt_nat h1, doneN] at this
    have e : isIn (i : Int) t = true := by rw [isIn_true]; omega
    rw [e, Bool.true_and] at this
    exact this
/-- What the reference asks of a node. -/
def belowS (t : List Nod) (l : List Evt) (i : Int) (n : Nod) : Bool := if n.kind == 0 || n.kind == 4 then !doneN t l i else !(doneN t l n.up && !doneN t l i)
theorem belowS_eq {t : List Nod} {l : List Evt} (ht : treeOk t = true) {i : Int} (h0 : 0 ≤ i) (h1 : i < t.length) : belowB t l i (gt t i) = belowS t l i (gt t i) := by
  have hn := treeOk_at ht h0 h1
  unfold belowB belowS
  by_cases k0 : (gt t i).kind = 0
  · have : (gt t i).up = -1 := by
      rw [isNode_eq, Bool.and_eq_true] at hn
      simpa [k0] using hn.2
    have hd : doneN t l (gt t i).up = false := by rw [doneN, this]; simp [isIn, inR]
    rw [hd]; simp [k0]
  · by_cases k4 : (gt t i).kind = 4
    · simp [k4]
    · have e0 : ((gt t i).kind == 0) = false := by simpa using k0
      have e4 : ((gt t i).kind == 4) = false := by simpa using k4
      have e5 : ((gt t i).kind != 4) = true := by simpa using k4
      rw [e0, e4, e5]; cases doneN t l i <;> simp
theorem left1_in {w : Wld} (h : wldOk w = true) {i : Int} (h0 : 0 ≤ i) (h1 : i < w.tasks.length) :
    0 ≤ (gt w.tasks i).prog ∧ (gt w.tasks i).prog < w.progs.length ∧ 0 ≤ (gt w.tasks i).pc ∧ (gt w.tasks i).pc ≤ (gt w.progs (gt w.tasks i).prog).length ∧ (gt w.progs (gt w.tasks i).prog).length ≤ 12 := by
  have a := isTask_in (wldOk_task h h0 h1)
  have b := tskOk_facts (tasksOk_at (wldOk_tasks h) h0 h1)
  have c := wldOk_progs h a.1 a.2.1
  omega
end Go.AE
end

section
/- Abstract machine: what the arguments read as. -/
namespace Go.AE
open Go.ChangeShapes Go.Deep
set_option linter.unusedVariables false
set_option linter.unusedSimpArgs false

/-- Shapes of plain data; 'nil' and 'cons' are a struct's fields. -/
inductive Sh where
  | int (k : IntKind)
  | bool
  | str
  | slice (e : Sh)
  | nil
  | cons (s r : Sh)

def Sh.size : Sh → Nat
  | .nil => 0
  | .cons s r => s.size + r.size
  | _ => 1
def Sh.flat : Sh → Bool
  | .int _ | .bool | .nil => true
  | .cons s r => s.flat && r.flat
  | _ => false

/-- What values have the shape; B bounds lengths. -/
def ShR (B : Nat) : Sh → List AV → Prop
  | .int k, l => ∃ n, l = [.int k n] ∧ (Lit.int k n).wf = true
  | .bool, l => ∃ b, l = [.bool b]
  | .str, l => ∃ s, l = [.str s] ∧ s.size ≤ B
  | .slice e, l => l = [.nil] ∨ ∃ xs, l = [.view true e.size xs] ∧ xs.length ≤ B ∧ ∀ c ∈ xs, ShR B e c
  | .nil, l => l = []
  | .cons s r, l => ∃ x y, l = x ++ y ∧ ShR B s x ∧ ShR B r y

theorem ShR.length {B : Nat} : ∀ {s : Sh} {l : List AV}, ShR B s l → l.length = s.size
  | .int k, l, ⟨n, h, _⟩ => by subst h; rfl
  | .bool, l, ⟨n, h⟩ => by subst h; rfl
  | .str, l, ⟨n, h, _⟩ => by subst h; rfl
  | .slice e, l, h => by rcases h with h | ⟨xs, h, _⟩ <;> subst h <;> rfl
  | .nil, l, h => by simp only [ShR] at h; subst h; rfl
  | .cons s r, l, ⟨x, y, h, h1, h2⟩ => by subst h; simp [Sh.size, h1.length, h2.length]

def fsOk (P : Program) (ok : TypeId → Sh → Bool) : Nat → List Field → Sh → Bool
  | _, [], .nil => true
  | off, f :: fs, .cons a b => f.offset == off && ok f.type a && P.cellsOf f.type == a.size && fsOk P ok (off + a.size) fs b
  | _, _, _ => false
def shOk (P : Program) : Nat → TypeId → Sh → Bool
  | 0, _, _ => false
  | n + 1, t, s =>
    match P.underlying t, s with
    | some (.int k), .int k' => decide (k = k')
    | some .bool, .bool => true
    | some .string, .str => true
    | some (.slice e), .slice s => shOk P n e s && P.cellsOf e == s.size && decide (0 < s.size)
    | some (.struct fs), s => fsOk P (shOk P n) 0 fs.toList s && P.cellsOf t == s.size
    | _, _ => false

section
variable {H : Type} {enc : TypeId × Value → H} {P : Program} {w : World} {base : Nat} {spare : Nat → Bool} {held : Bool} {ρ : Names} {I : Imm}

def VRl (ρ : Names) (I : Imm) (w : World) (l : List AV) (cs : List Value) : Prop := cs.length = l.length ∧ ∀ (i : Nat) a u, l[i]? = some a → cs[i]? = some u → VR ρ I w a u

theorem VRl.one {a : AV} {u : Value} (h : VR ρ I w a u) : VRl ρ I w [a] [u] := ⟨rfl, fun i x v hx hv => by
  cases i with
  | zero => simp at hx hv; subst hx; subst hv; exact h
  | succ => simp at hx⟩
theorem VRl.append {a b : List AV} {u v : List Value} (h1 : VRl ρ I w a u) (h2 : VRl ρ I w b v) : VRl ρ I w (a ++ b) (u ++ v) := by
  refine ⟨by simp [h1.1, h2.1], fun i x y hx hy => ?_⟩
  by_cases hi : i < a.length
  · rw [List.getElem?_append_left hi] at hx
    rw [List.getElem?_append_left (by rw [h1.1]; exact hi)] at hy
    exact h1.2 i x y hx hy
  · rw [List.getElem?_append_right (by omega)] at hx
    rw [List.getElem?_append_right (by rw [h1.1]; omega), h1.1] at hy
    exact h2.2 _ x y hx hy

/-- A measure of what is read. -/
structure Blk (blk : DataW H → Nat) : Prop where
  str : ∀ b, b.length ≤ blk (.lit (.string b))
  len : ∀ es sp, es.length ≤ blk (.slice es sp)
  elem : ∀ es sp, ∀ e ∈ es, blk e ≤ blk (.slice es sp)
  part : ∀ ps, ∀ e ∈ ps, blk e ≤ blk (.agg ps)

mutual
/-- How much is read. -/
def abulk {H : Type} : DataW H → Nat
  | .lit (.string bytes) => bytes.length + 1
  | .lit _ => 1
  | .nil => 1
  | .ptr d => abulk d + 1
  | .slice elems spare => abulks elems + abulks spare + 1
  | .agg parts => abulks parts + 1
  | .iface _ d => abulk d + 1
  | .map _ => 1
  | .held _ => 1
def abulks {H : Type} : List (DataW H) → Nat
  | [] => 0
  | d :: r => abulk d + abulks r
end
theorem abulk_pos {H : Type} (d : DataW H) : 1 ≤ abulk d := by
  cases d with
  | lit l => cases l <;> simp [abulk]
  | _ => simp [abulk]
theorem abulks_len {H : Type} : ∀ (l : List (DataW H)), l.length ≤ abulks l
  | [] => Nat.le_refl _
  | d :: r => by have := abulk_pos d; have := abulks_len r; simp only [List.length_cons, abulks]; omega
theorem abulks_mem {H : Type} : ∀ (l : List (DataW H)), ∀ e ∈ l, abulk e ≤ abulks l
  | [], e, h => by simp at h
  | d :: r, e, h => by
    simp only [abulks]
    rcases List.mem_cons.1 h with rfl | h
    · omega
    · have := abulks_mem r e h; omega
theorem blkA {H : Type} : Blk (abulk (H := H)) where
  str b := by simp [abulk]
  len es sp := by have := abulks_len es; simp only [abulk]; omega
  elem es sp e he := by have := abulks_mem es e he; simp only [abulk]; omega
  part ps e he := by have := abulks_mem ps e he; simp only [abulk]; omega

theorem fields_vr {blk : DataW H → Nat} {B : Nat} {ok : TypeId → Sh → Bool} {m : Nat} {cs : List Value}
    (ih : ∀ (s : Sh) (t : TypeId) (cs : List Value) (x : DataW H × List MemPlace), ok t s = true → DataW.trod enc P w base spare held m t cs = some x → (blk x.1 ≤ B ∨ s.flat = true) → ∃ l, ShR B s l ∧ VRl ρ I w l cs) :
    ∀ (s : Sh) (fs : List Field) (off : Nat) (xs : List (DataW H × List MemPlace)), fsOk P ok off fs s = true → xs.length = fs.length →
      (∀ (i : Nat) (f : Field), fs[i]? = some f → DataW.trod enc P w base spare held m f.type ((cs.drop f.offset).take (P.cellsOf f.type)) = xs[i]?) →
      ((∀ x ∈ xs, blk x.1 ≤ B) ∨ s.flat = true) → off + s.size ≤ cs.length → ∃ l, ShR B s l ∧ VRl ρ I w l ((cs.drop off).take s.size) := by
  intro s
  induction s with
  | nil =>
    intro fs off xs hok hl hx hb hle
    exact ⟨[], rfl, by simp [Sh.size], fun i a u h => by simp at h⟩
  | cons a b _ ihb =>
    intro fs off xs hok hl hx hb hle
    cases fs with
    | nil => simp [fsOk] at hok
    | cons f fs =>
      cases xs with
      | nil => simp at hl
      | cons x xs =>
        simp only [fsOk, Bool.and_eq_true, beq_iff_eq] at hok
        obtain ⟨⟨⟨h1, h2⟩, h3⟩, h4⟩ := hok
        simp only [Sh.size] at hle
        have ht := hx 0 f rfl
        rw [h1, h3] at ht
        obtain ⟨la, ra, va⟩ := ih a f.type _ x h2 ht (by
          rcases hb with hb | hb
          · exact .inl (hb x (by simp))
          · simp only [Sh.flat, Bool.and_eq_true] at hb; exact .inr hb.1)
        obtain ⟨lb, rb, vb⟩ := ihb fs (off + a.size) xs h4 (by simpa using hl) (fun i g hg => by
          have := hx (i + 1) g (by simpa using hg)
          simpa using this) (by
          rcases hb with hb | hb
          · exact .inl fun x hx => hb x (by simp [hx])
          · simp only [Sh.flat, Bool.and_eq_true] at hb; exact .inr hb.2) (by omega)
        refine ⟨la ++ lb, ⟨la, lb, rfl, ra, rb⟩, ?_⟩
        have e : (cs.drop off).take (Sh.cons a b).size = (cs.drop off).take a.size ++ (cs.drop (off + a.size)).take b.size := by
          simp only [Sh.size]
          rw [List.take_add, List.drop_drop]
        rw [e]
        exact va.append vb
  | _ =>
    intro fs off xs hok
    cases fs <;> simp [fsOk] at hok

theorem trod_vr {blk : DataW H → Nat} {B : Nat} (hblk : Blk blk) (hI : ∀ b, b < w.heap.size → I true b) (hB : B ≤ LIM) : ∀ (n : Nat) (s : Sh) (t : TypeId) (fuel : Nat) (cs : List Value) (x : DataW H × List MemPlace),
    shOk P n t s = true → DataW.trod enc P w base spare held fuel t cs = some x → (blk x.1 ≤ B ∨ s.flat = true) → ∃ l, ShR B s l ∧ VRl ρ I w l cs := by
  intro n
  induction n with
  | zero => intro s t fuel cs x h; simp [shOk] at h
  | succ n ih =>
    intro s t fuel cs x hs ht hb
    unfold shOk at hs
    split at hs
    · rename_i k k' hu
      simp only [decide_eq_true_eq] at hs
      subst hs
      obtain ⟨z, rfl, rfl, hw⟩ := DataW.trod_int hu ht
      exact ⟨[.int k z], ⟨z, rfl, hw⟩, VRl.one (.int k z)⟩
    · rename_i hu
      obtain ⟨z, rfl, rfl⟩ := DataW.trod_bool hu ht
      exact ⟨[.bool z], ⟨z, rfl⟩, VRl.one (.bool z)⟩
    · rename_i hu
      obtain ⟨z, rfl, rfl, hw⟩ := DataW.trod_string hu ht
      refine ⟨[.str z], ⟨z, rfl, ?_⟩, VRl.one (.str z)⟩
      rcases hb with hb | hb
      · exact Nat.le_trans (hblk.str z.data.toList) hb
      · cases hb
    · rename_i e se hu
      simp only [Bool.and_eq_true, beq_iff_eq, decide_eq_true_eq] at hs
      obtain ⟨⟨h1, h2⟩, h3⟩ := hs
      have hb : blk x.1 ≤ B := by
        rcases hb with hb | hb
        · exact hb
        · cases hb
      rcases open_slice hu ht with ⟨rfl, rfl⟩ | ⟨a, len, cap, m, n', D, Pl, rfl, hba, hl, hm, hmm, rfl, hx⟩
      · exact ⟨[.nil], .inl rfl, VRl.one .nil⟩
      · have hlm : len ≤ m := by rw [hmm]; split <;> omega
        have hlen : len ≤ B := by
          have := hblk.len ((List.range len).map D) ((List.range (m - len)).map fun j => D (len + j))
          simp only [List.length_map, List.length_range] at this
          exact Nat.le_trans this hb
        rw [h2] at hx
        have hx' : ∀ i, i < len → ∃ l, ShR B se l ∧ ∃ cs', w.cells? base (a.add (i * se.size)) se.size = some cs' ∧ VRl ρ I w l cs' := by
          intro i hi
          obtain ⟨cs', g1, g2⟩ := hx i (by omega)
          obtain ⟨l, g3, g4⟩ := ih se e n' cs' _ h1 g2 (.inl (Nat.le_trans (hblk.elem _ _ (D i) (List.mem_map.2 ⟨i, List.mem_range.2 hi, rfl⟩)) hb))
          exact ⟨l, g3, cs', g1, g4⟩
        obtain ⟨f, hf⟩ := choose_lt hx'
        refine ⟨[.view true se.size ((List.range len).map f)], .inr ⟨_, rfl, by simpa using hlen, fun c hc => ?_⟩, VRl.one ?_⟩
        · obtain ⟨i, hi, rfl⟩ := List.mem_map.1 hc
          exact (hf i (List.mem_range.1 hi)).1
        · cases len with
          | zero => exact .viewNil ..
          | succ len =>
            have hcell : ∀ i j, i < len + 1 → j < se.size → ∃ u, w.cell? ⟨a.block, a.off + i * se.size + j, none⟩ = some u ∧ ∀ y, (f i)[j]? = some y → VR ρ I w y u := by
              intro i j hi hj
              obtain ⟨_, cs', g1, g2⟩ := hf i hi
              obtain ⟨q1, q2, q3⟩ := World.cells?_some g1
              have q4 := q3 j hj
              rw [List.getElem?_eq_getElem (by omega)] at q4
              have hsp : ((a.add (i * se.size)).add j).spot = none := by
                cases hs : ((a.add (i * se.size)).add j).spot with
                | none => rfl
                | some _ =>
                  unfold World.cell? at q4
                  simp only [hs, Option.isSome_some, if_true] at q4
                  split at q4 <;> cases q4
              have hadd : (a.add (i * se.size)).add j = ⟨a.block, a.off + i * se.size + j, none⟩ := by
                rw [add_add] at hsp ⊢
                unfold Addr.add at hsp ⊢
                split
                · rename_i h0
                  rw [if_pos h0] at hsp
                  cases a; simp_all
                · simp [Nat.add_assoc]
              rw [hadd] at q4
              refine ⟨_, q4, fun y hy => g2.2 j y _ hy (List.getElem?_eq_getElem (by omega))⟩
            have hlt : a.block < w.heap.size := by
              obtain ⟨u, hu, _⟩ := hcell 0 0 (by omega) h3
              unfold World.cell? at hu
              split at hu
              · rename_i heq
                exact (Array.getElem?_eq_some_iff.1 heq).1
              · cases hu
            have hsp : a.spot = none := by
              obtain ⟨_, cs', g1, g2⟩ := hf 0 (by omega)
              obtain ⟨q1, q2, q3⟩ := World.cells?_some g1
              have q4 := q3 0 h3
              rw [List.getElem?_eq_getElem (by omega)] at q4
              simp only [Nat.zero_mul, Addr.add, if_true] at q4
              cases hs : a.spot with
              | none => rfl
              | some _ =>
                unfold World.cell? at q4
                simp only [hs, Option.isSome_some, if_true] at q4
                split at q4 <;> cases q4
            have ha : a = ⟨a.block, a.off, none⟩ := by cases a; simp_all
            have hl1 : ((List.range (len + 1)).map f).length = len + 1 := by simp
            have := VR.view (ρ := ρ) (I := I) (w := w) true se.size ((List.range (len + 1)).map f) a.block a.off cap (hI _ hlt) (by rw [hl1]; omega) (by rw [hl1]; exact hl) (fun i x hx => ?_) (fun i j x hx => ?_) (fun i j x u hx hu => ?_)
            · rw [hl1, ← ha] at this; exact this
            · rw [List.getElem?_map, Option.map_eq_some_iff] at hx
              obtain ⟨i', hi', rfl⟩ := hx
              have := (List.getElem?_eq_some_iff.1 hi')
              obtain ⟨q1, q2⟩ := this
              simp at q1 q2; subst q2
              exact (hf i (by omega)).1.length
            · obtain ⟨cells, q1, q2⟩ := get2_some hx
              rw [List.getElem?_map, Option.map_eq_some_iff] at q1
              obtain ⟨i', hi', rfl⟩ := q1
              obtain ⟨q3, q4⟩ := (List.getElem?_eq_some_iff.1 hi')
              simp at q3 q4; subst q4
              have hj : j < se.size := by rw [← (hf i (by omega)).1.length]; exact (List.getElem?_eq_some_iff.1 q2).1
              obtain ⟨u, hu, _⟩ := hcell i j (by omega) hj
              exact ⟨u, hu⟩
            · obtain ⟨cells, q1, q2⟩ := get2_some hx
              rw [List.getElem?_map, Option.map_eq_some_iff] at q1
              obtain ⟨i', hi', rfl⟩ := q1
              obtain ⟨q3, q4⟩ := (List.getElem?_eq_some_iff.1 hi')
              simp at q3 q4; subst q4
              have hj : j < se.size := by rw [← (hf i (by omega)).1.length]; exact (List.getElem?_eq_some_iff.1 q2).1
              obtain ⟨u', hu', h'⟩ := hcell i j (by omega) hj
              rw [hu'] at hu; cases hu
              exact h' x q2
    · rename_i fs hu

      simp only [Bool.and_eq_true, beq_iff_eq] at hs
      obtain ⟨h1, h2⟩ := hs
      obtain ⟨xs, m, rfl, rfl, hl, hlen, hf⟩ := DataW.trod_struct hu ht
      have := fields_vr (enc := enc) (P := P) (w := w) (base := base) (spare := spare) (held := held) (ρ := ρ) (I := I) (blk := blk) (B := B) (ok := shOk P n) (m := m) (cs := cs)
        (fun s t cs x => ih s t m cs x) _ fs.toList 0 xs h1 (by simpa using hlen) (fun i f hi => hf i f (by simpa using hi)) (by
          rcases hb with hb | hb
          · exact .inl fun x hx => Nat.le_trans (hblk.part _ x.1 (List.mem_map.2 ⟨x, hx, rfl⟩)) hb
          · exact .inr hb) (by omega)
      rw [List.drop_zero, List.take_of_length_le (by omega)] at this
      exact this
    · cases hs
end
end Go.AE
end

section
/- Abstract machine: a law's row. -/
namespace Go.AE
open Go.RowKit Go.ChangeAt
set_option linter.unusedVariables false

def topA : Sh → List AV → AV
  | .nil, l => .agg l
  | .cons .., l => .agg l
  | _, l => l.headD .dead

def Imm0 (w : World) : Imm := fun _ b => b < w.heap.size

section
variable {H : Type} {enc : TypeId × Value → H} {P : Program} {w : World} {base : Nat} {spare : Nat → Bool} {held : Bool} {ρ : Names} {I : Imm}

theorem VRl.head {a : AV} {l : List AV} {u : Value} {us : List Value} (h : VRl ρ I w (a :: l) (u :: us)) : VR ρ I w a u := h.2 0 a u rfl rfl

theorem arg_vr {blk : DataW H → Nat} {B : Nat} (hblk : Blk blk) (hB : B ≤ LIM) {n : Nat} {s : Sh} {t : TypeId} {v : Value} {d : DataW H} {ps : List MemPlace} {r : Reach} {b0 : Nat} {W : World}
    (hs : shOk P n t s = true) (ht : DataW.Trod enc P W base spare held t v d ps) (hok : Value.okWide P W r b0 t v) (hb : blk d ≤ B ∨ s.flat = true) :
    ∃ l, ShR B s l ∧ VR ρ (Imm0 W) W (topA s l) v := by
  obtain ⟨fuel, ht⟩ := ht
  obtain ⟨l, h1, h2⟩ := trod_vr (ρ := ρ) (I := Imm0 W) hblk (fun b hb => hb) hB n s t fuel _ _ hs ht hb
  refine ⟨l, h1, ?_⟩
  have hlen := h1.length
  cases n with
  | zero => simp [shOk] at hs
  | succ n =>
    unfold shOk at hs
    have one : ∀ (x : Value), v = x → (v.cells.toList = [x]) → l.length = 1 → VR ρ (Imm0 W) W (l.headD .dead) v := by
      intro x hx hc hl
      match l, hl with
      | [a], _ => rw [hc] at h2; rw [hx]; exact h2.head
    have agg : ∀ cs, v = .agg cs → VR ρ (Imm0 W) W (.agg l) v := by
      rintro cs rfl
      exact .agg l cs (by simpa [Value.cells] using h2.1) fun i x u hx hu => h2.2 i x u hx (by simpa [Value.cells] using hu)
    split at hs
    · rename_i k k' hu
      obtain ⟨z, rfl⟩ := WideShapes.okWide_int hu hok
      exact one _ rfl rfl hlen
    · rename_i hu
      have : ∃ z, v = .bool z := by
        simp only [Value.okWide, hu, Cell.okWide] at hok
        cases v <;> simp_all [Cell.ok]
      obtain ⟨z, rfl⟩ := this
      exact one _ rfl rfl hlen
    · rename_i hu
      obtain ⟨z, rfl⟩ := WideShapes.okWide_string hu hok
      exact one _ rfl rfl hlen
    · rename_i e se hu
      obtain ⟨a, len, cap, rfl⟩ := WideShapes.okWide_slice hu hok
      exact one _ rfl rfl hlen
    · rename_i s1 _ _ fs hu
      simp only [Bool.and_eq_true] at hs
      obtain ⟨h3, _⟩ := hs
      simp only [Value.okWide, hu] at hok
      obtain ⟨cs, rfl, _⟩ := hok
      cases s1 with
      | nil => exact agg _ rfl
      | cons a b => exact agg _ rfl
      | _ => cases hfs : fs.toList <;> simp [hfs, fsOk] at h3
    · cases hs
end

/-- A law's call, out of its contract. -/
theorem law_calls {P : Program} {f : FuncId} {args : List AV} {W : World} {vs : Array Value} (hc : PC P f args (.bool true)) (hv : VRs (fun _ => none) (Imm0 W) W args vs) :
    Calls P f vs W fun e w' => e = .returned (.bool true) ∧ Below W.heap.size W w' := by
  have := hc (fun _ => none) 0 (fun r _ _ => r = .bool true) rfl
  refine (this.2 (fun _ => none) (Imm0 W) W vs (fun _ _ h => (by cases h)) ⟨fun _ _ h => (by cases h), fun _ _ _ h => (by cases h), fun _ _ _ _ _ _ _ h => (by cases h), fun _ _ _ _ _ h => (by cases h), fun _ _ h => h⟩ hv).mono ?_
  rintro e w' ⟨v, r, h', nx', ρ', I', rfl, rfl, hvr, H', E, _, _, _⟩
  cases hvr
  exact ⟨rfl, E.os, E.tape, E.output, E.size, fun k hk => E.frame k hk fun ⟨_, _, _, h, _⟩ => (by cases h)⟩

theorem vrs_nil {ρ I w} : VRs ρ I w [] #[] := ⟨rfl, fun i x u h => by simp at h⟩
theorem vrs1 {ρ I w} {a : AV} {u : Value} (h : VR ρ I w a u) : VRs ρ I w [a] #[u] := ⟨rfl, fun i x v hx hv => by
  match i with
  | 0 => simp at hx hv; subst hx; subst hv; exact h
  | _ + 1 => simp at hx⟩
theorem vrs2 {ρ I w} {a b : AV} {u v : Value} (h : VR ρ I w a u) (h2 : VR ρ I w b v) : VRs ρ I w [a, b] #[u, v] := ⟨rfl, fun i x y hx hy => by
  match i with
  | 0 => simp at hx hy; subst hx; subst hy; exact h
  | 1 => simp at hx hy; subst hx; subst hy; exact h2
  | _ + 2 => simp at hx⟩
theorem vrs3 {ρ I w} {a b c : AV} {u v t : Value} (h : VR ρ I w a u) (h2 : VR ρ I w b v) (h3 : VR ρ I w c t) : VRs ρ I w [a, b, c] #[u, v, t] := ⟨rfl, fun i x y hx hy => by
  match i with
  | 0 => simp at hx hy; subst hx; subst hy; exact h
  | 1 => simp at hx hy; subst hx; subst hy; exact h2
  | 2 => simp at hx hy; subst hx; subst hy; exact h3
  | _ + 3 => simp at hx⟩
end Go.AE
end

section
/- Abstract machine: arguments of a law, as the program's data. -/
namespace Go.AE
set_option linter.unusedVariables false

/-- What reads as x reads as y. -/
def Up (x y : AV) : Prop := ∀ (ρ : Names) (I : Imm) (w : World) (u : Value), VR ρ I w x u → VR ρ I w y u
theorem Up.refl (x : AV) : Up x x := fun _ _ _ _ h => h
theorem Up.nil (p : Bool) (sz : Nat) : Up .nil (.view p sz []) := fun ρ I w u h => by cases h; exact .viewNil p sz none 0
def UpL (l l' : List AV) : Prop := l'.length = l.length ∧ ∀ (i : Nat) x y, l[i]? = some x → l'[i]? = some y → Up x y
theorem UpL.refl (l : List AV) : UpL l l := ⟨rfl, fun i x y hx hy => by rw [hx] at hy; cases hy; exact .refl _⟩
theorem UpL.one {x y : AV} (h : Up x y) : UpL [x] [y] := ⟨rfl, fun i a b ha hb => by
  cases i with
  | zero => simp at ha hb; subst ha; subst hb; exact h
  | succ i => simp at ha⟩
theorem UpL.append {a b c d : List AV} (h1 : UpL a c) (h2 : UpL b d) : UpL (a ++ b) (c ++ d) := by
  refine ⟨by simp [h1.1, h2.1], fun i x y hx hy => ?_⟩
  by_cases hi : i < a.length
  · rw [List.getElem?_append_left hi] at hx
    rw [List.getElem?_append_left (by rw [h1.1]; exact hi)] at hy
    exact h1.2 i x y hx hy
  · rw [List.getElem?_append_right (by omega)] at hx
    rw [List.getElem?_append_right (by rw [h1.1]; omega), h1.1] at hy
    exact h2.2 _ x y hx hy
theorem UpL.agg {a b : List AV} (h : UpL a b) : Up (.agg a) (.agg b) := fun ρ I w u hv => by
  cases hv with
  | agg _ vs h1 h2 =>
    refine .agg b vs (by rw [h1, h.1]) fun i y u hy hu => ?_
    have hi : i < a.length := by rw [← h.1]; exact (List.getElem?_eq_some_iff.1 hy).1
    exact h.2 i _ y (List.getElem?_eq_getElem hi) hy _ _ _ _ (h2 i _ u (List.getElem?_eq_getElem hi) hu)
theorem Up.view {p : Bool} {sz : Nat} {xs ys : List (List AV)} (hl : ys.length = xs.length) (hc : ∀ (i : Nat) c d, xs[i]? = some c → ys[i]? = some d → UpL c d) : Up (.view p sz xs) (.view p sz ys) := fun ρ I w u hv => by
  have back : ∀ {i j : Nat} {y : AV}, get2 ys i j = some y → ∃ x, get2 xs i j = some x ∧ Up x y := by
    intro i j y hy
    obtain ⟨d, hd, hj⟩ := get2_some hy
    have hi : i < xs.length := by rw [← hl]; exact (List.getElem?_eq_some_iff.1 hd).1
    have hx := List.getElem?_eq_getElem hi
    have hu := hc i _ d hx hd
    have hj' : j < (xs[i]).length := by rw [← hu.1]; exact (List.getElem?_eq_some_iff.1 hj).1
    exact ⟨(xs[i])[j], by simp [get2, hx], hu.2 j _ y (List.getElem?_eq_getElem hj') hj⟩
  generalize hz : AV.view p sz xs = z at hv
  cases hv <;> simp at hz
  · obtain ⟨rfl, rfl, rfl⟩ := hz
    obtain rfl : ys = [] := by simpa using hl
    exact .viewNil ..
  · obtain ⟨rfl, rfl, rfl⟩ := hz
    rename_i b off c h1 h2 h3 h4 h5 h6
    rw [← hl]
    refine .view p sz ys b off c h1 (by omega) (by omega) (fun i d hd => ?_) (fun i j y hy => ?_) (fun i j y u hy hu => ?_)
    · have hi : i < xs.length := by rw [← hl]; exact (List.getElem?_eq_some_iff.1 hd).1
      rw [(hc i _ d (List.getElem?_eq_getElem hi) hd).1]; exact h4 i _ (List.getElem?_eq_getElem hi)
    · obtain ⟨x, hx, _⟩ := back hy
      exact h5 i j x hx
    · obtain ⟨x, hx, hup⟩ := back hy
      exact hup _ _ _ _ (h6 i j x u hx hu)

/-- A shape's data; 'ok' tells how long its parts are. -/
def Rdr {α : Type} (sh : Sh) (c : α → List AV) (ok : Nat → α → Prop) : Prop := ∀ (B : Nat) (l : List AV), ShR B sh l → ∃ x, UpL l (c x) ∧ ok B x
def okT {α : Type} (B : Nat) (x : α) : Prop := True
theorem Rdr.int : Rdr (.int .i64) iv okT := fun B l h => by obtain ⟨n, rfl, _⟩ := h; exact ⟨n, UpL.refl _, trivial⟩
theorem Rdr.bool : Rdr .bool bv okT := fun B l h => by obtain ⟨n, rfl⟩ := h; exact ⟨n, UpL.refl _, trivial⟩
theorem Rdr.str : Rdr .str (fun s => [.str s]) (fun B (s : ByteArray) => s.size ≤ B) := fun B l h => by obtain ⟨n, rfl, h⟩ := h; exact ⟨n, UpL.refl _, h⟩
theorem Rdr.slice {α : Type} {e : Sh} {c : α → List AV} {ok : Nat → α → Prop} {sz : Nat} (hsz : e.size = sz) (h : Rdr e c ok) : Rdr (.slice e) (fun xs => [.view true sz (xs.map c)]) (fun B (xs : List α) => xs.length ≤ B ∧ ∀ x ∈ xs, ok B x) := fun B l hl => by
  subst hsz
  rcases hl with rfl | ⟨xs, rfl, hle, hx⟩
  · exact ⟨[], UpL.one (Up.nil _ _), by simp, by simp⟩
  · have : ∀ xs : List (List AV), (∀ c ∈ xs, ShR B e c) → ∃ ys : List α, ys.length = xs.length ∧ (∀ (i : Nat) a b, xs[i]? = some a → (ys.map c)[i]? = some b → UpL a b) ∧ ∀ y ∈ ys, ok B y := by
      intro xs
      induction xs with
      | nil => intro _; exact ⟨[], rfl, fun i a b h => by simp at h, by simp⟩
      | cons a xs ih =>
        intro hx
        obtain ⟨ys, h1, h2, h3⟩ := ih fun c hc => hx c (by simp [hc])
        obtain ⟨y, g1, g2⟩ := h B a (hx a (by simp))
        refine ⟨y :: ys, by simp [h1], fun i p q hp hq => ?_, fun z hz => ?_⟩
        · cases i with
          | zero => simp at hp hq; subst hp; subst hq; exact g1
          | succ i => exact h2 i p q (by simpa using hp) (by simpa using hq)
        · rcases List.mem_cons.1 hz with rfl | hz
          · exact g2
          · exact h3 z hz
    obtain ⟨ys, h1, h2, h3⟩ := this xs hx
    exact ⟨ys, UpL.one (Up.view (by simp [h1]) h2), by omega, h3⟩
theorem Rdr.nil : Rdr .nil (fun (_ : Unit) => []) okT := fun B l h => by simp only [ShR] at h; subst h; exact ⟨(), UpL.refl _, trivial⟩
theorem Rdr.cons {α β : Type} {s r : Sh} {c : α → List AV} {d : β → List AV} {ok1 : Nat → α → Prop} {ok2 : Nat → β → Prop} (h1 : Rdr s c ok1) (h2 : Rdr r d ok2) :
    Rdr (.cons s r) (fun p : α × β => c p.1 ++ d p.2) (fun B p => ok1 B p.1 ∧ ok2 B p.2) := fun B l hl => by
  obtain ⟨x, y, rfl, g1, g2⟩ := hl
  obtain ⟨a, u1, o1⟩ := h1 B x g1
  obtain ⟨b, u2, o2⟩ := h2 B y g2
  exact ⟨(a, b), u1.append u2, o1, o2⟩
theorem Rdr.map {α γ : Type} {s : Sh} {c : α → List AV} {ok : Nat → α → Prop} {c' : γ → List AV} {ok' : Nat → γ → Prop} (f : α → γ) (h : Rdr s c ok) (hc : ∀ x, c' (f x) = c x) (ho : ∀ B x, ok B x → ok' B (f x)) : Rdr s c' ok' := fun B l hl => by
  obtain ⟨x, u, o⟩ := h B l hl
  exact ⟨f x, by rw [hc]; exact u, ho B x o⟩

/-! ### the program's data -/
def i64S : Sh := .int .i64
def shInts : Nat → Sh → Sh
  | 0, r => r
  | n + 1, r => .cons i64S (shInts n r)
def shHan : Sh := shInts 2 .nil
def shInn : Sh := shInts 3 .nil
def shNod : Sh := shInts 5 .nil
def shEvt : Sh := shInts 4 .nil
def shTwg : Sh := shInts 3 .nil
def shTmr : Sh := shInts 4 (.cons .bool .nil)
def shAfr : Sh := .cons shHan (shInts 2 (.cons .bool .nil))
def shTsk : Sh := shInts 9 .nil
def shSgt : Sh := shInts 4 .nil
def shPik : Sh := shInts 2 .nil
def shOdr : Sh := shInts 5 .nil
def shGrp : Sh := shInts 3 (.cons (.slice i64S) (.cons i64S .nil))
def shSlt : Sh := .cons (.slice i64S) (.cons (.slice .bool) .nil)
def shSpr : Sh := .cons (.slice .bool) (.cons (.slice i64S) .nil)
def shTms : Sh := .cons (.slice shTwg) (.cons (.slice shTmr) (.cons i64S .nil))
def shAfs : Sh := .cons shSlt (.cons (.slice shAfr) .nil)
def shWld : Sh := .cons i64S (.cons (.slice (.slice shInn)) (.cons (.slice shNod) (.cons (.slice shEvt) (.cons shSpr (.cons shTms (.cons shAfs (.cons (.slice shTsk) (.cons (.slice shGrp) (.cons (.slice shSgt) (.cons (.slice i64S) (.cons (.slice i64S) .nil)))))))))))
theorem rdHan : Rdr shHan hanC okT := (Rdr.int.cons (Rdr.int.cons Rdr.nil)).map (fun p => ⟨p.1, p.2.1⟩) (fun _ => rfl) (fun _ _ _ => trivial)
theorem rdInn : Rdr shInn innC okT := (Rdr.int.cons (Rdr.int.cons (Rdr.int.cons Rdr.nil))).map (fun p => ⟨p.1, p.2.1, p.2.2.1⟩) (fun _ => rfl) (fun _ _ _ => trivial)
theorem rdTwg : Rdr shTwg twgC okT := (Rdr.int.cons (Rdr.int.cons (Rdr.int.cons Rdr.nil))).map (fun p => ⟨p.1, p.2.1, p.2.2.1⟩) (fun _ => rfl) (fun _ _ _ => trivial)
theorem rdNod : Rdr shNod nodC okT := (Rdr.int.cons (Rdr.int.cons (Rdr.int.cons (Rdr.int.cons (Rdr.int.cons Rdr.nil))))).map (fun p => ⟨p.1, p.2.1, p.2.2.1, p.2.2.2.1, p.2.2.2.2.1⟩) (fun _ => rfl) (fun _ _ _ => trivial)
theorem rdOdr : Rdr shOdr odrC okT := (Rdr.int.cons (Rdr.int.cons (Rdr.int.cons (Rdr.int.cons (Rdr.int.cons Rdr.nil))))).map (fun p => ⟨p.1, p.2.1, p.2.2.1, p.2.2.2.1, p.2.2.2.2.1⟩) (fun _ => rfl) (fun _ _ _ => trivial)
theorem rdEvt : Rdr shEvt evtC okT := (Rdr.int.cons (Rdr.int.cons (Rdr.int.cons (Rdr.int.cons Rdr.nil)))).map (fun p => ⟨p.1, p.2.1, p.2.2.1, p.2.2.2.1⟩) (fun _ => rfl) (fun _ _ _ => trivial)
theorem rdSgt : Rdr shSgt sgtC okT := (Rdr.int.cons (Rdr.int.cons (Rdr.int.cons (Rdr.int.cons Rdr.nil)))).map (fun p => ⟨p.1, p.2.1, p.2.2.1, p.2.2.2.1⟩) (fun _ => rfl) (fun _ _ _ => trivial)
theorem rdPik : Rdr shPik pikC okT := (Rdr.int.cons (Rdr.int.cons Rdr.nil)).map (fun p => ⟨p.1, p.2.1⟩) (fun _ => rfl) (fun _ _ _ => trivial)
theorem rdTmr : Rdr shTmr tmrC okT := (Rdr.int.cons (Rdr.int.cons (Rdr.int.cons (Rdr.int.cons (Rdr.bool.cons Rdr.nil))))).map (fun p => ⟨p.1, p.2.1, p.2.2.1, p.2.2.2.1, p.2.2.2.2.1⟩) (fun _ => rfl) (fun _ _ _ => trivial)
theorem rdAfr : Rdr shAfr afrC okT := (rdHan.cons (Rdr.int.cons (Rdr.int.cons (Rdr.bool.cons Rdr.nil)))).map (fun p => ⟨p.1, p.2.1, p.2.2.1, p.2.2.2.1⟩) (fun _ => rfl) (fun _ _ _ => trivial)
theorem rdTsk : Rdr shTsk tskC okT := (Rdr.int.cons (Rdr.int.cons (Rdr.int.cons (Rdr.int.cons (Rdr.int.cons (Rdr.int.cons (Rdr.int.cons (Rdr.int.cons (Rdr.int.cons Rdr.nil))))))))).map
  (fun p => ⟨p.1, p.2.1, p.2.2.1, p.2.2.2.1, p.2.2.2.2.1, p.2.2.2.2.2.1, p.2.2.2.2.2.2.1, p.2.2.2.2.2.2.2.1, p.2.2.2.2.2.2.2.2.1⟩) (fun _ => rfl) (fun _ _ _ => trivial)
theorem rdInts : Rdr (.slice i64S) (fun xs => [.view true 1 (xs.map iv)]) (fun B (xs : List Int) => xs.length ≤ B) := (Rdr.slice rfl Rdr.int).map id (fun _ => rfl) (fun _ _ h => h.1)
theorem rdBools : Rdr (.slice .bool) (fun xs => [.view true 1 (xs.map bv)]) (fun B (xs : List Bool) => xs.length ≤ B) := (Rdr.slice rfl Rdr.bool).map id (fun _ => rfl) (fun _ _ h => h.1)
theorem rdS {α : Type} {e : Sh} {c : α → List AV} {sz : Nat} (hsz : e.size = sz) (h : Rdr e c okT) : Rdr (.slice e) (fun xs => [.view true sz (xs.map c)]) (fun B (xs : List α) => xs.length ≤ B) := (Rdr.slice hsz h).map id (fun _ => rfl) (fun _ _ h => h.1)
theorem rdGrp : Rdr shGrp (grpV true) okT := (Rdr.int.cons (Rdr.int.cons (Rdr.int.cons (rdInts.cons (Rdr.int.cons Rdr.nil))))).map (fun p => ⟨p.1, p.2.1, p.2.2.1, p.2.2.2.1, p.2.2.2.2.1⟩) (fun _ => rfl) (fun _ _ _ => trivial)
theorem rdPrg : Rdr (.slice shInn) (prgV true) okT := (rdS rfl rdInn).map id (fun _ => rfl) (fun _ _ _ => trivial)
abbrev FT : Nat → Bool := fun _ => true
theorem rdSlt : Rdr shSlt (sltV FT) okT := (rdInts.cons (rdBools.cons Rdr.nil)).map (fun p => ⟨p.1, p.2.1⟩) (fun _ => rfl) (fun _ _ _ => trivial)
theorem rdSpr : Rdr shSpr (sprV FT) okT := (rdBools.cons (rdInts.cons Rdr.nil)).map (fun p => ⟨p.1, p.2.1⟩) (fun _ => rfl) (fun _ _ _ => trivial)
theorem rdTms : Rdr shTms (tmsV FT) okT := ((rdS rfl rdTwg).cons ((rdS rfl rdTmr).cons (Rdr.int.cons Rdr.nil))).map (fun p => ⟨p.1, p.2.1, p.2.2.1⟩) (fun _ => rfl) (fun _ _ _ => trivial)
theorem rdAfs : Rdr shAfs (afsV FT) okT := (rdSlt.cons ((rdS rfl rdAfr).cons Rdr.nil)).map (fun p => ⟨p.1, p.2.1⟩) (fun _ => rfl) (fun _ _ _ => trivial)
theorem rdWld : Rdr shWld (wldV FT) okT := (Rdr.int.cons ((rdS rfl rdPrg).cons ((rdS rfl rdNod).cons ((rdS rfl rdEvt).cons (rdSpr.cons (rdTms.cons (rdAfs.cons ((rdS rfl rdTsk).cons ((rdS rfl rdGrp).cons ((rdS rfl rdSgt).cons (rdInts.cons (rdInts.cons Rdr.nil)))))))))))).map
  (fun p => ⟨p.1, p.2.1, p.2.2.1, p.2.2.2.1, p.2.2.2.2.1, p.2.2.2.2.2.1, p.2.2.2.2.2.2.1, p.2.2.2.2.2.2.2.1, p.2.2.2.2.2.2.2.2.1, p.2.2.2.2.2.2.2.2.2.1, p.2.2.2.2.2.2.2.2.2.2.1, p.2.2.2.2.2.2.2.2.2.2.2.1⟩) (fun _ => rfl) (fun _ _ _ => trivial)
/-- An argument that is a struct. -/
theorem Rdr.arg {α : Type} {s r : Sh} {c : α → List AV} {ok : Nat → α → Prop} (h : Rdr (.cons s r) c ok) {B : Nat} {l : List AV} (hl : ShR B (.cons s r) l) : ∃ x, Up (topA (.cons s r) l) (.agg (c x)) ∧ ok B x := by
  obtain ⟨x, u, o⟩ := h B l hl
  exact ⟨x, u.agg, o⟩
theorem Rdr.argI {B : Nat} {l : List AV} (hl : ShR B (.int .i64) l) : ∃ n : Int, topA (.int .i64) l = .int .i64 n := by
  obtain ⟨n, rfl, _⟩ := hl; exact ⟨n, rfl⟩
end Go.AE
end

section
/- Abstract machine: what the arguments read as, by their weights: every slice and string takes at most so many bytes. -/
namespace Go.AE
open Go.ChangeShapes Go.Deep Go.RowKit Go.ChangeAt
set_option linter.unusedVariables false
set_option linter.unusedSimpArgs false

/-- As shOk; and every element takes a byte. -/
def shOkW (P : Program) : Nat → TypeId → Sh → Bool
  | 0, _, _ => false
  | n + 1, t, s =>
    match P.underlying t, s with
    | some (.int k), .int k' => decide (k = k')
    | some .bool, .bool => true
    | some .string, .str => true
    | some (.slice e), .slice s => shOkW P n e s && P.cellsOf e == s.size && (decide (0 < s.size) && decide (0 < P.bytesOf e))
    | some (.struct fs), s => fsOk P (shOkW P n) 0 fs.toList s && P.cellsOf t == s.size
    | _, _ => false

section
variable {H : Type} {enc : TypeId × Value → H} {P : Program} {w : World} {base : Nat} {spare : Nat → Bool} {held : Bool} {ρ : Names} {I : Imm}

def Light (P : Program) (t : TypeId) (d : DataW H) : Prop := (d.weights P t).all (· ≤ reachBytes) = true
theorem light_str {t : TypeId} {b : List UInt8} (h : Light (H := H) P t (.lit (.string b))) : b.length ≤ reachBytes := by
  simp only [Light, DataW.weights, List.all_cons, Bool.and_eq_true, decide_eq_true_eq] at h; exact h.1
theorem light_len {t e : TypeId} {es sp : List (DataW H)} (hu : P.underlying t = some (.slice e)) (hb : 0 < P.bytesOf e) (h : Light P t (.slice es sp)) : es.length ≤ reachBytes := by
  simp only [Light, DataW.weights, hu, List.all_cons, Bool.and_eq_true, decide_eq_true_eq] at h
  have h1 := h.1
  have h2 : (es.length + sp.length) * 1 ≤ (es.length + sp.length) * P.bytesOf e := Nat.mul_le_mul_left _ hb
  omega
theorem light_all {e : TypeId} : ∀ {es : List (DataW H)}, (DataW.weightsAll P e es).all (· ≤ reachBytes) = true → ∀ d ∈ es, Light P e d
  | [], _, d, hd => by simp at hd
  | x :: xs, h, d, hd => by
    simp only [DataW.weightsAll, List.all_append, Bool.and_eq_true] at h
    rcases List.mem_cons.1 hd with rfl | hd
    · exact h.1
    · exact light_all h.2 d hd
theorem light_elem {t e : TypeId} {es sp : List (DataW H)} (hu : P.underlying t = some (.slice e)) (h : Light P t (.slice es sp)) : ∀ d ∈ es, Light P e d := by
  simp only [Light, DataW.weights, hu, List.all_cons, List.all_append, Bool.and_eq_true] at h
  exact light_all h.2.1
theorem light_each : ∀ {ts : List TypeId} {ps : List (DataW H)}, (DataW.weightsEach P ts ps).all (· ≤ reachBytes) = true → ∀ (i : Nat) t d, ts[i]? = some t → ps[i]? = some d → Light P t d
  | [], _, _, i, t, d, h1, _ => by simp at h1
  | t0 :: ts, [], _, i, t, d, _, h2 => by simp at h2
  | t0 :: ts, p :: ps, h, i, t, d, h1, h2 => by
    simp only [DataW.weightsEach, List.all_append, Bool.and_eq_true] at h
    cases i with
    | zero => simp at h1 h2; subst h1; subst h2; exact h.1
    | succ i => exact light_each h.2 i t d (by simpa using h1) (by simpa using h2)
theorem light_part {t : TypeId} {fs : Array Field} {ps : List (DataW H)} (hu : P.underlying t = some (.struct fs)) (h : Light P t (.agg ps)) : ∀ (i : Nat) f d, fs.toList[i]? = some f → ps[i]? = some d → Light P f.type d := by
  simp only [Light, DataW.weights, hu] at h
  intro i f d hf hd
  exact light_each h i f.type d (by rw [List.getElem?_map, hf]; rfl) hd

theorem fields_vrW {ok : TypeId → Sh → Bool} {m : Nat} {cs : List Value}
    (ih : ∀ (s : Sh) (t : TypeId) (cs : List Value) (x : DataW H × List MemPlace), ok t s = true → DataW.trod enc P w base spare held m t cs = some x → Light P t x.1 → ∃ l, ShR reachBytes s l ∧ VRl ρ I w l cs) :
    ∀ (s : Sh) (fs : List Field) (off : Nat) (xs : List (DataW H × List MemPlace)), fsOk P ok off fs s = true → xs.length = fs.length →
      (∀ (i : Nat) (f : Field), fs[i]? = some f → DataW.trod enc P w base spare held m f.type ((cs.drop f.offset).take (P.cellsOf f.type)) = xs[i]?) →
      (∀ (i : Nat) f x, fs[i]? = some f → xs[i]? = some x → Light P f.type x.1) → off + s.size ≤ cs.length → ∃ l, ShR reachBytes s l ∧ VRl ρ I w l ((cs.drop off).take s.size) := by
  intro s
  induction s with
  | nil =>
    intro fs off xs hok hl hx hb hle
    exact ⟨[], rfl, by simp [Sh.size], fun i a u h => by simp at h⟩
  | cons a b _ ihb =>
    intro fs off xs hok hl hx hb hle
    cases fs with
    | nil => simp [fsOk] at hok
    | cons f fs =>
      cases xs with
      | nil => simp at hl
      | cons x xs =>
        simp only [fsOk, Bool.and_eq_true, beq_iff_eq] at hok
        obtain ⟨⟨⟨h1, h2⟩, h3⟩, h4⟩ := hok
        simp only [Sh.size] at hle
        have ht := hx 0 f rfl
        rw [h1, h3] at ht
        obtain ⟨la, ra, va⟩ := ih a f.type _ x h2 ht (hb 0 f x rfl rfl)
        obtain ⟨lb, rb, vb⟩ := ihb fs (off + a.size) xs h4 (by simpa using hl) (fun i g hg => by
          have := hx (i + 1) g (by simpa using hg)
          simpa using this) (fun i g y hg hy => hb (i + 1) g y (by simpa using hg) (by simpa using hy)) (by omega)
        refine ⟨la ++ lb, ⟨la, lb, rfl, ra, rb⟩, ?_⟩
        have e : (cs.drop off).take (Sh.cons a b).size = (cs.drop off).take a.size ++ (cs.drop (off + a.size)).take b.size := by
          simp only [Sh.size]
          rw [List.take_add, List.drop_drop]
        rw [e]
        exact va.append vb
  | _ =>
    intro fs off xs hok
    cases fs <;> simp [fsOk] at hok

theorem trod_vrW (hI : ∀ b, b < w.heap.size → I true b) : ∀ (n : Nat) (s : Sh) (t : TypeId) (fuel : Nat) (cs : List Value) (x : DataW H × List MemPlace),
    shOkW P n t s = true → DataW.trod enc P w base spare held fuel t cs = some x → Light P t x.1 → ∃ l, ShR reachBytes s l ∧ VRl ρ I w l cs := by
  have hB : reachBytes ≤ LIM := by decide
  intro n
  induction n with
  | zero => intro s t fuel cs x h; simp [shOkW] at h
  | succ n ih =>
    intro s t fuel cs x hs ht hb
    unfold shOkW at hs
    split at hs
    · rename_i k k' hu
      simp only [decide_eq_true_eq] at hs
      subst hs
      obtain ⟨z, rfl, rfl, hw⟩ := DataW.trod_int hu ht
      exact ⟨[.int k z], ⟨z, rfl, hw⟩, VRl.one (.int k z)⟩
    · rename_i hu
      obtain ⟨z, rfl, rfl⟩ := DataW.trod_bool hu ht
      exact ⟨[.bool z], ⟨z, rfl⟩, VRl.one (.bool z)⟩
    · rename_i hu
      obtain ⟨z, rfl, rfl, hw⟩ := DataW.trod_string hu ht
      refine ⟨[.str z], ⟨z, rfl, ?_⟩, VRl.one (.str z)⟩
      exact light_str (b := z.data.toList) hb
    · rename_i e se hu
      simp only [Bool.and_eq_true, beq_iff_eq, decide_eq_true_eq] at hs
      obtain ⟨⟨h1, h2⟩, h3, h3b⟩ := hs
      rcases open_slice hu ht with ⟨rfl, rfl⟩ | ⟨a, len, cap, m, n', D, Pl, rfl, hba, hl, hm, hmm, rfl, hx⟩
      · exact ⟨[.nil], .inl rfl, VRl.one .nil⟩
      · have hlm : len ≤ m := by rw [hmm]; split <;> omega
        have hlen : len ≤ reachBytes := by
          have := light_len hu h3b hb
          simp only [List.length_map, List.length_range] at this
          exact this
        rw [h2] at hx
        have hx' : ∀ i, i < len → ∃ l, ShR reachBytes se l ∧ ∃ cs', w.cells? base (a.add (i * se.size)) se.size = some cs' ∧ VRl ρ I w l cs' := by
          intro i hi
          obtain ⟨cs', g1, g2⟩ := hx i (by omega)
          obtain ⟨l, g3, g4⟩ := ih se e n' cs' _ h1 g2 (light_elem hu hb _ (List.mem_map.2 ⟨i, List.mem_range.2 hi, rfl⟩))
          exact ⟨l, g3, cs', g1, g4⟩
        obtain ⟨f, hf⟩ := choose_lt hx'
        refine ⟨[.view true se.size ((List.range len).map f)], .inr ⟨_, rfl, by simpa using hlen, fun c hc => ?_⟩, VRl.one ?_⟩
        · obtain ⟨i, hi, rfl⟩ := List.mem_map.1 hc
          exact (hf i (List.mem_range.1 hi)).1
        · cases len with
          | zero => exact .viewNil ..
          | succ len =>
            have hcell : ∀ i j, i < len + 1 → j < se.size → ∃ u, w.cell? ⟨a.block, a.off + i * se.size + j, none⟩ = some u ∧ ∀ y, (f i)[j]? = some y → VR ρ I w y u := by
              intro i j hi hj
              obtain ⟨_, cs', g1, g2⟩ := hf i hi
              obtain ⟨q1, q2, q3⟩ := World.cells?_some g1
              have q4 := q3 j hj
              rw [List.getElem?_eq_getElem (by omega)] at q4
              have hsp : ((a.add (i * se.size)).add j).spot = none := by
                cases hs : ((a.add (i * se.size)).add j).spot with
                | none => rfl
                | some _ =>
                  unfold World.cell? at q4
                  simp only [hs, Option.isSome_some, if_true] at q4
                  split at q4 <;> cases q4
              have hadd : (a.add (i * se.size)).add j = ⟨a.block, a.off + i * se.size + j, none⟩ := by
                rw [add_add] at hsp ⊢
                unfold Addr.add at hsp ⊢
                split
                · rename_i h0
                  rw [if_pos h0] at hsp
                  cases a; simp_all
                · simp [Nat.add_assoc]
              rw [hadd] at q4
              refine ⟨_, q4, fun y hy => g2.2 j y _ hy (List.getElem?_eq_getElem (by omega))⟩
            have hlt : a.block < w.heap.size := by
              obtain ⟨u, hu, _⟩ := hcell 0 0 (by omega) h3
              unfold World.cell? at hu
              split at hu
              · rename_i heq
                exact (Array.getElem?_eq_some_iff.1 heq).1
              · cases hu
            have hsp : a.spot = none := by
              obtain ⟨_, cs', g1, g2⟩ := hf 0 (by omega)
              obtain ⟨q1, q2, q3⟩ := World.cells?_some g1
              have q4 := q3 0 h3
              rw [List.getElem?_eq_getElem (by omega)] at q4
              simp only [Nat.zero_mul, Addr.add, if_true] at q4
              cases hs : a.spot with
              | none => rfl
              | some _ =>
                unfold World.cell? at q4
                simp only [hs, Option.isSome_some, if_true] at q4
                split at q4 <;> cases q4
            have ha : a = ⟨a.block, a.off, none⟩ := by cases a; simp_all
            have hl1 : ((List.range (len + 1)).map f).length = len + 1 := by simp
            have := VR.view (ρ := ρ) (I := I) (w := w) true se.size ((List.range (len + 1)).map f) a.block a.off cap (hI _ hlt) (by rw [hl1]; omega) (by rw [hl1]; exact hl) (fun i x hx => ?_) (fun i j x hx => ?_) (fun i j x u hx hu => ?_)
            · rw [hl1, ← ha] at this; exact this
            · rw [List.getElem?_map, Option.map_eq_some_iff] at hx
              obtain ⟨i', hi', rfl⟩ := hx
              have := (List.getElem?_eq_some_iff.1 hi')
              obtain ⟨q1, q2⟩ := this
              simp at q1 q2; subst q2
              exact (hf i (by omega)).1.length
            · obtain ⟨cells, q1, q2⟩ := get2_some hx
              rw [List.getElem?_map, Option.map_eq_some_iff] at q1
              obtain ⟨i', hi', rfl⟩ := q1
              obtain ⟨q3, q4⟩ := (List.getElem?_eq_some_iff.1 hi')
              simp at q3 q4; subst q4
              have hj : j < se.size := by rw [← (hf i (by omega)).1.length]; exact (List.getElem?_eq_some_iff.1 q2).1
              obtain ⟨u, hu, _⟩ := hcell i j (by omega) hj
              exact ⟨u, hu⟩
            · obtain ⟨cells, q1, q2⟩ := get2_some hx
              rw [List.getElem?_map, Option.map_eq_some_iff] at q1
              obtain ⟨i', hi', rfl⟩ := q1
              obtain ⟨q3, q4⟩ := (List.getElem?_eq_some_iff.1 hi')
              simp at q3 q4; subst q4
              have hj : j < se.size := by rw [← (hf i (by omega)).1.length]; exact (List.getElem?_eq_some_iff.1 q2).1
              obtain ⟨u', hu', h'⟩ := hcell i j (by omega) hj
              rw [hu'] at hu; cases hu
              exact h' x q2
    · rename_i fs hu

      simp only [Bool.and_eq_true, beq_iff_eq] at hs
      obtain ⟨h1, h2⟩ := hs
      obtain ⟨xs, m, rfl, rfl, hl, hlen, hf⟩ := DataW.trod_struct hu ht
      have := fields_vrW (enc := enc) (P := P) (w := w) (base := base) (spare := spare) (held := held) (ρ := ρ) (I := I) (ok := shOkW P n) (m := m) (cs := cs)
        (fun s t cs x => ih s t m cs x) _ fs.toList 0 xs h1 (by simpa using hlen) (fun i f hi => hf i f (by simpa using hi)) (fun i f x hf hx => light_part hu hb i f x.1 hf (by rw [List.getElem?_map, hx]; rfl)) (by omega)
      rw [List.drop_zero, List.take_of_length_le (by omega)] at this
      exact this
    · cases hs
theorem arg_vrW {n : Nat} {s : Sh} {t : TypeId} {v : Value} {d : DataW H} {ps : List MemPlace} {r : Reach} {b0 : Nat} {W : World}
    (hs : shOkW P n t s = true) (ht : DataW.Trod enc P W base spare held t v d ps) (hok : Value.okWide P W r b0 t v) (hb : Light P t d) :
    ∃ l, ShR reachBytes s l ∧ VR ρ (Imm0 W) W (topA s l) v := by
  obtain ⟨fuel, ht⟩ := ht
  obtain ⟨l, h1, h2⟩ := trod_vrW (ρ := ρ) (I := Imm0 W) (fun b hb => hb) n s t fuel _ _ hs ht hb
  refine ⟨l, h1, ?_⟩
  have hlen := h1.length
  cases n with
  | zero => simp [shOkW] at hs
  | succ n =>
    unfold shOkW at hs
    have one : ∀ (x : Value), v = x → (v.cells.toList = [x]) → l.length = 1 → VR ρ (Imm0 W) W (l.headD .dead) v := by
      intro x hx hc hl
      match l, hl with
      | [a], _ => rw [hc] at h2; rw [hx]; exact h2.head
    have agg : ∀ cs, v = .agg cs → VR ρ (Imm0 W) W (.agg l) v := by
      rintro cs rfl
      exact .agg l cs (by simpa [Value.cells] using h2.1) fun i x u hx hu => h2.2 i x u hx (by simpa [Value.cells] using hu)
    split at hs
    · rename_i k k' hu
      obtain ⟨z, rfl⟩ := WideShapes.okWide_int hu hok
      exact one _ rfl rfl hlen
    · rename_i hu
      have : ∃ z, v = .bool z := by
        simp only [Value.okWide, hu, Cell.okWide] at hok
        cases v <;> simp_all [Cell.ok]
      obtain ⟨z, rfl⟩ := this
      exact one _ rfl rfl hlen
    · rename_i hu
      obtain ⟨z, rfl⟩ := WideShapes.okWide_string hu hok
      exact one _ rfl rfl hlen
    · rename_i e se hu
      obtain ⟨a, len, cap, rfl⟩ := WideShapes.okWide_slice hu hok
      exact one _ rfl rfl hlen
    · rename_i s1 _ _ fs hu
      simp only [Bool.and_eq_true] at hs
      obtain ⟨h3, _⟩ := hs
      simp only [Value.okWide, hu] at hok
      obtain ⟨cs, rfl, _⟩ := hok
      cases s1 with
      | nil => exact agg _ rfl
      | cons a b => exact agg _ rfl
      | _ => cases hfs : fs.toList <;> simp [hfs, fsOk] at h3
    · cases hs
end

end Go.AE
end
