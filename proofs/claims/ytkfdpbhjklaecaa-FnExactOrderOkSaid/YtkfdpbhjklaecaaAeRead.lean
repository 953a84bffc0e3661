/- Abstract machine: what the arguments read as. -/
import Derived.Test.YtkfdpbhjklaecaaAeFz
import Derived.ChangeShapes
import Derived.Deep.Slices
import Derived.DataReads
namespace Go.AE
open Go.ChangeShapes Go.Deep
set_option linter.unusedVariables false
set_option linter.unusedSimpArgs false

/-- Shapes of plain data; 'nil' and 'cons' are a struct's fields. -/
inductive Sh where
  | int (k : IntKind)
  | bool
  | str
  | slice (e : Sh)
  | nil
  | cons (s r : Sh)

def Sh.size : Sh → Nat
  | .nil => 0
  | .cons s r => s.size + r.size
  | _ => 1
def Sh.flat : Sh → Bool
  | .int _ | .bool | .nil => true
  | .cons s r => s.flat && r.flat
  | _ => false

/-- What values have the shape; B bounds lengths. -/
def ShR (B : Nat) : Sh → List AV → Prop
  | .int k, l => ∃ n, l = [.int k n] ∧ (Lit.int k n).wf = true
  | .bool, l => ∃ b, l = [.bool b]
  | .str, l => ∃ s, l = [.str s] ∧ s.size ≤ B
  | .slice e, l => l = [.nil] ∨ ∃ xs, l = [.view true e.size xs] ∧ xs.length ≤ B ∧ ∀ c ∈ xs, ShR B e c
  | .nil, l => l = []
  | .cons s r, l => ∃ x y, l = x ++ y ∧ ShR B s x ∧ ShR B r y

theorem ShR.length {B : Nat} : ∀ {s : Sh} {l : List AV}, ShR B s l → l.length = s.size
  | .int k, l, ⟨n, h, _⟩ => by subst h; rfl
  | .bool, l, ⟨n, h⟩ => by subst h; rfl
  | .str, l, ⟨n, h, _⟩ => by subst h; rfl
  | .slice e, l, h => by rcases h with h | ⟨xs, h, _⟩ <;> subst h <;> rfl
  | .nil, l, h => by simp only [ShR] at h; subst h; rfl
  | .cons s r, l, ⟨x, y, h, h1, h2⟩ => by subst h; simp [Sh.size, h1.length, h2.length]

def fsOk (P : Program) (ok : TypeId → Sh → Bool) : Nat → List Field → Sh → Bool
  | _, [], .nil => true
  | off, f :: fs, .cons a b => f.offset == off && ok f.type a && P.cellsOf f.type == a.size && fsOk P ok (off + a.size) fs b
  | _, _, _ => false
def shOk (P : Program) : Nat → TypeId → Sh → Bool
  | 0, _, _ => false
  | n + 1, t, s =>
    match P.underlying t, s with
    | some (.int k), .int k' => decide (k = k')
    | some .bool, .bool => true
    | some .string, .str => true
    | some (.slice e), .slice s => shOk P n e s && P.cellsOf e == s.size && decide (0 < s.size)
    | some (.struct fs), s => fsOk P (shOk P n) 0 fs.toList s && P.cellsOf t == s.size
    | _, _ => false

section
variable {H : Type} {enc : TypeId × Value → H} {P : Program} {w : World} {base : Nat} {spare : Nat → Bool} {held : Bool} {ρ : Names} {I : Imm}

def VRl (ρ : Names) (I : Imm) (w : World) (l : List AV) (cs : List Value) : Prop := cs.length = l.length ∧ ∀ (i : Nat) a u, l[i]? = some a → cs[i]? = some u → VR ρ I w a u

theorem VRl.one {a : AV} {u : Value} (h : VR ρ I w a u) : VRl ρ I w [a] [u] := ⟨rfl, fun i x v hx hv => by
  cases i with
  | zero => simp at hx hv; subst hx; subst hv; exact h
  | succ => simp at hx⟩
theorem VRl.append {a b : List AV} {u v : List Value} (h1 : VRl ρ I w a u) (h2 : VRl ρ I w b v) : VRl ρ I w (a ++ b) (u ++ v) := by
  refine ⟨by simp [h1.1, h2.1], fun i x y hx hy => ?_⟩
  by_cases hi : i < a.length
  · rw [List.getElem?_append_left hi] at hx
    rw [List.getElem?_append_left (by rw [h1.1]; exact hi)] at hy
    exact h1.2 i x y hx hy
  · rw [List.getElem?_append_right (by omega)] at hx
    rw [List.getElem?_append_right (by rw [h1.1]; omega), h1.1] at hy
    exact h2.2 _ x y hx hy

/-- A measure of what is read. -/
structure Blk (blk : DataW H → Nat) : Prop where
  str : ∀ b, b.length ≤ blk (.lit (.string b))
  len : ∀ es sp, es.length ≤ blk (.slice es sp)
  elem : ∀ es sp, ∀ e ∈ es, blk e ≤ blk (.slice es sp)
  part : ∀ ps, ∀ e ∈ ps, blk e ≤ blk (.agg ps)

mutual
/-- How much is read. -/
def abulk {H : Type} : DataW H → Nat
  | .lit (.string bytes) => bytes.length + 1
  | .lit _ => 1
  | .nil => 1
  | .ptr d => abulk d + 1
  | .slice elems spare => abulks elems + abulks spare + 1
  | .agg parts => abulks parts + 1
  | .iface _ d => abulk d + 1
  | .map _ => 1
  | .held _ => 1
def abulks {H : Type} : List (DataW H) → Nat
  | [] => 0
  | d :: r => abulk d + abulks r
end
theorem abulk_pos {H : Type} (d : DataW H) : 1 ≤ abulk d := by
  cases d with
  | lit l => cases l <;> simp [abulk]
  | _ => simp [abulk]
theorem abulks_len {H : Type} : ∀ (l : List (DataW H)), l.length ≤ abulks l
  | [] => Nat.le_refl _
  | d :: r => by have := abulk_pos d; have := abulks_len r; simp only [List.length_cons, abulks]; omega
theorem abulks_mem {H : Type} : ∀ (l : List (DataW H)), ∀ e ∈ l, abulk e ≤ abulks l
  | [], e, h => by simp at h
  | d :: r, e, h => by
    simp only [abulks]
    rcases List.mem_cons.1 h with rfl | h
    · omega
    · have := abulks_mem r e h; omega
theorem blkA {H : Type} : Blk (abulk (H := H)) where
  str b := by simp [abulk]
  len es sp := by have := abulks_len es; simp only [abulk]; omega
  elem es sp e he := by have := abulks_mem es e he; simp only [abulk]; omega
  part ps e he := by have := abulks_mem ps e he; simp only [abulk]; omega

theorem fields_vr {blk : DataW H → Nat} {B : Nat} {ok : TypeId → Sh → Bool} {m : Nat} {cs : List Value}
    (ih : ∀ (s : Sh) (t : TypeId) (cs : List Value) (x : DataW H × List MemPlace), ok t s = true → DataW.trod enc P w base spare held m t cs = some x → (blk x.1 ≤ B ∨ s.flat = true) → ∃ l, ShR B s l ∧ VRl ρ I w l cs) :
    ∀ (s : Sh) (fs : List Field) (off : Nat) (xs : List (DataW H × List MemPlace)), fsOk P ok off fs s = true → xs.length = fs.length →
      (∀ (i : Nat) (f : Field), fs[i]? = some f → DataW.trod enc P w base spare held m f.type ((cs.drop f.offset).take (P.cellsOf f.type)) = xs[i]?) →
      ((∀ x ∈ xs, blk x.1 ≤ B) ∨ s.flat = true) → off + s.size ≤ cs.length → ∃ l, ShR B s l ∧ VRl ρ I w l ((cs.drop off).take s.size) := by
  intro s
  induction s with
  | nil =>
    intro fs off xs hok hl hx hb hle
    exact ⟨[], rfl, by simp [Sh.size], fun i a u h => by simp at h⟩
  | cons a b _ ihb =>
    intro fs off xs hok hl hx hb hle
    cases fs with
    | nil => simp [fsOk] at hok
    | cons f fs =>
      cases xs with
      | nil => simp at hl
      | cons x xs =>
        simp only [fsOk, Bool.and_eq_true, beq_iff_eq] at hok
        obtain ⟨⟨⟨h1, h2⟩, h3⟩, h4⟩ := hok
        simp only [Sh.size] at hle
        have ht := hx 0 f rfl
        rw [h1, h3] at ht
        obtain ⟨la, ra, va⟩ := ih a f.type _ x h2 ht (by
          rcases hb with hb | hb
          · exact .inl (hb x (by simp))
          · simp only [Sh.flat, Bool.and_eq_true] at hb; exact .inr hb.1)
        obtain ⟨lb, rb, vb⟩ := ihb fs (off + a.size) xs h4 (by simpa using hl) (fun i g hg => by
          have := hx (i + 1) g (by simpa using hg)
          simpa using this) (by
          rcases hb with hb | hb
          · exact .inl fun x hx => hb x (by simp [hx])
          · simp only [Sh.flat, Bool.and_eq_true] at hb; exact .inr hb.2) (by omega)
        refine ⟨la ++ lb, ⟨la, lb, rfl, ra, rb⟩, ?_⟩
        have e : (cs.drop off).take (Sh.cons a b).size = (cs.drop off).take a.size ++ (cs.drop (off + a.size)).take b.size := by
          simp only [Sh.size]
          rw [List.take_add, List.drop_drop]
        rw [e]
        exact va.append vb
  | _ =>
    intro fs off xs hok
    cases fs <;> simp [fsOk] at hok

theorem trod_vr {blk : DataW H → Nat} {B : Nat} (hblk : Blk blk) (hI : ∀ b, b < w.heap.size → I true b) (hB : B ≤ LIM) : ∀ (n : Nat) (s : Sh) (t : TypeId) (fuel : Nat) (cs : List Value) (x : DataW H × List MemPlace),
    shOk P n t s = true → DataW.trod enc P w base spare held fuel t cs = some x → (blk x.1 ≤ B ∨ s.flat = true) → ∃ l, ShR B s l ∧ VRl ρ I w l cs := by
  intro n
  induction n with
  | zero => intro s t fuel cs x h; simp [shOk] at h
  | succ n ih =>
    intro s t fuel cs x hs ht hb
    unfold shOk at hs
    split at hs
    · rename_i k k' hu
      simp only [decide_eq_true_eq] at hs
      subst hs
      obtain ⟨z, rfl, rfl, hw⟩ := DataW.trod_int hu ht
      exact ⟨[.int k z], ⟨z, rfl, hw⟩, VRl.one (.int k z)⟩
    · rename_i hu
      obtain ⟨z, rfl, rfl⟩ := DataW.trod_bool hu ht
      exact ⟨[.bool z], ⟨z, rfl⟩, VRl.one (.bool z)⟩
    · rename_i hu
      obtain ⟨z, rfl, rfl, hw⟩ := DataW.trod_string hu ht
      refine ⟨[.str z], ⟨z, rfl, ?_⟩, VRl.one (.str z)⟩
      rcases hb with hb | hb
      · exact Nat.le_trans (hblk.str z.data.toList) hb
      · cases hb
    · rename_i e se hu
      simp only [Bool.and_eq_true, beq_iff_eq, decide_eq_true_eq] at hs
      obtain ⟨⟨h1, h2⟩, h3⟩ := hs
      have hb : blk x.1 ≤ B := by
        rcases hb with hb | hb
        · exact hb
        · cases hb
      rcases open_slice hu ht with ⟨rfl, rfl⟩ | ⟨a, len, cap, m, n', D, Pl, rfl, hba, hl, hm, hmm, rfl, hx⟩
      · exact ⟨[.nil], .inl rfl, VRl.one .nil⟩
      · have hlm : len ≤ m := by rw [hmm]; split <;> omega
        have hlen : len ≤ B := by
          have := hblk.len ((List.range len).map D) ((List.range (m - len)).map fun j => D (len + j))
          simp only [List.length_map, List.length_range] at this
          exact Nat.le_trans this hb
        rw [h2] at hx
        have hx' : ∀ i, i < len → ∃ l, ShR B se l ∧ ∃ cs', w.cells? base (a.add (i * se.size)) se.size = some cs' ∧ VRl ρ I w l cs' := by
          intro i hi
          obtain ⟨cs', g1, g2⟩ := hx i (by omega)
          obtain ⟨l, g3, g4⟩ := ih se e n' cs' _ h1 g2 (.inl (Nat.le_trans (hblk.elem _ _ (D i) (List.mem_map.2 ⟨i, List.mem_range.2 hi, rfl⟩)) hb))
          exact ⟨l, g3, cs', g1, g4⟩
        obtain ⟨f, hf⟩ := choose_lt hx'
        refine ⟨[.view true se.size ((List.range len).map f)], .inr ⟨_, rfl, by simpa using hlen, fun c hc => ?_⟩, VRl.one ?_⟩
        · obtain ⟨i, hi, rfl⟩ := List.mem_map.1 hc
          exact (hf i (List.mem_range.1 hi)).1
        · cases len with
          | zero => exact .viewNil ..
          | succ len =>
            have hcell : ∀ i j, i < len + 1 → j < se.size → ∃ u, w.cell? ⟨a.block, a.off + i * se.size + j, none⟩ = some u ∧ ∀ y, (f i)[j]? = some y → VR ρ I w y u := by
              intro i j hi hj
              obtain ⟨_, cs', g1, g2⟩ := hf i hi
              obtain ⟨q1, q2, q3⟩ := World.cells?_some g1
              have q4 := q3 j hj
              rw [List.getElem?_eq_getElem (by omega)] at q4
              have hsp : ((a.add (i * se.size)).add j).spot = none := by
                cases hs : ((a.add (i * se.size)).add j).spot with
                | none => rfl
                | some _ =>
                  unfold World.cell? at q4
                  simp only [hs, Option.isSome_some, if_true] at q4
                  split at q4 <;> cases q4
              have hadd : (a.add (i * se.size)).add j = ⟨a.block, a.off + i * se.size + j, none⟩ := by
                rw [add_add] at hsp ⊢
                unfold Addr.add at hsp ⊢
                split
                · rename_i h0
                  rw [if_pos h0] at hsp
                  cases a; simp_all
                · simp [Nat.add_assoc]
              rw [hadd] at q4
              refine ⟨_, q4, fun y hy => g2.2 j y _ hy (List.getElem?_eq_getElem (by omega))⟩
            have hlt : a.block < w.heap.size := by
              obtain ⟨u, hu, _⟩ := hcell 0 0 (by omega) h3
              unfold World.cell? at hu
              split at hu
              · rename_i heq
                exact (Array.getElem?_eq_some_iff.1 heq).1
              · cases hu
            have hsp : a.spot = none := by
              obtain ⟨_, cs', g1, g2⟩ := hf 0 (by omega)
              obtain ⟨q1, q2, q3⟩ := World.cells?_some g1
              have q4 := q3 0 h3
              rw [List.getElem?_eq_getElem (by omega)] at q4
              simp only [Nat.zero_mul, Addr.add, if_true] at q4
              cases hs : a.spot with
              | none => rfl
              | some _ =>
                unfold World.cell? at q4
                simp only [hs, Option.isSome_some, if_true] at q4
                split at q4 <;> cases q4
            have ha : a = ⟨a.block, a.off, none⟩ := by cases a; simp_all
            have hl1 : ((List.range (len + 1)).map f).length = len + 1 := by simp
            have := VR.view (ρ := ρ) (I := I) (w := w) true se.size ((List.range (len + 1)).map f) a.block a.off cap (hI _ hlt) (by rw [hl1]; omega) (by rw [hl1]; exact hl) (fun i x hx => ?_) (fun i j x hx => ?_) (fun i j x u hx hu => ?_)
            · rw [hl1, ← ha] at this; exact this
            · rw [List.getElem?_map, Option.map_eq_some_iff] at hx
              obtain ⟨i', hi', rfl⟩ := hx
              have := (List.getElem?_eq_some_iff.1 hi')
              obtain ⟨q1, q2⟩ := this
              simp at q1 q2; subst q2
              exact (hf i (by omega)).1.length
            · obtain ⟨cells, q1, q2⟩ := get2_some hx
              rw [List.getElem?_map, Option.map_eq_some_iff] at q1
              obtain ⟨i', hi', rfl⟩ := q1
              obtain ⟨q3, q4⟩ := (List.getElem?_eq_some_iff.1 hi')
              simp at q3 q4; subst q4
              have hj : j < se.size := by rw [← (hf i (by omega)).1.length]; exact (List.getElem?_eq_some_iff.1 q2).1
              obtain ⟨u, hu, _⟩ := hcell i j (by omega) hj
              exact ⟨u, hu⟩
            · obtain ⟨cells, q1, q2⟩ := get2_some hx
              rw [List.getElem?_map, Option.map_eq_some_iff] at q1
              obtain ⟨i', hi', rfl⟩ := q1
              obtain ⟨q3, q4⟩ := (List.getElem?_eq_some_iff.1 hi')
              simp at q3 q4; subst q4
              have hj : j < se.size := by rw [← (hf i (by omega)).1.length]; exact (List.getElem?_eq_some_iff.1 q2).1
              obtain ⟨u', hu', h'⟩ := hcell i j (by omega) hj
              rw [hu'] at hu; cases hu
              exact h' x q2
    · rename_i fs hu

      simp only [Bool.and_eq_true, beq_iff_eq] at hs
      obtain ⟨h1, h2⟩ := hs
      obtain ⟨xs, m, rfl, rfl, hl, hlen, hf⟩ := DataW.trod_struct hu ht
      have := fields_vr (enc := enc) (P := P) (w := w) (base := base) (spare := spare) (held := held) (ρ := ρ) (I := I) (blk := blk) (B := B) (ok := shOk P n) (m := m) (cs := cs)
        (fun s t cs x => ih s t m cs x) _ fs.toList 0 xs h1 (by simpa using hlen) (fun i f hi => hf i f (by simpa using hi)) (by
          rcases hb with hb | hb
          · exact .inl fun x hx => Nat.le_trans (hblk.part _ x.1 (List.mem_map.2 ⟨x, hx, rfl⟩)) hb
          · exact .inr hb) (by omega)
      rw [List.drop_zero, List.take_of_length_le (by omega)] at this
      exact this
    · cases hs
end
end Go.AE
