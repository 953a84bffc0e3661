/- Abstract machine: how abstract memory follows the model's. -/
import Derived.Test.YtkfdpbhjklaecaaAeSound1
namespace Go.AE
set_option linter.unusedVariables false

theorem RowR.mono {ρ ρ' : Names} {I I' : Imm} {w w' : World} {id sz xs} (r : RowR ρ I w id sz xs) (hr : ∀ id B, ρ id = some B → ρ' id = some B)
    (hI : ∀ p b, I p b → I' p b) (hw : ∀ p b, I p b → w'.heap[b]? = w.heap[b]?) (ho : ∀ B b, ρ id = some B → B.blk = some b → w'.heap[b]? = w.heap[b]?) :
    RowR ρ' I' w' id sz xs := by
  obtain ⟨B, h1, h2, h3, h4, h5, h6⟩ := r
  refine ⟨B, hr _ _ h1, h2, h3, h4, h5, ?_⟩
  rcases h6 with h6 | ⟨b, cur, ty, g1, g2, g3, g4, g5, g6⟩
  · exact .inl h6
  · exact .inr ⟨b, cur, ty, g1, (ho B b h1 g1).trans g2, g3, g4, g5, fun i j x u hx hu => (g6 i j x u hx hu).mono hr hI hw⟩

theorem ObjR.mono {ρ ρ' : Names} {I I' : Imm} {w w' : World} {id cells} (r : ObjR ρ I w id cells) (hr : ∀ id B, ρ id = some B → ρ' id = some B)
    (hI : ∀ p b, I p b → I' p b) (hw : ∀ p b, I p b → w'.heap[b]? = w.heap[b]?) (ho : ∀ B b, ρ id = some B → B.blk = some b → w'.heap[b]? = w.heap[b]?) :
    ObjR ρ' I' w' id cells := by
  obtain ⟨B, b, cur, ty, h1, h2, h3, h4, h5⟩ := r
  exact ⟨B, b, cur, ty, hr _ _ h1, h2, (ho B b h1 h2).trans h3, h4, fun i x u hx hu => (h5 i x u hx hu).mono hr hI hw⟩

def EntR (ρ : Names) (I : Imm) (w : World) (id : Nat) : Ent → Prop
  | .obj cells => ObjR ρ I w id cells
  | .row sz xs => RowR ρ I w id sz xs

theorem HRel.ent {ρ I w h} (H : HRel ρ I w h) {id e} (he : h id = some e) : EntR ρ I w id e := by
  cases e with
  | obj cells => exact H.obj id cells he
  | row sz xs => exact H.row id sz xs he

theorem EntR.base {ρ I w id e} (h : EntR ρ I w id e) : ∃ B, ρ id = some B := by
  cases e with
  | obj cells => obtain ⟨B, b, cur, ty, h1, _⟩ := h; exact ⟨B, h1⟩
  | row sz xs => obtain ⟨B, h1, _⟩ := h; exact ⟨B, h1⟩

theorem EntR.lt {ρ I w id e} (h : EntR ρ I w id e) {B b} (hB : ρ id = some B) (hb : B.blk = some b) : b < w.heap.size := by
  cases e with
  | obj cells =>
    obtain ⟨B', b', cur, ty, h1, h2, h3, _⟩ := h
    rw [hB] at h1; cases h1; rw [hb] at h2; cases h2
    exact (Array.getElem?_eq_some_iff.1 h3).1
  | row sz xs =>
    obtain ⟨B', h1, _, _, _, _, h6⟩ := h
    rw [hB] at h1; cases h1
    rcases h6 with ⟨h6, _⟩ | ⟨b', cur, ty, g1, g2, _⟩
    · rw [hb] at h6; cases h6
    · rw [hb] at g1; cases g1
      exact (Array.getElem?_eq_some_iff.1 g2).1

theorem Owns.lt {ρ I w h b} (H : HRel ρ I w h) (o : Owns h ρ b) : b < w.heap.size := by
  obtain ⟨id, e, B, h1, h2, h3⟩ := o
  exact (H.ent h1).lt h2 h3

theorem HRel.replace {ρ ρ' : Names} {I : Imm} {w w' : World} {h h' : Heap} (H : HRel ρ I w h) {id0 : Nat} {e0 : Ent} {B0 : Base}
    (hρ : ∀ id B, ρ id = some B → ρ' id = some B) (hold : ∀ id e, id ≠ id0 → h' id = some e → h id = some e)
    (hid0 : h' id0 = some e0) (hB : ρ' id0 = some B0)
    (hdisj : ∀ id e B b, id ≠ id0 → h' id = some e → ρ id = some B → B0.blk = some b → B.blk ≠ some b)
    (himm : ∀ b p, B0.blk = some b → ¬ I p b)
    (hw : ∀ k, k < w.heap.size → B0.blk ≠ some k → w'.heap[k]? = w.heap[k]?) (hsize : w.heap.size ≤ w'.heap.size)
    (hrel : EntR ρ' I w' id0 e0) : HRel ρ' I w' h' := by
  have hwi : ∀ p b, I p b → w'.heap[b]? = w.heap[b]? := fun p b hb => hw b (H.immlt p b hb) fun e => himm b p e hb
  have key : ∀ id e, h' id = some e → EntR ρ' I w' id e := by
    intro id e he
    by_cases hid : id = id0
    · subst hid; rw [hid0] at he; cases he; exact hrel
    · have ho := hold id e hid he
      have hown : ∀ B b, ρ id = some B → B.blk = some b → w'.heap[b]? = w.heap[b]? := fun B b hB' hb =>
        hw b ((H.ent ho).lt hB' hb) fun e0' => hdisj id e B b hid he hB' e0' hb
      cases e with
      | obj cells => exact ObjR.mono (H.obj id cells ho) hρ (fun _ _ h => h) hwi hown
      | row sz xs => exact RowR.mono (H.row id sz xs ho) hρ (fun _ _ h => h) hwi hown
  have base : ∀ id e B, id ≠ id0 → h' id = some e → ρ' id = some B → ρ id = some B := by
    intro id e B hid he hB'
    obtain ⟨B1, h1⟩ := (H.ent (hold id e hid he)).base
    have := hρ id B1 h1
    rw [hB'] at this; cases this; exact h1
  refine ⟨fun id cells he => key id _ he, fun id sz xs he => key id _ he, ?_, ?_, fun p b hb => Nat.lt_of_lt_of_le (H.immlt p b hb) hsize⟩
  · intro id id' e e' B B' b he he' hne hBi hBi' hb
    by_cases h1 : id = id0
    · subst h1
      rw [hB] at hBi; cases hBi
      have h2 : id' ≠ id := fun e => hne e.symm
      exact hdisj id' e' B' b h2 he' (base id' e' B' h2 he' hBi') hb
    · by_cases h2 : id' = id0
      · subst h2
        rw [hB] at hBi'; cases hBi'
        intro hb'
        exact hdisj id e B b h1 he (base id e B h1 he hBi) hb' hb
      · exact H.sep id id' e e' B B' b (hold id e h1 he) (hold id' e' h2 he') hne (base id e B h1 he hBi) (base id' e' B' h2 he' hBi') hb
  · intro id e B b p he hBi hb
    by_cases h1 : id = id0
    · subst h1
      rw [hB] at hBi; cases hBi
      exact himm b p hb
    · exact H.imm id e B b p (hold id e h1 he) (base id e B h1 he hBi) hb

theorem Ext.replace {ρ ρ' : Names} {I : Imm} {w w' : World} {h h' : Heap} (H : HRel ρ I w h) {id0 : Nat} {e0 : Ent} {B0 : Base}
    (hρ : ∀ id B, ρ id = some B → ρ' id = some B) (hold : ∀ id e, id ≠ id0 → h' id = some e → h id = some e)
    (hid0 : h' id0 = some e0) (hB : ρ' id0 = some B0)
    (hown : ∀ b, B0.blk = some b → Owns h ρ b ∨ w.heap.size ≤ b)
    (hw : ∀ k, k < w.heap.size → B0.blk ≠ some k → w'.heap[k]? = w.heap[k]?) (hsize : w.heap.size ≤ w'.heap.size)
    (hos : w'.os = w.os) (htape : w'.tape = w.tape) (hout : w'.output = w.output) : Ext h ρ I w h' ρ' I w' where
  rho := hρ
  imm _ _ h := h
  bor _ h := h
  immN _ h := .inl h
  own b := by
    rintro ⟨id, e, B, h1, h2, h3⟩
    by_cases hid : id = id0
    · subst hid
      rw [hB] at h2; cases h2
      exact hown b h3
    · obtain ⟨B1, g1⟩ := (H.ent (hold id e hid h1)).base
      have := hρ id B1 g1
      rw [h2] at this; cases this
      exact .inl ⟨id, e, B, hold id e hid h1, g1, h3⟩
  os := hos
  tape := htape
  output := hout
  size := hsize
  frame k hk hno := hw k hk fun e => by
    rcases hown k e with h | h
    · exact hno h
    · omega

/-- A new block, under a name not yet given. -/
theorem alloc_ext {ρ : Names} {I : Imm} {w w' : World} {h h' : Heap} (H : HRel ρ I w h) {id0 : Nat} {e0 : Ent} {B0 : Base} (hn : ρ id0 = none)
    (hold : ∀ id e, id ≠ id0 → h' id = some e → h id = some e) (hid0 : h' id0 = some e0)
    (hb : B0.blk = none ∨ B0.blk = some w.heap.size) (hwk : ∀ k, k < w.heap.size → w'.heap[k]? = w.heap[k]?)
    (hsize : w.heap.size ≤ w'.heap.size) (hos : w'.os = w.os) (htape : w'.tape = w.tape) (hout : w'.output = w.output)
    (hrel : EntR (upd ρ id0 (some B0)) I w' id0 e0) : HRel (upd ρ id0 (some B0)) I w' h' ∧ Ext h ρ I w h' (upd ρ id0 (some B0)) I w' := by
  have hρ : ∀ id B, ρ id = some B → upd ρ id0 (some B0) id = some B := by
    intro id B hB
    have hne : id ≠ id0 := fun e => by subst e; rw [hn] at hB; cases hB
    rw [upd_ne _ _ _ _ hne]; exact hB
  have hB : upd ρ id0 (some B0) id0 = some B0 := upd_same ..
  have hge : ∀ b, B0.blk = some b → b = w.heap.size := fun b hb' => by
    rcases hb with h | h
    · rw [h] at hb'; cases hb'
    · rw [h] at hb'; cases hb'; rfl
  refine ⟨H.replace hρ hold hid0 hB ?_ ?_ (fun k hk _ => hwk k hk) hsize hrel, Ext.replace H hρ hold hid0 hB (fun b hb' => .inr (by rw [hge b hb']; exact Nat.le_refl _)) (fun k hk _ => hwk k hk) hsize hos htape hout⟩
  · intro id e B b hne he hBi hb' hb2
    have := (H.ent (hold id e hne he)).lt hBi hb2
    have := hge b hb'
    omega
  · intro b p hb' hi
    have := H.immlt p b hi
    have := hge b hb'
    omega

end Go.AE
