/- Abstract machine: a law's row. -/
import Derived.Test.YtkfdpbhjklaecaaAeRead
import Derived.Below
import Derived.WideShapes
namespace Go.AE
open Go.RowKit Go.ChangeAt
set_option linter.unusedVariables false

def topA : Sh → List AV → AV
  | .nil, l => .agg l
  | .cons .., l => .agg l
  | _, l => l.headD .dead

def Imm0 (w : World) : Imm := fun _ b => b < w.heap.size

section
variable {H : Type} {enc : TypeId × Value → H} {P : Program} {w : World} {base : Nat} {spare : Nat → Bool} {held : Bool} {ρ : Names} {I : Imm}

theorem VRl.head {a : AV} {l : List AV} {u : Value} {us : List Value} (h : VRl ρ I w (a :: l) (u :: us)) : VR ρ I w a u := h.2 0 a u rfl rfl

theorem arg_vr {blk : DataW H → Nat} {B : Nat} (hblk : Blk blk) (hB : B ≤ LIM) {n : Nat} {s : Sh} {t : TypeId} {v : Value} {d : DataW H} {ps : List MemPlace} {r : Reach} {b0 : Nat} {W : World}
    (hs : shOk P n t s = true) (ht : DataW.Trod enc P W base spare held t v d ps) (hok : Value.okWide P W r b0 t v) (hb : blk d ≤ B ∨ s.flat = true) :
    ∃ l, ShR B s l ∧ VR ρ (Imm0 W) W (topA s l) v := by
  obtain ⟨fuel, ht⟩ := ht
  obtain ⟨l, h1, h2⟩ := trod_vr (ρ := ρ) (I := Imm0 W) hblk (fun b hb => hb) hB n s t fuel _ _ hs ht hb
  refine ⟨l, h1, ?_⟩
  have hlen := h1.length
  cases n with
  | zero => simp [shOk] at hs
  | succ n =>
    unfold shOk at hs
    have one : ∀ (x : Value), v = x → (v.cells.toList = [x]) → l.length = 1 → VR ρ (Imm0 W) W (l.headD .dead) v := by
      intro x hx hc hl
      match l, hl with
      | [a], _ => rw [hc] at h2; rw [hx]; exact h2.head
    have agg : ∀ cs, v = .agg cs → VR ρ (Imm0 W) W (.agg l) v := by
      rintro cs rfl
      exact .agg l cs (by simpa [Value.cells] using h2.1) fun i x u hx hu => h2.2 i x u hx (by simpa [Value.cells] using hu)
    split at hs
    · rename_i k k' hu
      obtain ⟨z, rfl⟩ := WideShapes.okWide_int hu hok
      exact one _ rfl rfl hlen
    · rename_i hu
      have : ∃ z, v = .bool z := by
        simp only [Value.okWide, hu, Cell.okWide] at hok
        cases v <;> simp_all [Cell.ok]
      obtain ⟨z, rfl⟩ := this
      exact one _ rfl rfl hlen
    · rename_i hu
      obtain ⟨z, rfl⟩ := WideShapes.okWide_string hu hok
      exact one _ rfl rfl hlen
    · rename_i e se hu
      obtain ⟨a, len, cap, rfl⟩ := WideShapes.okWide_slice hu hok
      exact one _ rfl rfl hlen
    · rename_i s1 _ _ fs hu
      simp only [Bool.and_eq_true] at hs
      obtain ⟨h3, _⟩ := hs
      simp only [Value.okWide, hu] at hok
      obtain ⟨cs, rfl, _⟩ := hok
      cases s1 with
      | nil => exact agg _ rfl
      | cons a b => exact agg _ rfl
      | _ => cases hfs : fs.toList <;> simp [hfs, fsOk] at h3
    · cases hs
end

/-- A law's call, out of its contract. -/
theorem law_calls {P : Program} {f : FuncId} {args : List AV} {W : World} {vs : Array Value} (hc : PC P f args (.bool true)) (hv : VRs (fun _ => none) (Imm0 W) W args vs) :
    Calls P f vs W fun e w' => e = .returned (.bool true) ∧ Below W.heap.size W w' := by
  have := hc (fun _ => none) 0 (fun r _ _ => r = .bool true) rfl
  refine (this.2 (fun _ => none) (Imm0 W) W vs (fun _ _ h => (by cases h)) ⟨fun _ _ h => (by cases h), fun _ _ _ h => (by cases h), fun _ _ _ _ _ _ _ h => (by cases h), fun _ _ _ _ _ h => (by cases h), fun _ _ h => h⟩ hv).mono ?_
  rintro e w' ⟨v, r, h', nx', ρ', I', rfl, rfl, hvr, H', E, _, _, _⟩
  cases hvr
  exact ⟨rfl, E.os, E.tape, E.output, E.size, fun k hk => E.frame k hk fun ⟨_, _, _, h, _⟩ => (by cases h)⟩

theorem vrs_nil {ρ I w} : VRs ρ I w [] #[] := ⟨rfl, fun i x u h => by simp at h⟩
theorem vrs1 {ρ I w} {a : AV} {u : Value} (h : VR ρ I w a u) : VRs ρ I w [a] #[u] := ⟨rfl, fun i x v hx hv => by
  match i with
  | 0 => simp at hx hv; subst hx; subst hv; exact h
  | _ + 1 => simp at hx⟩
theorem vrs2 {ρ I w} {a b : AV} {u v : Value} (h : VR ρ I w a u) (h2 : VR ρ I w b v) : VRs ρ I w [a, b] #[u, v] := ⟨rfl, fun i x y hx hy => by
  match i with
  | 0 => simp at hx hy; subst hx; subst hy; exact h
  | 1 => simp at hx hy; subst hx; subst hy; exact h2
  | _ + 2 => simp at hx⟩
theorem vrs3 {ρ I w} {a b c : AV} {u v t : Value} (h : VR ρ I w a u) (h2 : VR ρ I w b v) (h3 : VR ρ I w c t) : VRs ρ I w [a, b, c] #[u, v, t] := ⟨rfl, fun i x y hx hy => by
  match i with
  | 0 => simp at hx hy; subst hx; subst hy; exact h
  | 1 => simp at hx hy; subst hx; subst hy; exact h2
  | 2 => simp at hx hy; subst hx; subst hy; exact h3
  | _ + 3 => simp at hx⟩
end Go.AE
