import Derived.Test.YtkfdpbhjklaecaaAeFz
import Derived.Test.YtkfdpbhjklaecaaTy
import Derived.IntWalk
set_option linter.unusedSimpArgs false
set_option linter.unusedVariables false
namespace Go.AE.Try
open Go.Proofs
def inR (x lo hi : Int) : Bool := decide (lo ≤ x) && decide (x ≤ hi)

theorem c26 (x lo hi : Int) : PC ctx.P 26 [.int .i64 x, .int .i64 lo, .int .i64 hi] (.bool (inR x lo hi)) := by
  refine PC.of okC Try.func26 rfl rfl (by kernel_rfl) (Nat.le_of_ble_eq_true rfl) (.bool _) fun h nx _ => ?_
  show goC ctx _ _ (.fin (RetP _ _ _ _ _))
  simp [run_guard]
  refine guardS_split ?_ ?_ <;> intro hb <;> simp [run_guard, hb, resultsA, resA, inR]
  all_goals simpa using hb

theorem c28 (x lo hi : Int) : PC ctx.P 28 [.int .i64 x, .int .i64 lo, .int .i64 hi] (.bool (inR x lo hi)) := by
  refine PC.of okC Try.func28 rfl rfl (by kernel_rfl) (Nat.le_of_ble_eq_true rfl) (.bool _) fun h nx _ => ?_
  show goC ctx _ _ (.fin (RetP _ _ _ _ _))
  simp [run_guard]
  refine guardS_split ?_ ?_ <;> intro hb <;> simp [run_guard, hb, resultsA, resA, inR]
  all_goals simpa using hb

theorem c7 (a b c d e : Int) : PC ctx.P 7 [.agg [.int .i64 a, .int .i64 b, .int .i64 c, .int .i64 d, .int .i64 e]] (.agg [.int .i64 a, .int .i64 b, .int .i64 c, .int .i64 d, .int .i64 e]) := by
  refine PC.of okC Try.func7 rfl rfl (by kernel_rfl) (Nat.le_of_ble_eq_true rfl) (.agg _ (by simp; repeat' constructor)) fun h nx _ => ?_
  show goC ctx _ _ (.fin (RetP _ _ _ _ _))
  simp [resultsA, resA, Nat.add_assoc]
theorem c29 (a b c d e : Int) : PC ctx.P 29 [.agg [.int .i64 a, .int .i64 b, .int .i64 c, .int .i64 d, .int .i64 e]] (.view true 1 [[.int .i64 b], [.int .i64 c], [.int .i64 d], [.int .i64 e]]) := by
  refine PC.of okC Try.func29 rfl rfl (by kernel_rfl) (Nat.le_of_ble_eq_true rfl) (.view' (by simp; repeat' constructor)) fun h nx _ => ?_
  show goC ctx _ _ (.fin (RetP _ _ _ _ _))
  simp [resultsA, resA, Nat.add_assoc]


def arity (k : Int) : Int := if k = 1 then 4 else if k = 6 ∨ k = 8 ∨ k = 11 ∨ k = 12 ∨ k = 13 then 1 else if k = 14 then 0 else 2


theorem c30 (k : Int) : PC ctx.P 30 [.int .i64 k] (.int .i64 (arity k)) := by
  refine PC.of okC Try.func30 rfl rfl (by kernel_rfl) (Nat.le_of_ble_eq_true rfl) (.int _ _) fun h nx _ => ?_
  show goC ctx _ _ (.fin (RetP _ _ _ _ _))
  by_cases h1 : k = 1
  · subst h1; simp [resultsA, resA, arity]
  by_cases h6 : k = 6
  · subst h6; simp [resultsA, resA, arity]
  by_cases h8 : k = 8
  · subst h8; simp [resultsA, resA, arity]
  by_cases h11 : k = 11
  · subst h11; simp [resultsA, resA, arity]
  by_cases h12 : k = 12
  · subst h12; simp [resultsA, resA, arity]
  by_cases h13 : k = 13
  · subst h13; simp [resultsA, resA, arity]
  by_cases h14 : k = 14
  · subst h14; simp [resultsA, resA, arity]
  simp [resultsA, resA, arity, h1, h6, h8, h11, h12, h13, h14, beq_eq_false_iff_ne.2 h1, beq_eq_false_iff_ne.2 h6, beq_eq_false_iff_ne.2 h8, beq_eq_false_iff_ne.2 h11, beq_eq_false_iff_ne.2 h12, beq_eq_false_iff_ne.2 h13, beq_eq_false_iff_ne.2 h14]

theorem c27 (k : Int) (h1 : 1 ≤ k) (h2 : k ≤ 14) : PC ctx.P 27 [.int .i64 k] (.int .i64 (arity k)) := by
  refine PC.of okC Try.func27 rfl rfl (by kernel_rfl) (Nat.le_of_ble_eq_true rfl) (.int _ _) fun h nx _ => ?_
  show goC ctx _ _ (.fin (RetP _ _ _ _ _))
  have hk : k = 1 ∨ k = 2 ∨ k = 3 ∨ k = 4 ∨ k = 5 ∨ k = 6 ∨ k = 7 ∨ k = 8 ∨ k = 9 ∨ k = 10 ∨ k = 11 ∨ k = 12 ∨ k = 13 ∨ k = 14 := by omega
  rcases hk with rfl | rfl | rfl | rfl | rfl | rfl | rfl | rfl | rfl | rfl | rfl | rfl | rfl | rfl <;>
    (simp; refine iaddr_ref rfl (by decide) (by decide) ?_; simp; refine loadE_row rfl ?_; simp [resultsA, resA, arity])

/-- One argument is in order. -/
def argOk (k : Int) (i : Nat) (x : Int) : Bool := !(!inR x (-1000) 1000000 || (decide (arity k ≤ i) && x != 0))
def argsOk (k : Int) : Nat → List Int → Bool
  | _, [] => true
  | i, x :: xs => argOk k i x && argsOk k (i + 1) xs

theorem argsOk_all {k : Int} : ∀ (xs : List Int) (o : Nat), (∀ (i : Nat) x, xs[i]? = some x → argOk k (o + i) x = true) → argsOk k o xs = true
  | [], _, _ => rfl
  | x :: xs, o, h => by
    simp only [argsOk, Bool.and_eq_true]
    exact ⟨h 0 x rfl, argsOk_all xs (o + 1) fun i y hy => by rw [Nat.add_assoc, Nat.add_comm 1]; exact h (i + 1) y (by simpa using hy)⟩
theorem argsOk_bad {k : Int} : ∀ (xs : List Int) (o i : Nat) (x : Int), xs[i]? = some x → argOk k (o + i) x = false → argsOk k o xs = false
  | [], _, i, x, h, _ => by simp at h
  | y :: xs, o, 0, x, h, hb => by
    simp at h; subst h; simp only [argsOk, Nat.add_zero] at hb ⊢; simp [hb]
  | y :: xs, o, i + 1, x, h, hb => by
    simp only [argsOk, argsOk_bad xs (o + 1) i x (by simpa using h) (by rw [Nat.add_assoc, Nat.add_comm 1]; exact hb), Bool.and_false]

def orderOk (k a b c d : Int) : Bool := inR k 1 14 && argsOk k 0 [a, b, c, d]
theorem wrap_succ {i n : Nat} (h : i < n) (hn : n ≤ 4611686018427387904) : IntKind.i64.wrap ((i : Int) + 1) = ((i + 1 : Nat) : Int) := by
  rw [IntWalk.i64_in _ (by omega)]; omega

theorem c6 (k a b c d : Int) : PC ctx.P 6 [.agg [.int .i64 k, .int .i64 a, .int .i64 b, .int .i64 c, .int .i64 d]] (.bool (orderOk k a b c d)) := by
  refine PC.of okC Try.func6 rfl rfl (by kernel_rfl) (Nat.le_of_ble_eq_true rfl) (.bool _) fun h nx _ => ?_
  show goC ctx _ _ (.fin (RetP _ _ _ _ _))
  simp [resultsA, resA]
  refine call_pc (c26 _ _ _) ?_
  simp [resultsA, resA]
  refine condS_split ?_ ?_ <;> intro hk <;> simp at hk <;> simp [resultsA, resA, orderOk, hk, Nat.add_assoc]
  refine go_loop_up 4 (fun i s => s.t 4 = .int .i64 i ∧ s.t 3 = .ref (nx + 14) 1 0 4 ∧ s.t 1 = .ptr nx 0 ∧ s.h nx = some (.obj [.int .i64 k, .int .i64 a, .int .i64 b, .int .i64 c, .int .i64 d]) ∧
      s.h (nx + 14) = some (.row 1 [[.int .i64 a], [.int .i64 b], [.int .i64 c], [.int .i64 d]]) ∧ KeepB nx s.h h ∧ ∀ (j : Nat) x, j < i → [a, b, c, d][j]? = some x → argOk k j x = true) ?_ ?_
  · exact ⟨rfl, by simp, by simp, by simp, by simp, by simp [Nat.add_assoc], fun j x hj => by omega⟩
  · rintro i ⟨t, h', n'⟩ hle ⟨hi, h3, h1, hp, hr, hK, hall⟩ next hn
    simp at hi h3 h1 hp hr hK
    have hk' : 1 ≤ k ∧ k ≤ 14 := by simpa [inR] using hk
    simp [hi, h3, h1, hp, hr]
    refine condS_split ?_ ?_ <;> intro hlt <;> simp at hlt
    · have hlt : i < 4 := by omega
      obtain ⟨x, hx⟩ : ∃ x, [a, b, c, d][i]? = some x := ⟨_, List.getElem?_eq_getElem (by simpa using hlt)⟩
      have hx' : [[AV.int .i64 a], [.int .i64 b], [.int .i64 c], [.int .i64 d]][i]? = some [.int .i64 x] := by
        show ([a, b, c, d].map fun x => [AV.int .i64 x])[i]? = _
        rw [List.getElem?_map, hx]; rfl
      simp [hi, h3, h1, hp, hr]
      refine iaddr_ref rfl (by omega) (by omega) ?_
      simp [hi, h3, h1, hp, hr]
      refine loadE_row hx' ?_
      simp
      refine call_pc (c26 _ _ _) ?_
      simp [run_guard]
      refine guardS_split ?_ ?_ <;> intro hb <;> simp at hb <;> simp [run_guard, hi, h3, h1, hp, hr, hb]
      · simp [resultsA, resA, hK]
        refine argsOk_bad _ 0 i x hx ?_
        simp [argOk, hb]
      · refine call_pc (c27 _ hk'.1 hk'.2) ?_
        simp [run_guard]
        refine guardS_split ?_ ?_ <;> intro hc <;> simp at hc <;> simp [run_guard, hi, h3, h1, hp, hr, hb, hc]
        · refine iaddr_ref rfl (by omega) (by omega) ?_
          simp [run_guard, hi, h3, h1, hp, hr]
          refine loadE_row hx' ?_
          simp [run_guard, hc]
          refine condS_split ?_ ?_ <;> intro hd <;> simp at hd <;> simp [resultsA, resA, hK, hi, hd]
          · exact argsOk_bad _ 0 i x hx (by simp [argOk, hb, hc, hd])
          · refine hn _ (by omega) ⟨by simp [wrap_succ hlt], by simp [h3], by simp [h1], by simp [hp], by simp [hr], hK, fun j y hj hy => ?_⟩
            by_cases hji : j = i
            · subst hji; rw [hx] at hy; cases hy; subst hd; simp [argOk, hb]
            · exact hall j y (by omega) hy
        · have hc' : ¬ arity k ≤ (i : Int) := by omega
          simp [run_guard, hc', hi]
          refine hn _ (by omega) ⟨by simp [wrap_succ hlt], by simp [h3], by simp [h1], by simp [hp], by simp [hr], hK, fun j y hj hy => ?_⟩
          by_cases hji : j = i
          · subst hji; rw [hx] at hy; cases hy; simp [argOk, hb, hc]
          · exact hall j y (by omega) hy
    · simp [resultsA, resA, hK]
      exact (argsOk_all _ 0 fun j y hy => by rw [Nat.zero_add]; exact hall j y (by have := (List.getElem?_eq_some_iff.1 hy).1; simp at this; omega) hy)

theorem c8 (k a b c d : Int) : PC ctx.P 8 [.agg [.int .i64 k, .int .i64 a, .int .i64 b, .int .i64 c, .int .i64 d]] (.bool (orderOk k a b c d)) := by
  refine PC.of okC Try.func8 rfl rfl (by kernel_rfl) (Nat.le_of_ble_eq_true rfl) (.bool _) fun h nx _ => ?_
  show goC ctx _ _ (.fin (RetP _ _ _ _ _))
  simp [resultsA, resA]
  refine call_pc (c28 _ _ _) ?_
  simp [resultsA, resA]
  refine condS_split ?_ ?_ <;> intro hk <;> simp at hk <;> simp [resultsA, resA, orderOk, hk, Nat.add_assoc]
  refine call_pc (c29 _ _ _ _ _) ?_
  simp
  refine lenS_slice rfl fun _ => ?_
  simp
  refine go_loop_up 4 (fun i s => s.t 12 = .int .i64 i ∧ s.t 11 = .int .i64 4 ∧ s.t 10 = .view true 1 [[.int .i64 a], [.int .i64 b], [.int .i64 c], [.int .i64 d]] ∧ s.t 1 = .ptr nx 0 ∧
      s.h nx = some (.obj [.int .i64 k, .int .i64 a, .int .i64 b, .int .i64 c, .int .i64 d]) ∧ KeepB nx s.h h ∧ ∀ (j : Nat) x, j < i → [a, b, c, d][j]? = some x → argOk k j x = true) ?_ ?_
  · exact ⟨rfl, by simp, by simp, by simp, by simp, by simp [Nat.add_assoc], fun j x hj => by omega⟩
  · rintro i ⟨t, h', n'⟩ hle ⟨hi, hn4, h10, h1, hp, hK, hall⟩ next hn
    simp at hi hn4 h10 h1 hp hK
    simp [hi, hn4, h10, h1, hp]
    refine condS_split ?_ ?_ <;> intro hlt <;> simp at hlt
    · have hlt : i < 4 := by omega
      obtain ⟨x, hx⟩ : ∃ x, [a, b, c, d][i]? = some x := ⟨_, List.getElem?_eq_getElem (by simpa using hlt)⟩
      have hx' : [[AV.int .i64 a], [.int .i64 b], [.int .i64 c], [.int .i64 d]][i]? = some [.int .i64 x] := by
        show ([a, b, c, d].map fun x => [AV.int .i64 x])[i]? = _
        rw [List.getElem?_map, hx]; rfl
      simp [hi, hn4, h10, h1, hp]
      refine iaddr_view rfl (by omega) hx' ?_
      simp [hi, hn4, h10, h1, hp]
      refine call_pc (c28 _ _ _) ?_
      simp [run_guard]
      refine guardS_split ?_ ?_ <;> intro hb <;> simp at hb <;> simp [run_guard, hi, hn4, h10, h1, hp, hb]
      · simp [resultsA, resA, hK]
        refine argsOk_bad _ 0 i x hx ?_
        simp [argOk, hb]
      · refine call_pc (c30 _) ?_
        simp [run_guard]
        refine guardS_split ?_ ?_ <;> intro hc <;> simp at hc <;> simp [run_guard, hi, hn4, h10, h1, hp, hb, hc]
        · refine condS_split ?_ ?_ <;> intro hd <;> simp at hd <;> simp [resultsA, resA, hK, hi, hd]
          · exact argsOk_bad _ 0 i x hx (by simp [argOk, hb, hc, hd])
          · refine hn _ (by omega) ⟨by simp [wrap_succ hlt], by simp [hn4], by simp [h10], by simp [h1], by simp [hp], hK, fun j y hj hy => ?_⟩
            by_cases hji : j = i
            · subst hji; rw [hx] at hy; cases hy; subst hd; simp [argOk, hb]
            · exact hall j y (by omega) hy
        · have hc' : ¬ arity k ≤ (i : Int) := by omega
          simp [run_guard, hc', hi]
          refine hn _ (by omega) ⟨by simp [wrap_succ hlt], by simp [hn4], by simp [h10], by simp [h1], by simp [hp], hK, fun j y hj hy => ?_⟩
          by_cases hji : j = i
          · subst hji; rw [hx] at hy; cases hy; simp [argOk, hb, hc]
          · exact hall j y (by omega) hy
    · simp [resultsA, resA, hK]
      exact (argsOk_all _ 0 fun j y hy => by rw [Nat.zero_add]; exact hall j y (by have := (List.getElem?_eq_some_iff.1 hy).1; simp at this; omega) hy)

theorem c3 (k a b c d : Int) : PC ctx.P 3 [.agg [.int .i64 k, .int .i64 a, .int .i64 b, .int .i64 c, .int .i64 d]] (.bool true) := by
  refine PC.of okC Try.func3 rfl rfl (by kernel_rfl) (Nat.le_of_ble_eq_true rfl) (.bool _) fun h nx _ => ?_
  show goC ctx _ _ (.fin (RetP _ _ _ _ _))
  simp
  refine call_pc (c7 _ _ _ _ _) ?_
  simp
  refine call_pc (c6 _ _ _ _ _) ?_
  simp
  refine call_pc (c7 _ _ _ _ _) ?_
  simp
  refine call_pc (c8 _ _ _ _ _) ?_
  simp [resultsA, resA]
end Go.AE.Try
