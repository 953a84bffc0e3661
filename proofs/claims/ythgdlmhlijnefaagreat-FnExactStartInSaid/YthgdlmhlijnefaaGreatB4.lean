/- Contracts of the seat's functions: what each answers, for all arguments. -/
import Derived.Test.YthgdlmhlijnefaaGreatB3
import Derived.Test.YthgdlmhlijnefaaGreatA3
import Derived.Test.YthgdlmhlijnefaaGreatB1
import Derived.Test.YthgdlmhlijnefaaGreatB2
section
/- Contracts of the reference's copies as new rows. -/
set_option linter.unusedSimpArgs false
set_option linter.unusedVariables false
set_option maxRecDepth 8000
set_option maxHeartbeats 4000000
namespace Go.AE.Tryz
open Go.Proofs
open List renaming map_take → qt, map_drop → qd, map_tail → ql

theorem f_l1Copy {p : Bool} {xs : List Int} (hm : xs.length ≤ 1048576) : FC ctx.P 221 [.view p 1 (xs.map iv)] (.ref 0 1 0 (xs.map iv).length) [.row 1 (xs.map iv)] := by
  refine FC.o1 okC Tryz.func221 rfl (zR zC3 xs) fun h nx hnx => ?_
  try simp [-qt, -qd, -ql, rgs, iv]
  repeat' first | done | ((first | ((with_reducible show zC9 _ _ _ _ _ _ _ _); refine zW rfl rfl (by decide) (by decide) (by first | (simp [-qt, -qd, -ql, rgs, iv]; done) | (simp [-qt, -qd, -ql, rgs, iv]; rfl)) (by first | (simp [-qt, -qd, -ql, rgs, iv]; done) | (simp [-qt, -qd, -ql, rgs, iv]; rfl)) (by first | (simp; done) | (simp; omega)) (by first | (simp only [yK, LIM] at *; simp; omega) | (simp only [yK]; simp; omega)) (by simp [iv, bv]) ?_)) <;> simp [-qt, -qd, -ql, rgs, iv])
  exact vI zK (by first | omega | (simp; done) | (simp; omega)) (by omega) (by simp) rfl (by simp)
theorem f_l3Copy {p : Bool} {xs : List Twg} (hm : xs.length ≤ 1048576) : FC ctx.P 309 [.view p 3 (xs.map yX)] (.ref 0 3 0 (xs.map yX).length) [.row 3 (xs.map yX)] := by
  refine FC.o1 okC Tryz.func309 rfl (zR uA xs) fun h nx hnx => ?_
  try simp [-qt, -qd, -ql, rgs, yX]
  repeat' first | done | ((first | ((with_reducible show zC9 _ _ _ _ _ _ _ _); refine zW rfl rfl (by decide) (by decide) (by first | (simp [-qt, -qd, -ql, rgs, yX]; done) | (simp [-qt, -qd, -ql, rgs, yX]; rfl)) (by first | (simp [-qt, -qd, -ql, rgs, yX]; done) | (simp [-qt, -qd, -ql, rgs, yX]; rfl)) (by first | (simp; done) | (simp; omega)) (by first | (simp only [yK, LIM] at *; simp; omega) | (simp only [yK]; simp; omega)) (by simp [iv, bv]) ?_)) <;> simp [-qt, -qd, -ql, rgs, yX])
  exact vI zK (by first | omega | (simp; done) | (simp; omega)) (by omega) (by simp) rfl (by simp)
theorem f_l5Copy {p : Bool} {xs : List Nod} (hm : xs.length ≤ 1048576) : FC ctx.P 216 [.view p 5 (xs.map vE)] (.ref 0 5 0 (xs.map vE).length) [.row 5 (xs.map vE)] := by
  refine FC.o1 okC Tryz.func216 rfl (zR nodC_fz xs) fun h nx hnx => ?_
  try simp [-qt, -qd, -ql, rgs, vE]
  repeat' first | done | ((first | ((with_reducible show zC9 _ _ _ _ _ _ _ _); refine zW rfl rfl (by decide) (by decide) (by first | (simp [-qt, -qd, -ql, rgs, vE]; done) | (simp [-qt, -qd, -ql, rgs, vE]; rfl)) (by first | (simp [-qt, -qd, -ql, rgs, vE]; done) | (simp [-qt, -qd, -ql, rgs, vE]; rfl)) (by first | (simp; done) | (simp; omega)) (by first | (simp only [yK, LIM] at *; simp; omega) | (simp only [yK]; simp; omega)) (by simp [iv, bv]) ?_)) <;> simp [-qt, -qd, -ql, rgs, vE])
  exact vI zK (by first | omega | (simp; done) | (simp; omega)) (by omega) (by simp) rfl (by simp)
theorem f_l6Copy {p : Bool} {xs : List Evt} (hm : xs.length ≤ 1048576) : FC ctx.P 217 [.view p 4 (xs.map vK)] (.ref 0 4 0 (xs.map vK).length) [.row 4 (xs.map vK)] := by
  refine FC.o1 okC Tryz.func217 rfl (zR zK5 xs) fun h nx hnx => ?_
  try simp [-qt, -qd, -ql, rgs, vK]
  repeat' first | done | ((first | ((with_reducible show zC9 _ _ _ _ _ _ _ _); refine zW rfl rfl (by decide) (by decide) (by first | (simp [-qt, -qd, -ql, rgs, vK]; done) | (simp [-qt, -qd, -ql, rgs, vK]; rfl)) (by first | (simp [-qt, -qd, -ql, rgs, vK]; done) | (simp [-qt, -qd, -ql, rgs, vK]; rfl)) (by first | (simp; done) | (simp; omega)) (by first | (simp only [yK, LIM] at *; simp; omega) | (simp only [yK]; simp; omega)) (by simp [iv, bv]) ?_)) <;> simp [-qt, -qd, -ql, rgs, vK])
  exact vI zK (by first | omega | (simp; done) | (simp; omega)) (by omega) (by simp) rfl (by simp)
theorem zM5 {F : Nat → Bool} {s : Slt} (h1 : s.ages.length ≤ 1048576) (h2 : s.used.length ≤ 1048576) : FC ctx.P 310 [.agg (yW F s)] (.agg [.ref 0 1 0 s.ages.length, .ref 1 1 0 s.used.length]) [.row 1 (s.ages.map iv), .row 1 (s.used.map bv)] := by
  refine FC.o okC Tryz.func310 rfl ((.one _ (.agg _ fun c hc => by simp at hc; rcases hc with rfl | rfl <;> first | exact .ref _ _ _ _ (by simp) | exact .fz _ (.int _ _)))) ((fun e he => by simp at he; rcases he with rfl | rfl <;> first | exact zR zC3 _ | exact zR zG3 _ | exact zR uA _ | exact zR zB0 _ | exact zR zA0 _)) fun h nx hnx => ?_
  try simp [-qt, -qd, -ql, rgs, yB hnx, yW, iv, bv]
  repeat' first | done | ((first | ((with_reducible show zC9 _ _ _ _ _ _ _ _); refine zW rfl rfl (by decide) (by decide) (by first | (simp [-qt, -qd, -ql, rgs, yB hnx, yW, iv, bv]; done) | (simp [-qt, -qd, -ql, rgs, yB hnx, yW, iv, bv]; rfl)) (by first | (simp [-qt, -qd, -ql, rgs, yB hnx, yW, iv, bv]; done) | (simp [-qt, -qd, -ql, rgs, yB hnx, yW, iv, bv]; rfl)) (by first | (simp; done) | (simp; omega)) (by first | (simp only [yK, LIM] at *; simp; omega) | (simp only [yK]; simp; omega)) (by simp [iv, bv]) ?_) | (with_reducible refine zI (i := 1) [(1, [], []), (2, [], [0, 4]), (5, [], []), (6, [], [0, 4]), (0, [], []), (3, [.tmp 8], [4]), (4, [], []), (7, [], []), (8, [], []), (9, [], [])] (by kernel_rfl) ?_)) <;> simp [-qt, -qd, -ql, rgs, yB hnx, yW, iv, bv])
  exact finF2 (i := nx + 5) (j := nx + 9) zK (by omega) (by omega) (by omega) (by simp) (by simp) (by simp)
theorem f_l7Copy {F : Nat → Bool} {s : Spr} (h1 : s.told.length ≤ 1048576) (h2 : s.work.length ≤ 1048576) : FC ctx.P 218 [.agg (zE7 F s)] (.agg [.ref 0 1 0 s.told.length, .ref 1 1 0 s.work.length]) [.row 1 (s.told.map bv), .row 1 (s.work.map iv)] := by
  refine FC.o okC Tryz.func218 rfl ((.one _ (.agg _ fun c hc => by simp at hc; rcases hc with rfl | rfl <;> first | exact .ref _ _ _ _ (by simp) | exact .fz _ (.int _ _)))) ((fun e he => by simp at he; rcases he with rfl | rfl <;> first | exact zR zC3 _ | exact zR zG3 _ | exact zR uA _ | exact zR zB0 _ | exact zR zA0 _)) fun h nx hnx => ?_
  try simp [-qt, -qd, -ql, rgs, yB hnx, zE7, iv, bv]
  repeat' first | done | ((first | ((with_reducible show zC9 _ _ _ _ _ _ _ _); refine zW rfl rfl (by decide) (by decide) (by first | (simp [-qt, -qd, -ql, rgs, yB hnx, zE7, iv, bv]; done) | (simp [-qt, -qd, -ql, rgs, yB hnx, zE7, iv, bv]; rfl)) (by first | (simp [-qt, -qd, -ql, rgs, yB hnx, zE7, iv, bv]; done) | (simp [-qt, -qd, -ql, rgs, yB hnx, zE7, iv, bv]; rfl)) (by first | (simp; done) | (simp; omega)) (by first | (simp only [yK, LIM] at *; simp; omega) | (simp only [yK]; simp; omega)) (by simp [iv, bv]) ?_) | (with_reducible refine zI (i := 1) [(1, [], []), (2, [], [0, 4]), (5, [], []), (6, [], [0, 4]), (0, [], []), (3, [.tmp 8], [4]), (4, [], []), (7, [], []), (8, [], []), (9, [], [])] (by kernel_rfl) ?_)) <;> simp [-qt, -qd, -ql, rgs, yB hnx, zE7, iv, bv])
  exact finF2 (i := nx + 5) (j := nx + 9) zK (by omega) (by omega) (by omega) (by simp) (by simp) (by simp)
theorem f_l4Copy {F : Nat → Bool} {s : Tms} (h1 : s.heap.length ≤ 1048576) (h2 : s.list.length ≤ 1048576) : FC ctx.P 219 [.agg (uT F s)] (.agg [.ref 0 3 0 s.heap.length, .ref 1 5 0 s.list.length, .int .i64 s.next]) [.row 3 (s.heap.map yX), .row 5 (s.list.map vN)] := by
  refine FC.o okC Tryz.func219 rfl ((.one _ (.agg _ fun c hc => by simp at hc; rcases hc with rfl | rfl | rfl <;> first | exact .ref _ _ _ _ (by simp) | exact .fz _ (.int _ _)))) ((fun e he => by simp at he; rcases he with rfl | rfl <;> first | exact zR zC3 _ | exact zR zG3 _ | exact zR uA _ | exact zR zB0 _ | exact zR zA0 _)) fun h nx hnx => ?_
  try simp [-qt, -qd, -ql, rgs, yB hnx, uT, vN]
  repeat' first | done | ((first | ((with_reducible show zG _ _ _ 309 _ _); refine yF (f_l3Copy h1) ?_) | ((with_reducible show zC9 _ _ _ _ _ _ _ _); refine zW rfl rfl (by decide) (by decide) (by first | (simp [-qt, -qd, -ql, rgs, yB hnx, uT, vN]; done) | (simp [-qt, -qd, -ql, rgs, yB hnx, uT, vN]; rfl)) (by first | (simp [-qt, -qd, -ql, rgs, yB hnx, uT, vN]; done) | (simp [-qt, -qd, -ql, rgs, yB hnx, uT, vN]; rfl)) (by first | (simp; done) | (simp; omega)) (by first | (simp only [yK, LIM] at *; simp; omega) | (simp only [yK]; simp; omega)) (by simp [iv, bv]) ?_) | (with_reducible refine zI (i := 1) [(0, [], []), (1, [], [3]), (4, [], []), (5, [], [3]), (7, [], []), (8, [], [3]), (2, [.tmp 7, .tmp 10], [3]), (3, [], []), (6, [.tmp 10], []), (9, [], []), (10, [], [])] (by kernel_rfl) ?_)) <;> simp [-qt, -qd, -ql, rgs, yB hnx, uT, vN])
  exact finF2 (i := nx + 13) (j := nx + 8) zK (by omega) (by omega) (by omega) (by simp) (by simp) (by simp)
theorem f_l8Copy {F : Nat → Bool} {s : Afs} (h1 : s.slots.ages.length ≤ 1048576) (h2 : s.slots.used.length ≤ 1048576) (h3 : s.list.length ≤ 1048576) : FC ctx.P 220 [.agg (vD F s)] (.agg [.ref 0 1 0 s.slots.ages.length, .ref 1 1 0 s.slots.used.length, .ref 2 5 0 s.list.length]) [.row 1 (s.slots.ages.map iv), .row 1 (s.slots.used.map bv), .row 5 (s.list.map yI)] := by
  refine FC.o okC Tryz.func220 rfl ((.one _ (.agg _ fun c hc => by simp at hc; rcases hc with rfl | rfl | rfl <;> first | exact .ref _ _ _ _ (by simp) | exact .fz _ (.int _ _)))) ((fun e he => by simp at he; rcases he with rfl | rfl | rfl <;> first | exact zR zC3 _ | exact zR zG3 _ | exact zR uA _ | exact zR zB0 _ | exact zR zA0 _)) fun h nx hnx => ?_
  try simp [-qt, -qd, -ql, rgs, yB hnx, vD, yI, yW]
  repeat' first | done | ((first | ((with_reducible show zG _ _ _ 310 _ _); refine yF (zM5 (s := s.slots) (F := F) h1 h2) ?_) | ((with_reducible show zC9 _ _ _ _ _ _ _ _); refine zW rfl rfl (by decide) (by decide) (by first | (simp [-qt, -qd, -ql, rgs, yB hnx, vD, yI, yW]; done) | (simp [-qt, -qd, -ql, rgs, yB hnx, vD, yI, yW]; rfl)) (by first | (simp [-qt, -qd, -ql, rgs, yB hnx, vD, yI, yW]; done) | (simp [-qt, -qd, -ql, rgs, yB hnx, vD, yI, yW]; rfl)) (by first | (simp; done) | (simp; omega)) (by first | (simp only [yK, LIM] at *; simp; omega) | (simp only [yK]; simp; omega)) (by simp [iv, bv]) ?_) | (with_reducible refine zI (i := 1) [(0, [], []), (1, [], [3]), (4, [], []), (5, [], [3]), (2, [.tmp 7], [3]), (3, [], []), (6, [], []), (7, [], []), (8, [], [])] (by kernel_rfl) ?_)) <;> simp [-qt, -qd, -ql, rgs, yB hnx, vD, yI, yW])
  exact finF3 (i := nx + 11) (j := nx + 12) (l := nx + 8) zK (by omega) (by omega) (by omega) (by omega) (by omega) (by omega) (by simp) (by simp) (by simp) (by simp)
theorem f_l12Copy {r : Bool} {g : Grp} (h1 : g.waits.length ≤ 1048576) : FC ctx.P 222 [.agg (vA r g)] (.agg (uL g 0)) [.row 1 (g.waits.map iv)] := by
  refine FC.o okC Tryz.func222 rfl ((by simp only [uL]; exact .one _ (.agg _ fun c hc => by simp at hc; rcases hc with rfl | rfl | rfl | rfl | rfl <;> first | exact .ref _ _ _ _ (by simp) | exact .fz _ (.int _ _)))) ((fun e he => by simp at he; subst he; exact zR zC3 _)) fun h nx hnx => ?_
  try simp [-qt, -qd, -ql, rgs, vA, iv]
  repeat' first | done | ((first | ((with_reducible show zC9 _ _ _ _ _ _ _ _); refine zW rfl rfl (by decide) (by decide) (by first | (simp [-qt, -qd, -ql, rgs, vA, iv]; done) | (simp [-qt, -qd, -ql, rgs, vA, iv]; rfl)) (by first | (simp [-qt, -qd, -ql, rgs, vA, iv]; done) | (simp [-qt, -qd, -ql, rgs, vA, iv]; rfl)) (by first | (simp; done) | (simp; omega)) (by first | (simp only [yK, LIM] at *; simp; omega) | (simp only [yK]; simp; omega)) (by simp [iv, bv]) ?_)) <;> simp [-qt, -qd, -ql, rgs, vA, iv])
  exact finF1 (i := nx + 5) zK (by omega) (by simp) (by simp [uL])
theorem w_l13CopyProgs {p r : Bool} {xs : List (List Inn)} (hm : xs.length ≤ 1048576) (hi : ∀ x ∈ xs, x.length ≤ 1048576) : AC ctx.P 215 [.view p 1 (xs.map (zB6 r))] (fun _ _ => True)
    (fun h nx v h' nx' => KeepB nx h' h ∧ ∃ id is, v = .ref id 1 0 xs.length ∧ h' id = some (.row 1 (List.zipWith prgR xs is)) ∧ is.length = xs.length ∧ nx ≤ id ∧ id < nx' ∧ id ∉ is ∧ Subs h' 3 (fun x : List Inn => x.map vU) xs is nx nx') := by
  have hlim : xs.length ≤ LIM := by simp only [LIM] at *; omega
  refine AC.o okC Tryz.func215 rfl fun h nx hfr hnx hpre => ?_
  try simp [-qt, -qd, -ql, rgs]
  repeat' first | done | ((first | ((with_reducible show zT _ _ _ _ _ _); refine zB rfl fun _ => ?_) | ((with_reducible show zH _ _ _ _ _ _ _); refine zC rfl omA omA ?_) | ((with_reducible show zC9 _ _ _ _ _ _ _ _); refine zW rfl rfl (by decide) (by decide) (by first | (simp [-qt, -qd, -ql, rgs]; done) | (simp [-qt, -qd, -ql, rgs]; rfl)) (by first | (simp [-qt, -qd, -ql, rgs]; done) | (simp [-qt, -qd, -ql, rgs]; rfl)) (by first | (simp; done) | (simp; omega)) (by first | (simp only [yK, LIM] at *; simp; omega) | (simp only [yK]; simp; omega)) (by simp [iv, bv]) ?_)) <;> simp [-qt, -qd, -ql, rgs]) | ((first | (with_reducible refine zA ?_ ?_)) <;> intro qb <;> (have qp := qb; try simp only [psq] at qp) <;> simp [-qt, -qd, -ql, rgs, qb])
  refine zU (h0 := h) (nx0 := nx) [3, 4, 6, 7, 8, 9, 10, 11, 12, 13, 14, 15, 16, 17, 18, 19, 20] (xs.length) (fun (i : Nat) a => [(4, .int .i64 i), (3, .ref a.1 1 0 i)]) (fun i (a : Nat × List Nat) h' n' => a.2.length = i ∧ h' a.1 = some (.row 1 (List.zipWith prgR xs a.2)) ∧ Subs h' 3 (fun x : List Inn => x.map vU) xs a.2 nx n' ∧ nx ≤ a.1 ∧ a.1 < n' ∧ a.1 ∉ a.2) ((nx + 1, [])) (by simp) ?_ zK (by omega) ?_
  · simp [Subs.nil]
  · intro i a tm h' n' hle hJ hE hn' next hnx
    try dsimp only at hJ
    have hK : KeepB nx h' h := KeepB.sub hE zK (by omega)
    simp [-qt, -qd, -ql]
    obtain ⟨g2, hJ, hS, g0, g1, g3⟩ := hJ
    obtain ⟨id, is⟩ := a
    dsimp only at g2 hJ hS g0 g1 g3 ⊢
    subst g2
    have k1 : ∀ k, (id = n' + k) = False := fun k => by simp only [eq_iff_iff, iff_false]; omega
    by_cases hlt : is.length < xs.length
    · have hg : (gt xs (is.length : Int)).length ≤ 1048576 := hi _ (zC7 (by omega) (by omega))
      try simp [-qt, -qd, -ql, rgs, zB6, k1, hJ, hlt, vU]
      repeat' first | done | ((first | ((with_reducible show zT _ _ _ _ _ _); refine zB rfl fun _ => ?_) | ((with_reducible show zH _ _ _ _ _ _ _); refine zC rfl omA omA ?_) | ((with_reducible show zC9 _ _ _ _ _ _ _ _); refine zW rfl rfl (by decide) (by decide) (by first | (simp [-qt, -qd, -ql, rgs, zB6, k1, hJ, hlt, vU]; done) | (simp [-qt, -qd, -ql, rgs, zB6, k1, hJ, hlt, vU]; rfl)) (by first | (simp [-qt, -qd, -ql, rgs, zB6, k1, hJ, hlt, vU]; done) | (simp [-qt, -qd, -ql, rgs, zB6, k1, hJ, hlt, vU]; rfl)) (by first | (simp; done) | (simp; omega)) (by first | (simp only [yK, LIM] at *; simp; omega) | (simp only [yK]; simp; omega)) (by simp [iv, bv]) ?_)) <;> simp [-qt, -qd, -ql, rgs, zB6, k1, hJ, hlt, vU]) | ((first | (with_reducible refine zA ?_ ?_)) <;> intro qb <;> (have qp := qb; try simp only [psq] at qp) <;> simp [-qt, -qd, -ql, rgs, zB6, k1, hJ, hlt, vU, qb])
      refine hnx.go (n' + 12, is ++ [n' + 10]) (by omega) (by simp [zM hlt hlim]) (by simp) zK (by first | omega | (simp; omega)) ?_
      dsimp only
      refine ⟨by simp, ?_, hS.snoc (fun k hk => ?_) ?_ (by omega) (by omega) (by omega), by omega, by omega, ?_⟩
      · rw [zI9 hlt, zL]; rfl
      · have := hS.hi k hk
        have hne : k ≠ id := fun e => g3 (e ▸ hk)
        repeat (first | rw [zJ _ _ _ _ (by omega)] | rw [zJ _ _ _ _ hne])
      · repeat (first | exact zL .. | rw [zJ _ _ _ _ (by omega)])
      · intro hm
        rcases List.mem_append.1 hm with hm | hm
        · have := hS.hi _ hm; omega
        · simp at hm
    · try simp [-qt, -qd, -ql, rgs, k1, hJ, hlt]
      repeat' first | done | ((first | ((with_reducible show zT _ _ _ _ _ _); refine zB rfl fun _ => ?_) | ((with_reducible show zH _ _ _ _ _ _ _); refine zC rfl omA omA ?_) | ((with_reducible show zC9 _ _ _ _ _ _ _ _); refine zW rfl rfl (by decide) (by decide) (by first | (simp [-qt, -qd, -ql, rgs, k1, hJ, hlt]; done) | (simp [-qt, -qd, -ql, rgs, k1, hJ, hlt]; rfl)) (by first | (simp [-qt, -qd, -ql, rgs, k1, hJ, hlt]; done) | (simp [-qt, -qd, -ql, rgs, k1, hJ, hlt]; rfl)) (by first | (simp; done) | (simp; omega)) (by first | (simp only [yK, LIM] at *; simp; omega) | (simp only [yK]; simp; omega)) (by simp [iv, bv]) ?_)) <;> simp [-qt, -qd, -ql, rgs, k1, hJ, hlt]) | ((first | (with_reducible refine zA ?_ ?_)) <;> intro qb <;> (have qp := qb; try simp only [psq] at qp) <;> simp [-qt, -qd, -ql, rgs, k1, hJ, hlt, qb])
      have he : is.length = xs.length := by omega
      exact ⟨zK, id, ⟨rfl, he⟩, is, hJ, he, g0, by omega, g3, hS.keep (fun _ _ => rfl) (Nat.le_refl _) (by omega)⟩
end Go.AE.Tryz
end

section
/- Contracts of the reference's copies of worlds as new rows. -/
set_option linter.unusedSimpArgs false
set_option linter.unusedVariables false
set_option maxRecDepth 8000
set_option maxHeartbeats 4000000
namespace Go.AE.Tryz
open Go.Proofs
open List renaming map_take → qt, map_drop → qd, map_tail → ql
theorem w_l13CopyA {F : Nat → Bool} {w : Wld} (hs : zC4 w ≤ 1048576) : AC ctx.P 107 [.agg (wldV F w)] (fun _ _ => True) (MkQ (fun X => .agg (zD6 X w)) w) := by
  simp only [zC4, afssz, tmssz, sprsz, sltsz] at hs
  have hm : yK = 1099511627776 := rfl
  have hL : LIM = 140737488355328 := rfl
  have hlim : w.groups.length ≤ LIM := by omega
  refine AC.ghost ?_
  refine AC.o okC Tryz.func107 rfl fun h nx hfr hnx hpre => ?_
  try simp [-qt, -qd, -ql, rgs, wldV, yB hnx]
  repeat' first | done | ((first | ((with_reducible show zT _ _ _ _ _ _); refine zB rfl fun _ => ?_) | ((with_reducible show zH _ _ _ _ _ _ _); refine zC rfl omA omA ?_) | ((with_reducible show zC9 _ _ _ _ _ _ _ _); refine zW rfl rfl (by decide) (by decide) (by first | (simp [-qt, -qd, -ql, rgs, wldV, yB hnx]; done) | (simp [-qt, -qd, -ql, rgs, wldV, yB hnx]; rfl)) (by first | (simp [-qt, -qd, -ql, rgs, wldV, yB hnx]; done) | (simp [-qt, -qd, -ql, rgs, wldV, yB hnx]; rfl)) (by first | (simp; done) | (simp; omega)) (by first | (simp only [yK, LIM] at *; simp; omega) | (simp only [yK]; simp; omega)) (by simp [iv, bv]) ?_) | (with_reducible refine zI (i := 1) [(0, [], []), (1, [], [20, 24, 35]), (2, [], []), (3, [], [20, 24, 35]), (5, [], []), (6, [], [20, 24, 35]), (8, [], []), (9, [], [20, 24, 35]), (11, [], []), (12, [], [20, 24, 35]), (14, [], []), (15, [], [20, 24, 35]), (17, [], []), (18, [], [20, 24, 35]), (21, [], []), (22, [], [20, 24, 35]), (25, [], []), (26, [], [20, 24, 35]), (28, [], []), (29, [], [20, 24, 35]), (31, [], []), (32, [], [20, 24, 35]), (4, [.tmp 5, .tmp 10, .tmp 13, .tmp 16, .tmp 19, .tmp 22, .tmp 26, .tmp 30, .tmp 33, .tmp 36], [20, 24, 35]), (7, [.tmp 5, .tmp 13, .tmp 16, .tmp 19, .tmp 22, .tmp 26, .tmp 30, .tmp 33, .tmp 36], [20, 24, 35]), (10, [.tmp 5, .tmp 16, .tmp 19, .tmp 22, .tmp 26, .tmp 30, .tmp 33, .tmp 36], [20, 24, 35]), (13, [.tmp 5, .tmp 19, .tmp 22, .tmp 26, .tmp 30, .tmp 33, .tmp 36], [20, 24, 35]), (16, [.tmp 5, .tmp 22, .tmp 26, .tmp 30, .tmp 33, .tmp 36], [20, 24, 35]), (19, [.tmp 5, .tmp 26, .tmp 30, .tmp 33, .tmp 36], [20, 24, 35]), (20, [], []), (23, [.tmp 5, .tmp 30, .tmp 33, .tmp 36], [24, 35]), (24, [], []), (27, [.tmp 5, .tmp 33, .tmp 36], [35]), (30, [.tmp 5, .tmp 36], [35]), (33, [.tmp 5], [35]), (34, [], []), (35, [], []), (36, [], [])] (by kernel_rfl) ?_) | (with_reducible refine zI (i := 5) [(0, [], []), (1, [], [8]), (2, [], []), (3, [], []), (4, [], []), (5, [], []), (6, [], []), (7, [.tmp 47], []), (8, [], []), (9, [], []), (10, [], []), (11, [], [])] (by kernel_rfl) ?_)) <;> simp [-qt, -qd, -ql, rgs, wldV, yB hnx]) | ((first | (with_reducible refine zA ?_ ?_)) <;> intro qb <;> (have qp := qb; try simp only [psq] at qp) <;> simp [-qt, -qd, -ql, rgs, wldV, yB hnx, qb])
  refine vB (w_l13CopyProgs (by omega) (fun x hx => by have := zB3 (·.length) hx; omega)) trivial ?_
  rintro r h1 n1 ⟨hK1, ip, isp, rfl, hrow1, hlen1, hlo1, hhi1, hni1, hS1⟩ hle1 hfr1
  dsimp only at hK1 hlo1 hle1 hS1
  have g0 := hK1 nx (by omega)
  have g1 := hK1 (nx + 1) (by omega)
  have g22 := hK1 (nx + 22) (by omega)
  have g26 := hK1 (nx + 26) (by omega)
  have g37 := hK1 (nx + 37) (by omega)
  simp [yB hnx] at g0 g1 g22 g26 g37
  have k0 : ∀ k, (nx = n1 + k) = False := fun k => by simp only [eq_iff_iff, iff_false]; omega
  have k1 : ∀ k, (nx + 1 = n1 + k) = False := fun k => by simp only [eq_iff_iff, iff_false]; omega
  have k22 : ∀ k, (nx + 22 = n1 + k) = False := fun k => by simp only [eq_iff_iff, iff_false]; omega
  have k26 : ∀ k, (nx + 26 = n1 + k) = False := fun k => by simp only [eq_iff_iff, iff_false]; omega
  have k37 : ∀ k, (nx + 37 = n1 + k) = False := fun k => by simp only [eq_iff_iff, iff_false]; omega
  have kk : ∀ k, k < 38 → (nx + k = n1) = False := fun k hk => by simp only [eq_iff_iff, iff_false]; omega
  have j0 : (nx = n1) = False := by simp only [eq_iff_iff, iff_false]; omega
  have j1 := kk 1 (by omega)
  have kx : ∀ a k, a < 38 → (nx + a = n1 + k) = False := fun a k hk => by simp only [eq_iff_iff, iff_false]; omega
  try simp [-qt, -qd, -ql, rgs, wldV, g0, g1, g22, g26, g37, k0, k1, k22, k26, k37, j0, j1, kk, kx]
  repeat' first | done | ((first | ((with_reducible show zT _ _ _ _ _ _); refine zB rfl fun _ => ?_) | ((with_reducible show zH _ _ _ _ _ _ _); refine zC rfl omA omA ?_) | ((with_reducible show zG _ _ _ 216 _ _); refine yF (f_l5Copy (by omega)) ?_) | ((with_reducible show zG _ _ _ 217 _ _); refine yF (f_l6Copy (by omega)) ?_) | ((with_reducible show zG _ _ _ 218 _ _); refine yF (f_l7Copy (s := w.spread) (F := F) (by omega) (by omega)) ?_) | ((with_reducible show zG _ _ _ 219 _ _); refine yF (f_l4Copy (s := w.timers) (F := F) (by omega) (by omega)) ?_) | ((with_reducible show zG _ _ _ 220 _ _); refine yF (f_l8Copy (s := w.afters) (F := F) (by omega) (by omega) (by omega)) ?_) | ((with_reducible show zG _ _ _ 221 _ _); refine yF (f_l1Copy (by omega)) ?_) | ((with_reducible show zC9 _ _ _ _ _ _ _ _); refine zW rfl rfl (by decide) (by decide) (by first | (simp [-qt, -qd, -ql, rgs, wldV, g0, g1, g22, g26, g37, k0, k1, k22, k26, k37, j0, j1, kk, kx]; done) | (simp [-qt, -qd, -ql, rgs, wldV, g0, g1, g22, g26, g37, k0, k1, k22, k26, k37, j0, j1, kk, kx]; rfl)) (by first | (simp [-qt, -qd, -ql, rgs, wldV, g0, g1, g22, g26, g37, k0, k1, k22, k26, k37, j0, j1, kk, kx]; done) | (simp [-qt, -qd, -ql, rgs, wldV, g0, g1, g22, g26, g37, k0, k1, k22, k26, k37, j0, j1, kk, kx]; rfl)) (by first | (simp; done) | (simp; omega)) (by first | (simp only [yK, LIM] at *; simp; omega) | (simp only [yK]; simp; omega)) (by simp [iv, bv]) ?_) | (with_reducible refine zI (i := 1) [(0, [], []), (1, [], [20, 24, 35]), (2, [], []), (3, [], [20, 24, 35]), (5, [], []), (6, [], [20, 24, 35]), (8, [], []), (9, [], [20, 24, 35]), (11, [], []), (12, [], [20, 24, 35]), (14, [], []), (15, [], [20, 24, 35]), (17, [], []), (18, [], [20, 24, 35]), (21, [], []), (22, [], [20, 24, 35]), (25, [], []), (26, [], [20, 24, 35]), (28, [], []), (29, [], [20, 24, 35]), (31, [], []), (32, [], [20, 24, 35]), (4, [.tmp 5, .tmp 10, .tmp 13, .tmp 16, .tmp 19, .tmp 22, .tmp 26, .tmp 30, .tmp 33, .tmp 36], [20, 24, 35]), (7, [.tmp 5, .tmp 13, .tmp 16, .tmp 19, .tmp 22, .tmp 26, .tmp 30, .tmp 33, .tmp 36], [20, 24, 35]), (10, [.tmp 5, .tmp 16, .tmp 19, .tmp 22, .tmp 26, .tmp 30, .tmp 33, .tmp 36], [20, 24, 35]), (13, [.tmp 5, .tmp 19, .tmp 22, .tmp 26, .tmp 30, .tmp 33, .tmp 36], [20, 24, 35]), (16, [.tmp 5, .tmp 22, .tmp 26, .tmp 30, .tmp 33, .tmp 36], [20, 24, 35]), (19, [.tmp 5, .tmp 26, .tmp 30, .tmp 33, .tmp 36], [20, 24, 35]), (20, [], []), (23, [.tmp 5, .tmp 30, .tmp 33, .tmp 36], [24, 35]), (24, [], []), (27, [.tmp 5, .tmp 33, .tmp 36], [35]), (30, [.tmp 5, .tmp 36], [35]), (33, [.tmp 5], [35]), (34, [], []), (35, [], []), (36, [], [])] (by kernel_rfl) ?_) | (with_reducible refine zI (i := 5) [(0, [], []), (1, [], [8]), (2, [], []), (3, [], []), (4, [], []), (5, [], []), (6, [], []), (7, [.tmp 47], []), (8, [], []), (9, [], []), (10, [], []), (11, [], [])] (by kernel_rfl) ?_)) <;> simp [-qt, -qd, -ql, rgs, wldV, g0, g1, g22, g26, g37, k0, k1, k22, k26, k37, j0, j1, kk, kx]) | ((first | (with_reducible refine zA ?_ ?_)) <;> intro qb <;> (have qp := qb; try simp only [psq] at qp) <;> simp [-qt, -qd, -ql, rgs, wldV, g0, g1, g22, g26, g37, k0, k1, k22, k26, k37, j0, j1, kk, kx, qb])
  generalize hH : upd _ (nx + 37) (some (Ent.obj [.int .i64 w.now, .ref ip 1 0 w.progs.length, .ref n1 5 0 w.tree.length, .ref (n1 + 1) 4 0 w.events.length, .ref (n1 + 2) 1 0 w.spread.told.length, .ref (n1 + 3) 1 0 w.spread.work.length, .ref (n1 + 4) 3 0 w.timers.heap.length, .ref (n1 + 5) 5 0 w.timers.list.length, .int .i64 w.timers.next, .ref (n1 + 6) 1 0 w.afters.slots.ages.length, .ref (n1 + 7) 1 0 w.afters.slots.used.length, .ref (n1 + 8) 5 0 w.afters.list.length, .ref (nx + 25) 9 0 w.tasks.length, .nil, .ref (nx + 29) 4 0 w.sights.length, .ref (n1 + 9) 1 0 w.began.length, .ref (n1 + 10) 1 0 w.rang.length])) = H2
  have o2 : H2 (nx + 37) = some (Ent.obj [.int .i64 w.now, .ref ip 1 0 w.progs.length, .ref n1 5 0 w.tree.length, .ref (n1 + 1) 4 0 w.events.length, .ref (n1 + 2) 1 0 w.spread.told.length, .ref (n1 + 3) 1 0 w.spread.work.length, .ref (n1 + 4) 3 0 w.timers.heap.length, .ref (n1 + 5) 5 0 w.timers.list.length, .int .i64 w.timers.next, .ref (n1 + 6) 1 0 w.afters.slots.ages.length, .ref (n1 + 7) 1 0 w.afters.slots.used.length, .ref (n1 + 8) 5 0 w.afters.list.length, .ref (nx + 25) 9 0 w.tasks.length, .nil, .ref (nx + 29) 4 0 w.sights.length, .ref (n1 + 9) 1 0 w.began.length, .ref (n1 + 10) 1 0 w.rang.length]) := by rw [← hH, zL]
  have a2 : H2 nx = some (Ent.obj (wldV F w)) := by
    rw [← hH]
    repeat rw [zJ _ _ _ _ (by omega)]
    rw [g0]; rfl
  have z2 : H2 (nx + 1) = h1 (nx + 1) := by
    rw [← hH]
    repeat rw [zJ _ _ _ _ (by omega)]
  rw [g1] at z2
  have hK2 : KeepB nx H2 h := fun j hj => by
    rw [← hH]
    repeat rw [zJ _ _ _ _ (by omega)]
    rw [hK1 j (by omega)]
    repeat rw [zJ _ _ _ _ (by omega)]
  have q0 : H2 ip = some (.row 1 (List.zipWith prgR w.progs isp)) := by
    rw [← hH]
    repeat rw [zJ _ _ _ _ (by omega)]
    exact hrow1
  have qs : ∀ i ∈ isp, H2 i = h1 i := fun i hi => by
    have := hS1.lo i hi
    have := hS1.hi i hi
    rw [← hH]
    repeat rw [zJ _ _ _ _ (by omega)]
  have q1 : H2 (n1) = some (.row 5 (w.tree.map vE)) := by
    rw [← hH]
    repeat (first | exact zL .. | rw [zJ _ _ _ _ (by omega)])
  have q2 : H2 (n1 + 1) = some (.row 4 (w.events.map vK)) := by
    rw [← hH]
    repeat (first | exact zL .. | rw [zJ _ _ _ _ (by omega)])
  have q3 : H2 (n1 + 2) = some (.row 1 (w.spread.told.map bv)) := by
    rw [← hH]
    repeat (first | exact zL .. | rw [zJ _ _ _ _ (by omega)])
  have q4 : H2 (n1 + 3) = some (.row 1 (w.spread.work.map iv)) := by
    rw [← hH]
    repeat (first | exact zL .. | rw [zJ _ _ _ _ (by omega)])
  have q5 : H2 (n1 + 4) = some (.row 3 (w.timers.heap.map yX)) := by
    rw [← hH]
    repeat (first | exact zL .. | rw [zJ _ _ _ _ (by omega)])
  have q6 : H2 (n1 + 5) = some (.row 5 (w.timers.list.map vN)) := by
    rw [← hH]
    repeat (first | exact zL .. | rw [zJ _ _ _ _ (by omega)])
  have q7 : H2 (n1 + 6) = some (.row 1 (w.afters.slots.ages.map iv)) := by
    rw [← hH]
    repeat (first | exact zL .. | rw [zJ _ _ _ _ (by omega)])
  have q8 : H2 (n1 + 7) = some (.row 1 (w.afters.slots.used.map bv)) := by
    rw [← hH]
    repeat (first | exact zL .. | rw [zJ _ _ _ _ (by omega)])
  have q9 : H2 (n1 + 8) = some (.row 5 (w.afters.list.map yI)) := by
    rw [← hH]
    repeat (first | exact zL .. | rw [zJ _ _ _ _ (by omega)])
  have q10 : H2 (nx + 25) = some (.row 9 (w.tasks.map vQ)) := by
    rw [← hH]
    repeat (first | exact zL .. | rw [zJ _ _ _ _ (by omega)])
  have q11 : H2 (nx + 29) = some (.row 4 (w.sights.map uP)) := by
    rw [← hH]
    repeat (first | exact zL .. | rw [zJ _ _ _ _ (by omega)])
  have q12 : H2 (n1 + 9) = some (.row 1 (w.began.map iv)) := by
    rw [← hH]
    repeat (first | exact zL .. | rw [zJ _ _ _ _ (by omega)])
  have q13 : H2 (n1 + 10) = some (.row 1 (w.rang.map iv)) := by
    rw [← hH]
    repeat (first | exact zL .. | rw [zJ _ _ _ _ (by omega)])
  clear hH
  refine zU (h0 := h) (nx0 := nx) [4, 40, 41, 42, 43, 44, 45, 46, 47, 48, 49, 50, 51, 52, 53, 54, 55, 56, 57] (w.groups.length) (fun (i : Nat) a => [(4, .int .i64 i)]) (fun i (a : Nat × List Nat) h' n' => a.2.length = i ∧ h' (nx + 37) = some (Ent.obj [.int .i64 w.now, .ref ip 1 0 w.progs.length, .ref n1 5 0 w.tree.length, .ref (n1 + 1) 4 0 w.events.length, .ref (n1 + 2) 1 0 w.spread.told.length, .ref (n1 + 3) 1 0 w.spread.work.length, .ref (n1 + 4) 3 0 w.timers.heap.length, .ref (n1 + 5) 5 0 w.timers.list.length, .int .i64 w.timers.next, .ref (n1 + 6) 1 0 w.afters.slots.ages.length, .ref (n1 + 7) 1 0 w.afters.slots.used.length, .ref (n1 + 8) 5 0 w.afters.list.length, .ref (nx + 25) 9 0 w.tasks.length, (if i = 0 then .nil else .ref a.1 5 0 i), .ref (nx + 29) 4 0 w.sights.length, .ref (n1 + 9) 1 0 w.began.length, .ref (n1 + 10) 1 0 w.rang.length]) ∧ (0 < i → h' a.1 = some (.row 5 (List.zipWith uL w.groups a.2)) ∧ n1 + 12 ≤ a.1 ∧ a.1 < n' ∧ a.1 ∉ a.2) ∧ Subs h' 1 (fun x : Grp => x.waits.map iv) w.groups a.2 (n1 + 12) n' ∧ n1 + 12 ≤ n' ∧ ∀ j, j < n1 + 12 → j ≠ nx + 37 → h' j = H2 j) ((0, [])) (by simp) ?_ zK (by omega) ?_
  · simp [Subs.nil, o2]
  · intro i a tm h' n' hle hJ hE hn' next hnx
    try dsimp only at hJ
    have hK : KeepB nx h' h := KeepB.sub hE zK (by omega)
    simp [-qt, -qd, -ql]
    obtain ⟨id, is⟩ := a
    obtain ⟨e0, hO, hR, hS, hn2, hF⟩ := hJ
    dsimp only at e0 hO hR hS hn2 hF ⊢
    subst e0
    have aN := hF nx (by omega) (by omega)
    rw [a2] at aN
    have zN := hF (nx + 1) (by omega) (by omega)
    rw [z2] at zN
    have k5 : ∀ k, (nx = n' + k) = False := fun k => by simp only [eq_iff_iff, iff_false]; omega
    have k6 : ∀ k, (nx + 37 = n' + k) = False := fun k => by simp only [eq_iff_iff, iff_false]; omega
    have k7 : ∀ k, (nx + 1 = n' + k) = False := fun k => by simp only [eq_iff_iff, iff_false]; omega
    have k8 : (nx = n') = False := by simp only [eq_iff_iff, iff_false]; omega
    have k9 : ∀ a k, a < 38 → (nx + a = n' + k) = False := fun a k hk => by simp only [eq_iff_iff, iff_false]; omega
    have kA : ∀ a, a < 38 → (nx + a = n') = False := fun a hk => by simp only [eq_iff_iff, iff_false]; omega
    by_cases hlt : is.length < w.groups.length
    · by_cases h0 : is.length = 0
      · have hc : (gt w.groups (is.length : Int)).waits.length ≤ 1048576 := by have := zB3 (·.waits.length) (zC7 (show (0:Int) ≤ (is.length : Int) by omega) (show (is.length : Int) < w.groups.length by omega)); omega
        rw [if_pos h0] at hO
        try simp [-qt, -qd, -ql, rgs, hO, aN, wldV, vA, uL, hlt, k5, k6, k7, k8, k9, kA]
        repeat' first | done | ((first | ((with_reducible show zT _ _ _ _ _ _); refine zB rfl fun _ => ?_) | ((with_reducible show zH _ _ _ _ _ _ _); refine zC rfl omA omA ?_) | ((with_reducible show zG _ _ _ 222 _ _); refine yF (f_l12Copy (r := F 13) (g := gt w.groups (is.length : Int)) hc) ?_) | ((with_reducible show zC9 _ _ _ _ _ _ _ _); refine zW rfl rfl (by decide) (by decide) (by first | (simp [-qt, -qd, -ql, rgs, hO, aN, wldV, vA, uL, hlt, k5, k6, k7, k8, k9, kA]; done) | (simp [-qt, -qd, -ql, rgs, hO, aN, wldV, vA, uL, hlt, k5, k6, k7, k8, k9, kA]; rfl)) (by first | (simp [-qt, -qd, -ql, rgs, hO, aN, wldV, vA, uL, hlt, k5, k6, k7, k8, k9, kA]; done) | (simp [-qt, -qd, -ql, rgs, hO, aN, wldV, vA, uL, hlt, k5, k6, k7, k8, k9, kA]; rfl)) (by first | (simp; done) | (simp; omega)) (by first | (simp only [yK, LIM] at *; simp; omega) | (simp only [yK]; simp; omega)) (by simp [iv, bv]) ?_) | (with_reducible refine zI (i := 1) [(0, [], []), (1, [], [20, 24, 35]), (2, [], []), (3, [], [20, 24, 35]), (5, [], []), (6, [], [20, 24, 35]), (8, [], []), (9, [], [20, 24, 35]), (11, [], []), (12, [], [20, 24, 35]), (14, [], []), (15, [], [20, 24, 35]), (17, [], []), (18, [], [20, 24, 35]), (21, [], []), (22, [], [20, 24, 35]), (25, [], []), (26, [], [20, 24, 35]), (28, [], []), (29, [], [20, 24, 35]), (31, [], []), (32, [], [20, 24, 35]), (4, [.tmp 5, .tmp 10, .tmp 13, .tmp 16, .tmp 19, .tmp 22, .tmp 26, .tmp 30, .tmp 33, .tmp 36], [20, 24, 35]), (7, [.tmp 5, .tmp 13, .tmp 16, .tmp 19, .tmp 22, .tmp 26, .tmp 30, .tmp 33, .tmp 36], [20, 24, 35]), (10, [.tmp 5, .tmp 16, .tmp 19, .tmp 22, .tmp 26, .tmp 30, .tmp 33, .tmp 36], [20, 24, 35]), (13, [.tmp 5, .tmp 19, .tmp 22, .tmp 26, .tmp 30, .tmp 33, .tmp 36], [20, 24, 35]), (16, [.tmp 5, .tmp 22, .tmp 26, .tmp 30, .tmp 33, .tmp 36], [20, 24, 35]), (19, [.tmp 5, .tmp 26, .tmp 30, .tmp 33, .tmp 36], [20, 24, 35]), (20, [], []), (23, [.tmp 5, .tmp 30, .tmp 33, .tmp 36], [24, 35]), (24, [], []), (27, [.tmp 5, .tmp 33, .tmp 36], [35]), (30, [.tmp 5, .tmp 36], [35]), (33, [.tmp 5], [35]), (34, [], []), (35, [], []), (36, [], [])] (by kernel_rfl) ?_) | (with_reducible refine zI (i := 5) [(0, [], []), (1, [], [8]), (2, [], []), (3, [], []), (4, [], []), (5, [], []), (6, [], []), (7, [.tmp 47], []), (8, [], []), (9, [], []), (10, [], []), (11, [], [])] (by kernel_rfl) ?_)) <;> simp [-qt, -qd, -ql, rgs, hO, aN, wldV, vA, uL, hlt, k5, k6, k7, k8, k9, kA]) | ((first | (with_reducible refine zA ?_ ?_)) <;> intro qb <;> (have qp := qb; try simp only [psq] at qp) <;> simp [-qt, -qd, -ql, rgs, hO, aN, wldV, vA, uL, hlt, k5, k6, k7, k8, k9, kA, qb])
        refine app_nil rfl (by decide) (by decide) (by simp; rfl) (by simp [yK]) (by simp) ?_
        try simp [-qt, -qd, -ql, rgs, hO, aN, wldV, vA, uL, hlt, k5, k6, k7, k8, k9, kA]
        repeat' first | done | ((first | ((with_reducible show zT _ _ _ _ _ _); refine zB rfl fun _ => ?_) | ((with_reducible show zH _ _ _ _ _ _ _); refine zC rfl omA omA ?_) | ((with_reducible show zC9 _ _ _ _ _ _ _ _); refine zW rfl rfl (by decide) (by decide) (by first | (simp [-qt, -qd, -ql, rgs, hO, aN, wldV, vA, uL, hlt, k5, k6, k7, k8, k9, kA]; done) | (simp [-qt, -qd, -ql, rgs, hO, aN, wldV, vA, uL, hlt, k5, k6, k7, k8, k9, kA]; rfl)) (by first | (simp [-qt, -qd, -ql, rgs, hO, aN, wldV, vA, uL, hlt, k5, k6, k7, k8, k9, kA]; done) | (simp [-qt, -qd, -ql, rgs, hO, aN, wldV, vA, uL, hlt, k5, k6, k7, k8, k9, kA]; rfl)) (by first | (simp; done) | (simp; omega)) (by first | (simp only [yK, LIM] at *; simp; omega) | (simp only [yK]; simp; omega)) (by simp [iv, bv]) ?_) | (with_reducible refine zI (i := 1) [(0, [], []), (1, [], [20, 24, 35]), (2, [], []), (3, [], [20, 24, 35]), (5, [], []), (6, [], [20, 24, 35]), (8, [], []), (9, [], [20, 24, 35]), (11, [], []), (12, [], [20, 24, 35]), (14, [], []), (15, [], [20, 24, 35]), (17, [], []), (18, [], [20, 24, 35]), (21, [], []), (22, [], [20, 24, 35]), (25, [], []), (26, [], [20, 24, 35]), (28, [], []), (29, [], [20, 24, 35]), (31, [], []), (32, [], [20, 24, 35]), (4, [.tmp 5, .tmp 10, .tmp 13, .tmp 16, .tmp 19, .tmp 22, .tmp 26, .tmp 30, .tmp 33, .tmp 36], [20, 24, 35]), (7, [.tmp 5, .tmp 13, .tmp 16, .tmp 19, .tmp 22, .tmp 26, .tmp 30, .tmp 33, .tmp 36], [20, 24, 35]), (10, [.tmp 5, .tmp 16, .tmp 19, .tmp 22, .tmp 26, .tmp 30, .tmp 33, .tmp 36], [20, 24, 35]), (13, [.tmp 5, .tmp 19, .tmp 22, .tmp 26, .tmp 30, .tmp 33, .tmp 36], [20, 24, 35]), (16, [.tmp 5, .tmp 22, .tmp 26, .tmp 30, .tmp 33, .tmp 36], [20, 24, 35]), (19, [.tmp 5, .tmp 26, .tmp 30, .tmp 33, .tmp 36], [20, 24, 35]), (20, [], []), (23, [.tmp 5, .tmp 30, .tmp 33, .tmp 36], [24, 35]), (24, [], []), (27, [.tmp 5, .tmp 33, .tmp 36], [35]), (30, [.tmp 5, .tmp 36], [35]), (33, [.tmp 5], [35]), (34, [], []), (35, [], []), (36, [], [])] (by kernel_rfl) ?_) | (with_reducible refine zI (i := 5) [(0, [], []), (1, [], [8]), (2, [], []), (3, [], []), (4, [], []), (5, [], []), (6, [], []), (7, [.tmp 47], []), (8, [], []), (9, [], []), (10, [], []), (11, [], [])] (by kernel_rfl) ?_)) <;> simp [-qt, -qd, -ql, rgs, hO, aN, wldV, vA, uL, hlt, k5, k6, k7, k8, k9, kA]) | ((first | (with_reducible refine zA ?_ ?_)) <;> intro qb <;> (have qp := qb; try simp only [psq] at qp) <;> simp [-qt, -qd, -ql, rgs, hO, aN, wldV, vA, uL, hlt, k5, k6, k7, k8, k9, kA, qb])
        refine hnx.go (n' + 14, is ++ [n' + 17]) (by omega) (by simp [zM hlt hlim]) (by simp) zK (by first | omega | (simp; omega)) ?_
        dsimp only
        refine ⟨by simp, ?_, fun _ => ⟨?_, by omega, by omega, ?_⟩, hS.snoc (fun k hk => ?_) ?_ (by omega) (by omega) (by omega), by omega, fun j hj hj2 => ?_⟩
        · rw [zL, if_neg (by omega)]
          try simp
          try exact List.eq_nil_of_length_eq_zero h0
        · rw [zI9 hlt]
          repeat (first | rw [zJ _ _ _ _ (by omega)] | rw [zL])
          simp [uL]
          right; exact List.eq_nil_of_length_eq_zero h0
        · intro hm
          rcases List.mem_append.1 hm with hm | hm
          · have := hS.hi _ hm; omega
          · simp at hm
        · have := hS.hi k hk
          have := hS.lo k hk
          repeat rw [zJ _ _ _ _ (by omega)]
        · repeat (first | rw [zJ _ _ _ _ (by omega)] | rw [zL])
        · repeat rw [zJ _ _ _ _ (by omega)]
          exact hF j hj hj2
      · have hc : (gt w.groups (is.length : Int)).waits.length ≤ 1048576 := by have := zB3 (·.waits.length) (zC7 (show (0:Int) ≤ (is.length : Int) by omega) (show (is.length : Int) < w.groups.length by omega)); omega
        rw [if_neg h0] at hO
        obtain ⟨hR1, hR2, hR3, hR4⟩ := hR (by omega)
        have m1 : ∀ k, (id = n' + k) = False := fun k => by simp only [eq_iff_iff, iff_false]; omega
        have m2 : ∀ k, (nx + k = id) = (nx + k = id) := fun k => rfl
        have m3 : (nx + 37 = id) = False := by simp only [eq_iff_iff, iff_false]; omega
        have m4 : (nx = id) = False := by simp only [eq_iff_iff, iff_false]; omega
        try simp [-qt, -qd, -ql, rgs, hO, hR1, aN, wldV, vA, uL, hlt, k5, k6, k7, k8, k9, kA, m1, m3, m4]
        repeat' first | done | ((first | ((with_reducible show zT _ _ _ _ _ _); refine zB rfl fun _ => ?_) | ((with_reducible show zH _ _ _ _ _ _ _); refine zC rfl omA omA ?_) | ((with_reducible show zG _ _ _ 222 _ _); refine yF (f_l12Copy (r := F 13) (g := gt w.groups (is.length : Int)) hc) ?_) | ((with_reducible show zC9 _ _ _ _ _ _ _ _); refine zW rfl rfl (by decide) (by decide) (by first | (simp [-qt, -qd, -ql, rgs, hO, hR1, aN, wldV, vA, uL, hlt, k5, k6, k7, k8, k9, kA, m1, m3, m4]; done) | (simp [-qt, -qd, -ql, rgs, hO, hR1, aN, wldV, vA, uL, hlt, k5, k6, k7, k8, k9, kA, m1, m3, m4]; rfl)) (by first | (simp [-qt, -qd, -ql, rgs, hO, hR1, aN, wldV, vA, uL, hlt, k5, k6, k7, k8, k9, kA, m1, m3, m4]; done) | (simp [-qt, -qd, -ql, rgs, hO, hR1, aN, wldV, vA, uL, hlt, k5, k6, k7, k8, k9, kA, m1, m3, m4]; rfl)) (by first | (simp; done) | (simp; omega)) (by first | (simp only [yK, LIM] at *; simp; omega) | (simp only [yK]; simp; omega)) (by simp [iv, bv]) ?_) | (with_reducible refine zI (i := 1) [(0, [], []), (1, [], [20, 24, 35]), (2, [], []), (3, [], [20, 24, 35]), (5, [], []), (6, [], [20, 24, 35]), (8, [], []), (9, [], [20, 24, 35]), (11, [], []), (12, [], [20, 24, 35]), (14, [], []), (15, [], [20, 24, 35]), (17, [], []), (18, [], [20, 24, 35]), (21, [], []), (22, [], [20, 24, 35]), (25, [], []), (26, [], [20, 24, 35]), (28, [], []), (29, [], [20, 24, 35]), (31, [], []), (32, [], [20, 24, 35]), (4, [.tmp 5, .tmp 10, .tmp 13, .tmp 16, .tmp 19, .tmp 22, .tmp 26, .tmp 30, .tmp 33, .tmp 36], [20, 24, 35]), (7, [.tmp 5, .tmp 13, .tmp 16, .tmp 19, .tmp 22, .tmp 26, .tmp 30, .tmp 33, .tmp 36], [20, 24, 35]), (10, [.tmp 5, .tmp 16, .tmp 19, .tmp 22, .tmp 26, .tmp 30, .tmp 33, .tmp 36], [20, 24, 35]), (13, [.tmp 5, .tmp 19, .tmp 22, .tmp 26, .tmp 30, .tmp 33, .tmp 36], [20, 24, 35]), (16, [.tmp 5, .tmp 22, .tmp 26, .tmp 30, .tmp 33, .tmp 36], [20, 24, 35]), (19, [.tmp 5, .tmp 26, .tmp 30, .tmp 33, .tmp 36], [20, 24, 35]), (20, [], []), (23, [.tmp 5, .tmp 30, .tmp 33, .tmp 36], [24, 35]), (24, [], []), (27, [.tmp 5, .tmp 33, .tmp 36], [35]), (30, [.tmp 5, .tmp 36], [35]), (33, [.tmp 5], [35]), (34, [], []), (35, [], []), (36, [], [])] (by kernel_rfl) ?_) | (with_reducible refine zI (i := 5) [(0, [], []), (1, [], [8]), (2, [], []), (3, [], []), (4, [], []), (5, [], []), (6, [], []), (7, [.tmp 47], []), (8, [], []), (9, [], []), (10, [], []), (11, [], [])] (by kernel_rfl) ?_)) <;> simp [-qt, -qd, -ql, rgs, hO, hR1, aN, wldV, vA, uL, hlt, k5, k6, k7, k8, k9, kA, m1, m3, m4]) | ((first | (with_reducible refine zA ?_ ?_)) <;> intro qb <;> (have qp := qb; try simp only [psq] at qp) <;> simp [-qt, -qd, -ql, rgs, hO, hR1, aN, wldV, vA, uL, hlt, k5, k6, k7, k8, k9, kA, m1, m3, m4, qb])
        refine hnx.go (n' + 14, is ++ [n' + 17]) (by omega) (by simp [zM hlt hlim]) (by simp) zK (by first | omega | (simp; omega)) ?_
        dsimp only
        refine ⟨by simp, ?_, fun _ => ⟨?_, by omega, by omega, ?_⟩, hS.snoc (fun k hk => ?_) ?_ (by omega) (by omega) (by omega), by omega, fun j hj hj2 => ?_⟩
        · rw [zL, if_neg (by omega)]
          try simp
          try exact List.eq_nil_of_length_eq_zero h0
        · rw [zI9 hlt]
          repeat (first | rw [zJ _ _ _ _ (by omega)] | rw [zL])
          simp [uL]
        · intro hm
          rcases List.mem_append.1 hm with hm | hm
          · have := hS.hi _ hm; omega
          · simp at hm
        · have := hS.hi k hk
          have := hS.lo k hk
          have hne : k ≠ id := fun e => hR4 (e ▸ hk)
          repeat rw [zJ _ _ _ _ (by omega)]
        · repeat (first | rw [zJ _ _ _ _ (by omega)] | rw [zL])
        · repeat rw [zJ _ _ _ _ (by omega)]
          exact hF j hj hj2
    · have he : is.length = w.groups.length := by omega
      have key : ∀ (HF : zX) (id nn gl : Nat), gl = w.groups.length → (∀ j, j < n1 + 12 → j ≠ nx + 37 → j ≠ nx + 1 → HF j = H2 j) → (∀ k ∈ is, HF k = h' k) → HF id = some (.row 5 (List.zipWith uL w.groups is)) →
          n1 + 12 ≤ id → id ∉ is → id < nn → n' + 1 ≤ nn → KeepB nx HF h ∧ ∃ X, AV.agg [.int .i64 w.now, .ref ip 1 0 w.progs.length, .ref n1 5 0 w.tree.length, .ref (n1 + 1) 4 0 w.events.length, .ref (n1 + 2) 1 0 w.spread.told.length, .ref (n1 + 3) 1 0 w.spread.work.length, .ref (n1 + 4) 3 0 w.timers.heap.length, .ref (n1 + 5) 5 0 w.timers.list.length, .int .i64 w.timers.next, .ref (n1 + 6) 1 0 w.afters.slots.ages.length, .ref (n1 + 7) 1 0 w.afters.slots.used.length, .ref (n1 + 8) 5 0 w.afters.list.length, .ref (nx + 25) 9 0 w.tasks.length, .ref id 5 0 gl, .ref (nx + 29) 4 0 w.sights.length, .ref (n1 + 9) 1 0 w.began.length, .ref (n1 + 10) 1 0 w.rang.length] = AV.agg (zD6 X w) ∧ WV HF X w ∧ ∀ i ∈ X.ids, nx ≤ i ∧ i < nn := by
        intro HF id nn gl hgl c1 c2 c3 c7 c8 c10 c11
        subst hgl
        have t0 := (c1 ip (by omega) (by omega) (by omega)).trans q0
        have t1 := (c1 n1 (by omega) (by omega) (by omega)).trans q1
        have t2 := (c1 (n1 + 1) (by omega) (by omega) (by omega)).trans q2
        have t3 := (c1 (n1 + 2) (by omega) (by omega) (by omega)).trans q3
        have t4 := (c1 (n1 + 3) (by omega) (by omega) (by omega)).trans q4
        have t5 := (c1 (n1 + 4) (by omega) (by omega) (by omega)).trans q5
        have t6 := (c1 (n1 + 5) (by omega) (by omega) (by omega)).trans q6
        have t7 := (c1 (n1 + 6) (by omega) (by omega) (by omega)).trans q7
        have t8 := (c1 (n1 + 7) (by omega) (by omega) (by omega)).trans q8
        have t9 := (c1 (n1 + 8) (by omega) (by omega) (by omega)).trans q9
        have t10 := (c1 (nx + 25) (by omega) (by omega) (by omega)).trans q10
        have t11 := (c1 (nx + 29) (by omega) (by omega) (by omega)).trans q11
        have t12 := (c1 (n1 + 9) (by omega) (by omega) (by omega)).trans q12
        have t13 := (c1 (n1 + 10) (by omega) (by omega) (by omega)).trans q13
        have nn1 : ∀ t, t < nx + 39 ∨ n1 ≤ t → t ∉ isp := fun t ht hm => by have := hS1.lo t hm; have := hS1.hi t hm; omega
        have nn2 : ∀ t, t < n1 + 12 ∨ n' ≤ t → t ∉ is := fun t ht hm => by have := hS.lo t hm; have := hS.hi t hm; omega
        refine ⟨fun j hj => (c1 j (by omega) (by omega) (by omega)).trans (hK2 j hj), WI.ofL [ip, n1, n1 + 1, n1 + 2, n1 + 3, n1 + 4, n1 + 5, n1 + 6, n1 + 7, n1 + 8, nx + 25, id, nx + 29, n1 + 9, n1 + 10] isp is, rfl,
          WV.ofM (a := nx + 39) (b := n1) (c := n1 + 12) (d := n') t0 t1 t2 t3 t4 t5 t6 t7 t8 t9 t10 c3 t11 t12 t13 hlen1 he (hS1.keep (fun i hi => ?_) (Nat.le_refl _) (Nat.le_refl _)) (hS.keep c2 (Nat.le_refl _) (Nat.le_refl _)) (fun x hx y hy => ?_) ?_ (fun t ht => ?_), fun i hi => ?_⟩
        · have := hS1.lo i hi
          have := hS1.hi i hi
          rw [c1 i (by omega) (by omega) (by omega), qs i hi]
        · have := hS1.hi x hx
          have := hS.lo y hy
          omega
        · simp only [List.nodup_cons, List.mem_cons, List.not_mem_nil, or_false, not_or, List.nodup_nil, and_true, not_false_eq_true]
          omega
        · simp only [List.mem_cons, List.not_mem_nil, or_false] at ht
          rcases ht with rfl | rfl | rfl | rfl | rfl | rfl | rfl | rfl | rfl | rfl | rfl | rfl | rfl | rfl | rfl
          · exact ⟨hni1, nn2 _ (by omega)⟩
          all_goals first
          | exact ⟨nn1 _ (by omega), nn2 _ (by omega)⟩
          | exact ⟨nn1 _ (by omega), c8⟩
        · rw [WI.ofL_ids] at hi
          rcases List.mem_append.1 hi with hi | hi
          · simp only [List.mem_cons, List.not_mem_nil, or_false] at hi
            omega
          · rcases List.mem_append.1 hi with hi | hi
            · have := hS1.lo i hi; have := hS1.hi i hi; omega
            · have := hS.lo i hi; have := hS.hi i hi; omega
      by_cases hg : w.groups = []
      · have h0 : is.length = 0 := by rw [he, hg]; rfl
        rw [if_pos h0] at hO
        try simp [-qt, -qd, -ql, rgs, hO, aN, zN, wldV, he, hlt, k5, k6, k7, k8, k9, kA]
        repeat' first | done | ((first | ((with_reducible show zT _ _ _ _ _ _); refine zB rfl fun _ => ?_) | ((with_reducible show zH _ _ _ _ _ _ _); refine zC rfl omA omA ?_) | ((with_reducible show zC9 _ _ _ _ _ _ _ _); refine zW rfl rfl (by decide) (by decide) (by first | (simp [-qt, -qd, -ql, rgs, hO, aN, zN, wldV, he, hlt, k5, k6, k7, k8, k9, kA]; done) | (simp [-qt, -qd, -ql, rgs, hO, aN, zN, wldV, he, hlt, k5, k6, k7, k8, k9, kA]; rfl)) (by first | (simp [-qt, -qd, -ql, rgs, hO, aN, zN, wldV, he, hlt, k5, k6, k7, k8, k9, kA]; done) | (simp [-qt, -qd, -ql, rgs, hO, aN, zN, wldV, he, hlt, k5, k6, k7, k8, k9, kA]; rfl)) (by first | (simp; done) | (simp; omega)) (by first | (simp only [yK, LIM] at *; simp; omega) | (simp only [yK]; simp; omega)) (by simp [iv, bv]) ?_) | (with_reducible refine zI (i := 1) [(0, [], []), (1, [], [20, 24, 35]), (2, [], []), (3, [], [20, 24, 35]), (5, [], []), (6, [], [20, 24, 35]), (8, [], []), (9, [], [20, 24, 35]), (11, [], []), (12, [], [20, 24, 35]), (14, [], []), (15, [], [20, 24, 35]), (17, [], []), (18, [], [20, 24, 35]), (21, [], []), (22, [], [20, 24, 35]), (25, [], []), (26, [], [20, 24, 35]), (28, [], []), (29, [], [20, 24, 35]), (31, [], []), (32, [], [20, 24, 35]), (4, [.tmp 5, .tmp 10, .tmp 13, .tmp 16, .tmp 19, .tmp 22, .tmp 26, .tmp 30, .tmp 33, .tmp 36], [20, 24, 35]), (7, [.tmp 5, .tmp 13, .tmp 16, .tmp 19, .tmp 22, .tmp 26, .tmp 30, .tmp 33, .tmp 36], [20, 24, 35]), (10, [.tmp 5, .tmp 16, .tmp 19, .tmp 22, .tmp 26, .tmp 30, .tmp 33, .tmp 36], [20, 24, 35]), (13, [.tmp 5, .tmp 19, .tmp 22, .tmp 26, .tmp 30, .tmp 33, .tmp 36], [20, 24, 35]), (16, [.tmp 5, .tmp 22, .tmp 26, .tmp 30, .tmp 33, .tmp 36], [20, 24, 35]), (19, [.tmp 5, .tmp 26, .tmp 30, .tmp 33, .tmp 36], [20, 24, 35]), (20, [], []), (23, [.tmp 5, .tmp 30, .tmp 33, .tmp 36], [24, 35]), (24, [], []), (27, [.tmp 5, .tmp 33, .tmp 36], [35]), (30, [.tmp 5, .tmp 36], [35]), (33, [.tmp 5], [35]), (34, [], []), (35, [], []), (36, [], [])] (by kernel_rfl) ?_) | (with_reducible refine zI (i := 5) [(0, [], []), (1, [], [8]), (2, [], []), (3, [], []), (4, [], []), (5, [], []), (6, [], []), (7, [.tmp 47], []), (8, [], []), (9, [], []), (10, [], []), (11, [], [])] (by kernel_rfl) ?_)) <;> simp [-qt, -qd, -ql, rgs, hO, aN, zN, wldV, he, hlt, k5, k6, k7, k8, k9, kA]) | ((first | (with_reducible refine zA ?_ ?_)) <;> intro qb <;> (have qp := qb; try simp only [psq] at qp) <;> simp [-qt, -qd, -ql, rgs, hO, aN, zN, wldV, he, hlt, k5, k6, k7, k8, k9, kA, qb])
        refine .nilR (i := 13) (sz := 5) rfl (by decide) (.done ?_)
        have hz : List.zipWith uL w.groups is = [] := by rw [hg]; rfl
        have hl : w.groups.length = 0 := by rw [hg]; rfl
        refine key _ (n' + 7) (n' + 7 + 1) 0 hl.symm ?_ ?_ ?_ (by omega) (fun hm => by have := hS.hi _ hm; omega) (by omega) (by omega)
        · intro j hj h3 h1
          repeat rw [zJ _ _ _ _ (by omega)]
          exact hF j hj h3
        · intro k hk
          have := hS.lo k hk
          have := hS.hi k hk
          repeat rw [zJ _ _ _ _ (by omega)]
        · rw [hz]; exact zL ..
      · have h0 : ¬ is.length = 0 := by rw [he]; simpa using hg
        rw [if_neg h0] at hO
        obtain ⟨hR1, hR2, hR3, hR4⟩ := hR (by omega)
        try simp [-qt, -qd, -ql, rgs, hO, aN, zN, wldV, he, hlt, k5, k6, k7, k8, k9, kA]
        repeat' first | done | ((first | ((with_reducible show zT _ _ _ _ _ _); refine zB rfl fun _ => ?_) | ((with_reducible show zH _ _ _ _ _ _ _); refine zC rfl omA omA ?_) | ((with_reducible show zC9 _ _ _ _ _ _ _ _); refine zW rfl rfl (by decide) (by decide) (by first | (simp [-qt, -qd, -ql, rgs, hO, aN, zN, wldV, he, hlt, k5, k6, k7, k8, k9, kA]; done) | (simp [-qt, -qd, -ql, rgs, hO, aN, zN, wldV, he, hlt, k5, k6, k7, k8, k9, kA]; rfl)) (by first | (simp [-qt, -qd, -ql, rgs, hO, aN, zN, wldV, he, hlt, k5, k6, k7, k8, k9, kA]; done) | (simp [-qt, -qd, -ql, rgs, hO, aN, zN, wldV, he, hlt, k5, k6, k7, k8, k9, kA]; rfl)) (by first | (simp; done) | (simp; omega)) (by first | (simp only [yK, LIM] at *; simp; omega) | (simp only [yK]; simp; omega)) (by simp [iv, bv]) ?_) | (with_reducible refine zI (i := 1) [(0, [], []), (1, [], [20, 24, 35]), (2, [], []), (3, [], [20, 24, 35]), (5, [], []), (6, [], [20, 24, 35]), (8, [], []), (9, [], [20, 24, 35]), (11, [], []), (12, [], [20, 24, 35]), (14, [], []), (15, [], [20, 24, 35]), (17, [], []), (18, [], [20, 24, 35]), (21, [], []), (22, [], [20, 24, 35]), (25, [], []), (26, [], [20, 24, 35]), (28, [], []), (29, [], [20, 24, 35]), (31, [], []), (32, [], [20, 24, 35]), (4, [.tmp 5, .tmp 10, .tmp 13, .tmp 16, .tmp 19, .tmp 22, .tmp 26, .tmp 30, .tmp 33, .tmp 36], [20, 24, 35]), (7, [.tmp 5, .tmp 13, .tmp 16, .tmp 19, .tmp 22, .tmp 26, .tmp 30, .tmp 33, .tmp 36], [20, 24, 35]), (10, [.tmp 5, .tmp 16, .tmp 19, .tmp 22, .tmp 26, .tmp 30, .tmp 33, .tmp 36], [20, 24, 35]), (13, [.tmp 5, .tmp 19, .tmp 22, .tmp 26, .tmp 30, .tmp 33, .tmp 36], [20, 24, 35]), (16, [.tmp 5, .tmp 22, .tmp 26, .tmp 30, .tmp 33, .tmp 36], [20, 24, 35]), (19, [.tmp 5, .tmp 26, .tmp 30, .tmp 33, .tmp 36], [20, 24, 35]), (20, [], []), (23, [.tmp 5, .tmp 30, .tmp 33, .tmp 36], [24, 35]), (24, [], []), (27, [.tmp 5, .tmp 33, .tmp 36], [35]), (30, [.tmp 5, .tmp 36], [35]), (33, [.tmp 5], [35]), (34, [], []), (35, [], []), (36, [], [])] (by kernel_rfl) ?_) | (with_reducible refine zI (i := 5) [(0, [], []), (1, [], [8]), (2, [], []), (3, [], []), (4, [], []), (5, [], []), (6, [], []), (7, [.tmp 47], []), (8, [], []), (9, [], []), (10, [], []), (11, [], [])] (by kernel_rfl) ?_)) <;> simp [-qt, -qd, -ql, rgs, hO, aN, zN, wldV, he, hlt, k5, k6, k7, k8, k9, kA]) | ((first | (with_reducible refine zA ?_ ?_)) <;> intro qb <;> (have qp := qb; try simp only [psq] at qp) <;> simp [-qt, -qd, -ql, rgs, hO, aN, zN, wldV, he, hlt, k5, k6, k7, k8, k9, kA, qb])
        refine .done (key _ id (n' + 7) _ rfl ?_ ?_ ?_ (by omega) hR4 (by omega) (by omega))
        · intro j hj h3 h1
          repeat rw [zJ _ _ _ _ (by omega)]
          exact hF j hj h3
        · intro k hk
          have := hS.lo k hk
          have := hS.hi k hk
          repeat rw [zJ _ _ _ _ (by omega)]
        · repeat rw [zJ _ _ _ _ (by omega)]
          exact hR1
theorem w_l13Copy {F : Nat → Bool} {w : Wld} (hs : zC4 w ≤ 1048576) : WC ctx.P 107 [.agg (wldV F w)] (fun X => .agg (zD6 X w)) w := WC.of (w_l13CopyA hs)
theorem wldV_fz (w : Wld) : Fz (.agg (wldV (fun _ => true) w)) := by
  refine .agg _ fun c hc => ?_
  simp only [wldV, List.mem_cons, List.not_mem_nil, or_false] at hc
  rcases hc with rfl | rfl | rfl | rfl | rfl | rfl | rfl | rfl | rfl | rfl | rfl | rfl | rfl | rfl | rfl | rfl | rfl
  · exact .int _ _
  · exact .vmap prgV_fz
  · exact .vmap nodC_fz
  · exact .vmap zK5
  · exact .vmap zG3
  · exact .vmap zC3
  · exact .vmap uA
  · exact .vmap zB0
  · exact .int _ _
  · exact .vmap zC3
  · exact .vmap zG3
  · exact .vmap zA0
  · exact .vmap tskC_fz
  · exact .vmap grpV_fz
  · exact .vmap sgtC_fz
  · exact .vmap zC3
  · exact .vmap zC3
theorem s_l13Copy {F : Nat → Bool} {w : Wld} (hs : zC4 w ≤ 1048576) : PC ctx.P 107 [.agg (wldV F w)] (.agg (wldV (fun _ => true) w)) := (w_l13Copy hs).pc (wldV_fz w) fun g X v => .aggs v.fros
end Go.AE.Tryz
end

section
/- Contracts of the reference's readers: worlds. -/
set_option linter.unusedSimpArgs false
set_option linter.unusedVariables false
set_option maxRecDepth 8000
set_option maxHeartbeats 4000000
namespace Go.AE.Tryz
open Go.Proofs
open List renaming map_take → qt, map_drop → qd, map_tail → ql

theorem s_Groups {F : Nat → Bool} {w : Wld} : PC ctx.P 146 [.agg (wldV F w)] (.bool (zM0 (zB4 w) w.groups && decide (w.groups.length ≤ 8))) := by
  refine PC.lim (n := w.groups.length) (x := .agg (wldV F w)) (by simp) (.agg (x := .view (F 12) 5 (w.groups.map (vA (F 13)))) (by simp [wldV]) (.here (by simp))) ⟨_, Tryz.func146, by kernel_rfl, by kernel_rfl⟩ fun hlim => ?_
  refine PC.o okC Tryz.func146 rfl (.bool _) fun h nx hnx => ?_
  try simp [-qt, -qd, -ql, rgs, wldV]
  repeat' first | done | ((first | ((with_reducible show zT _ _ _ _ _ _); refine zB rfl fun _ => ?_) | ((with_reducible show zH _ _ _ _ _ _ _); refine zC rfl omA omA ?_) | (with_reducible refine zI (i := 10) [(0, [], []), (1, [], []), (2, [], []), (3, [], []), (4, [], []), (5, [], []), (6, [], []), (7, [], [])] (by kernel_rfl) ?_)) <;> simp [-qt, -qd, -ql, rgs, wldV]) | ((first | (with_reducible refine zE ?_ ?_) | (with_reducible refine zA ?_ ?_)) <;> intro qb <;> (have qp := qb; try simp only [psq] at qp) <;> simp [-qt, -qd, -ql, rgs, wldV, qb])
  refine zU [2, 3, 4, 5, 6, 7, 8, 9, 10, 11, 12, 13, 14, 15, 16, 17, 18, 19, 20, 21, 22, 23, 24, 25, 26, 27, 28, 29, 30, 31, 32, 33, 34, 35, 36, 37, 38, 39, 40, 41, 42, 43, 44, 45, 46, 47, 48, 49, 50, 51, 52] (w.groups.length) (fun (i : Nat) a => [(3, .int .i64 i)]) (fun i_ a_ h_ _ => (fun i (_ : Unit) _ => zM0 (zB4 w) (w.groups.drop i) = zM0 (zB4 w) w.groups) i_ a_ h_) (()) (by simp) ?_ zP (Nat.le_refl _) ?_
  · simp
  · intro i a tm h' n' hle hJ hE hn' next hnx
    try dsimp only at hJ
    have hK : KeepB nx h' h := KeepB.sub hE zK (by omega)
    simp [-qt, -qd, -ql]
    have e1 : h' (nx) = some (.obj (wldV F w)) := by have := hE (nx) (by omega); simpa [wldV] using this
    have e1n : ∀ k, ((nx) = n' + k) = False := fun k => by simp only [eq_iff_iff, iff_false]; omega
    have e1m : ((nx) = n') = False := by simp only [eq_iff_iff, iff_false]; omega
    try simp [-qt, -qd, -ql, rgs, wldV, vE, vA, e1, e1n, e1m]
    repeat' first | done | ((first | ((with_reducible show zT _ _ _ _ _ _); refine zB rfl fun _ => ?_) | ((with_reducible show zH _ _ _ _ _ _ _); refine zC rfl omA omA ?_) | ((with_reducible show zG _ _ _ 256 _ _); refine zD (s_GroupOk (p := F 13) (g := gt w.groups (i : Int))) ?_) | ((with_reducible show zG _ _ _ 253 _ _); refine zD (s_Node (w := w) (F := F)) ?_) | (with_reducible refine zI (i := 10) [(0, [], []), (1, [], []), (2, [], []), (3, [], []), (4, [], []), (5, [], []), (6, [], []), (7, [], [])] (by kernel_rfl) ?_)) <;> simp [-qt, -qd, -ql, rgs, wldV, vE, vA, e1, e1n, e1m]) | ((first | (with_reducible refine zE ?_ ?_) | (with_reducible refine zA ?_ ?_)) <;> intro qb <;> (have qp := qb; try simp only [psq] at qp) <;> simp [-qt, -qd, -ql, rgs, wldV, vE, vA, e1, e1n, e1m, qb])
    · have hlt : i < w.groups.length := (by omega)
      rw [zS hlt] at hJ
      refine ⟨?_, zK⟩; clear hnx; simp only [zV, zG5] at hJ; grind
    · have hlt : i < w.groups.length := (by omega)
      rw [zS hlt] at hJ
      refine ⟨?_, zK⟩; clear hnx; simp only [zV, zG5, vV, inR] at hJ; grind
    · have hlt : i < w.groups.length := (by omega)
      rw [zS hlt] at hJ
      refine ⟨?_, zK⟩; clear hnx; simp only [zV, zG5] at hJ; grind
    · have hlt : i < w.groups.length := (by omega)
      rw [zS hlt] at hJ
      refine zU [2, 5, 38, 39, 40, 41, 42, 43, 44, 45, 46, 47, 48, 49, 50, 51, 52] ((gt w.groups (i : Int)).waits.length) (fun (i : Nat) a => [(5, .int .i64 i)]) (fun i_ a_ h_ _ => (fun (j : Nat) (_ : Unit) _ => zM0 (fun i => vV i w.tasks) ((gt w.groups (i : Int)).waits.drop j) = zM0 (fun i => vV i w.tasks) (gt w.groups (i : Int)).waits) i_ a_ h_) (()) (by simp) ?_ zP (Nat.le_refl _) ?_
      · simp
      · intro j b tm2 h2 n2 hle2 hJ2 hE2 hn2 next2 hnx2
        try dsimp only at hJ2
        have hK2 : KeepB nx h2 h := KeepB.sub hE2 zK (by omega)
        simp [-qt, -qd, -ql]
        have e2 : h2 (nx) = some (.obj (wldV F w)) := by have := hE2 (nx) (by omega); simpa [e1, e1n, e1m, wldV] using this
        have e2n : ∀ k, ((nx) = n2 + k) = False := fun k => by simp only [eq_iff_iff, iff_false]; omega
        have e2m : ((nx) = n2) = False := by simp only [eq_iff_iff, iff_false]; omega
        have e3 : h2 (n' + 10) = some (.obj (vA (F 13) (gt w.groups (i : Int)))) := by have := hE2 (n' + 10) (by omega); simpa [vA] using this
        have e3n : ∀ k, ((n' + 10) = n2 + k) = False := fun k => by simp only [eq_iff_iff, iff_false]; omega
        have e3m : ((n' + 10) = n2) = False := by simp only [eq_iff_iff, iff_false]; omega
        try simp [-qt, -qd, -ql, rgs, wldV, vA, iv, e2, e2n, e2m, e3, e3n, e3m]
        repeat' first | done | ((first | ((with_reducible show zT _ _ _ _ _ _); refine zB rfl fun _ => ?_) | ((with_reducible show zH _ _ _ _ _ _ _); refine zC rfl omA omA ?_) | ((with_reducible show zG _ _ _ 254 _ _); refine zD (s_Task (w := w) (F := F)) ?_) | (with_reducible refine zI (i := 10) [(0, [], []), (1, [], []), (2, [], []), (3, [], []), (4, [], []), (5, [], []), (6, [], []), (7, [], [])] (by kernel_rfl) ?_)) <;> simp [-qt, -qd, -ql, rgs, wldV, vA, iv, e2, e2n, e2m, e3, e3n, e3m]) | ((first | (with_reducible refine zE ?_ ?_) | (with_reducible refine zA ?_ ?_)) <;> intro qb <;> (have qp := qb; try simp only [psq] at qp) <;> simp [-qt, -qd, -ql, rgs, wldV, vA, iv, e2, e2n, e2m, e3, e3n, e3m, qb])
        · rw [zS (by omega)] at hJ2
          refine ⟨?_, zK⟩; clear hnx hnx2; simp only [zV, zG5] at hJ hJ2; grind
        · have hlw : (gt w.groups (i : Int)).waits.length ≤ LIM := by assumption
          rw [zS (by omega)] at hJ2
          refine hnx2.go () (by omega) (by simp [zM (show j < (gt w.groups (i : Int)).waits.length by omega) hlw]) (by simp) zK (by first | omega | (simp; omega)) ?_
          clear hnx hnx2; simp only [zV] at hJ2; grind
        · rw [List.drop_eq_nil_of_le (by omega)] at hJ2
          refine hnx.go () (by omega) (by simp [zM hlt hlim]) (by simp) zK (by first | omega | (simp; omega)) ?_
          clear hnx hnx2; simp only [zV, yD, zG5] at hJ hJ2 ⊢; grind
    · refine ⟨?_, zK⟩; rw [List.drop_eq_nil_of_le (by omega)] at hJ; clear hnx; simp only [yD] at hJ; rw [← hJ]; simp; omega
end Go.AE.Tryz
end

section
/- Contracts of the reference's readers: worlds. -/
set_option linter.unusedSimpArgs false
set_option linter.unusedVariables false
set_option maxRecDepth 8000
set_option maxHeartbeats 4000000
namespace Go.AE.Tryz
open Go.Proofs
open List renaming map_take → qt, map_drop → qd, map_tail → ql

theorem s_Sights {F : Nat → Bool} {w : Wld} : PC ctx.P 147 [.agg (wldV F w)] (.bool (zM0 (zB5 w) w.sights && decide (w.sights.length ≤ 2000))) := by
  refine PC.lim (n := w.sights.length) (x := .agg (wldV F w)) (by simp) (.agg (x := .view (F 14) 4 (w.sights.map uP)) (by simp [wldV]) (.here (by simp))) ⟨_, Tryz.func147, by kernel_rfl, by kernel_rfl⟩ fun hlim => ?_
  refine PC.o okC Tryz.func147 rfl (.bool _) fun h nx hnx => ?_
  try simp [-qt, -qd, -ql, rgs, wldV]
  repeat' first | done | ((first | ((with_reducible show zT _ _ _ _ _ _); refine zB rfl fun _ => ?_) | ((with_reducible show zH _ _ _ _ _ _ _); refine zC rfl omA omA ?_)) <;> simp [-qt, -qd, -ql, rgs, wldV]) | ((first | (with_reducible refine zE ?_ ?_) | (with_reducible refine zA ?_ ?_)) <;> intro qb <;> (have qp := qb; try simp only [psq] at qp) <;> simp [-qt, -qd, -ql, rgs, wldV, qb])
  refine zU [2, 3, 4, 5, 6, 7, 8, 9, 10, 11, 12, 13, 14, 15, 16, 17, 18, 19, 20, 21, 22, 23, 24, 25, 26, 27, 28, 29, 30, 31, 32, 33, 34, 35, 36, 37, 38, 39, 40, 41, 42, 43, 44, 45, 46, 47, 48, 49, 50, 51, 52, 53, 54, 55] (w.sights.length) (fun (i : Nat) a => [(3, .int .i64 i)]) (fun i_ a_ h_ _ => (fun i (_ : Unit) _ => zM0 (zB5 w) (w.sights.drop i) = zM0 (zB5 w) w.sights) i_ a_ h_) (()) (by simp) ?_ zP (Nat.le_refl _) ?_
  · simp
  · intro i a tm h' n' hle hJ hE hn' next hnx
    try dsimp only at hJ
    have hK : KeepB nx h' h := KeepB.sub hE zK (by omega)
    simp [-qt, -qd, -ql]
    have e1 : h' (nx) = some (.obj (wldV F w)) := by have := hE (nx) (by omega); simpa [wldV] using this
    have e1n : ∀ k, ((nx) = n' + k) = False := fun k => by simp only [eq_iff_iff, iff_false]; omega
    have e1m : ((nx) = n') = False := by simp only [eq_iff_iff, iff_false]; omega
    try simp [-qt, -qd, -ql, rgs, wldV, uP, e1, e1n, e1m]
    repeat' first | done | ((first | ((with_reducible show zT _ _ _ _ _ _); refine zB rfl fun _ => ?_) | ((with_reducible show zH _ _ _ _ _ _ _); refine zC rfl omA omA ?_) | ((with_reducible show zG _ _ _ 252 _ _); refine zD (zA8) ?_) | ((with_reducible show zG _ _ _ 253 _ _); refine zD (s_Node (w := w) (F := F)) ?_)) <;> simp [-qt, -qd, -ql, rgs, wldV, uP, e1, e1n, e1m]) | ((first | (with_reducible refine zE ?_ ?_) | (with_reducible refine zA ?_ ?_)) <;> intro qb <;> (have qp := qb; try simp only [psq] at qp) <;> simp [-qt, -qd, -ql, rgs, wldV, uP, e1, e1n, e1m, qb])
    all_goals
      first
      | (have hlt : i < w.sights.length := (by first | omega | (simp at *; omega))
         rw [zS hlt] at hJ
         first
         | (refine hnx.go (()) ?_ ?_ ?_ ?_ ?_ ?_; omega; (simp [zM hlt hlim]); (simp); exact zK; (first | omega | (simp; omega)); (try dsimp only); clear hnx; first | ((try simp only [List.drop_length, Int.toNat_natCast, zV, yD, zF2] at hJ ⊢); grind) | (simp_all [zV, yD, zF2]; done) | (simp_all; omega))
         | (refine ⟨?_, zK⟩; clear hnx; first | ((try simp only [List.drop_length, Int.toNat_natCast, zV, yD, zF2] at hJ ⊢); grind) | (simp_all [zV, yD, zF2]; done) | (simp_all; omega)))
      | (obtain rfl : i = w.sights.length := (by first | omega | (simp at *; omega))
         refine ⟨?_, zK⟩; clear hnx; first | ((try simp only [List.drop_length, Int.toNat_natCast, zV, yD, zF2] at hJ ⊢); grind) | (simp_all [zV, yD, zF2]; done) | (simp_all; omega))
end Go.AE.Tryz
end

section
/- Contracts of the reference's readers: worlds. -/
set_option linter.unusedSimpArgs false
set_option linter.unusedVariables false
set_option maxRecDepth 8000
set_option maxHeartbeats 4000000
namespace Go.AE.Tryz
open Go.Proofs
open List renaming map_take → qt, map_drop → qd, map_tail → ql

theorem zL5 {F : Nat → Bool} {w : Wld} : PC ctx.P 57 [.agg (wldV F w)] (.bool (zE1 w)) := by
  refine PC.o okC Tryz.func57 rfl (.bool _) fun h nx hnx => ?_
  try simp [-qt, -qd, -ql, rgs, wldV]
  repeat' first | done | ((first | ((with_reducible show zG _ _ _ 140 _ _); refine zD (s_Progs) ?_) | ((with_reducible show zG _ _ _ 141 _ _); refine zD (s_Events (w := w) (F := F)) ?_) | ((with_reducible show zG _ _ _ 142 _ _); refine zD (s_SpreadOk (s := w.spread) (F := F)) ?_) | ((with_reducible show zG _ _ _ 143 _ _); refine zD (s_Timers (w := w) (F := F)) ?_) | ((with_reducible show zG _ _ _ 144 _ _); refine zD (s_Afters (w := w) (F := F)) ?_) | ((with_reducible show zG _ _ _ 145 _ _); refine zD (s_Tasks (w := w) (F := F)) ?_) | ((with_reducible show zG _ _ _ 146 _ _); refine zD (s_Groups (w := w) (F := F)) ?_) | ((with_reducible show zG _ _ _ 147 _ _); refine zD (s_Sights (w := w) (F := F)) ?_) | ((with_reducible show zG _ _ _ 148 _ _); refine zD (s_Numbers) ?_)) <;> simp [-qt, -qd, -ql, rgs, wldV]) | ((first | (with_reducible refine zE ?_ ?_)) <;> intro qb <;> (have qp := qb; try simp only [psq] at qp) <;> simp [-qt, -qd, -ql, rgs, wldV, qb])
  all_goals (clear hnx; have ht : yR w.tree w.events = true → zB2 w.tree = true := eventsOk_tree; simp only [zE1]; (try simp only [zM0] at *); grind)
end Go.AE.Tryz
end

section
/- Contracts of the reference's requests. -/
set_option linter.unusedSimpArgs false
set_option linter.unusedVariables false
set_option maxRecDepth 8000
set_option maxHeartbeats 4000000
namespace Go.AE.Tryz
open Go.Proofs
open List renaming map_take → qt, map_drop → qd, map_tail → ql
theorem yS {F : Nat → Bool} {w : Wld} : (∀ x ∈ wldV F w, x.one = true) = True := by simp [wldV]
theorem vL (F : Nat → Bool) (w : Wld) : (wldV F w).length = 17 := rfl
theorem yT (F : Nat → Bool) (w : Wld) : (wldV F w).take 17 = wldV F w := rfl
end Go.AE.Tryz
end

section
/- The law of the clock: what the program and the reference make of a world is the same, in memory of its own. -/
set_option linter.unusedSimpArgs false
set_option linter.unusedVariables false
set_option maxRecDepth 8000
set_option maxHeartbeats 4000000
namespace Go.AE.Tryz
open Go.Proofs
open List renaming map_take → qt, map_drop → qd, map_tail → ql
theorem wldR_mk (X : WI) (w : Wld) (k : Int) : zD6 X (mkWld w k) = zD6 X w := by simp [zD6, mkWld, mkSpr, mkTms, mkAfs, vO, vX]
theorem rrW_cl (X : WI) (w : Wld) (b : Bool) : Cl (.tup [.agg (zD6 X w), .bool b]) := by
  refine .tup _ fun c hc => ?_
  simp only [List.mem_cons, List.not_mem_nil, or_false] at hc
  rcases hc with rfl | rfl
  · refine .agg _ fun c hc => ?_
    simp only [zD6, List.mem_cons, List.not_mem_nil, or_false] at hc
    rcases hc with rfl | rfl | rfl | rfl | rfl | rfl | rfl | rfl | rfl | rfl | rfl | rfl | rfl | rfl | rfl | rfl | rfl <;> first | exact .int _ _ | exact .ref _ _ _ _
  · exact .bool _
theorem s_toWorld {F : Nat → Bool} {s : Wld} (hs : zC4 s ≤ 1048576) : PC ctx.P 17 [.agg (wldV F s)] (.agg (wldV (fun _ => true) s)) := (WC.of (w_toWorld hs)).pc (wldV_fz s) fun g X v => .aggs v.fros
end Go.AE.Tryz
end

section
/- Contracts of the program's changes of functions that are registered. -/
set_option linter.unusedSimpArgs false
set_option linter.unusedVariables false
set_option maxRecDepth 8000
set_option maxHeartbeats 4000000
namespace Go.AE.Tryz
open Go.Proofs
open List renaming map_take → qt, map_drop → qd, map_tail → ql
theorem m_drop {ia ib : Nat} {s : Slt} {x : Han} (hab : ia ≠ ib) (hsl : s.used.length = s.ages.length) (hr : vS s x = true → 0 ≤ x.age ∧ x.age < 1000000) : AC ctx.P 366 [.agg [.ref ia 1 0 s.ages.length, .ref ib 1 0 s.used.length], .agg (uW x)]
    (fun h _ => h ia = some (.row 1 (s.ages.map iv)) ∧ h ib = some (.row 1 (s.used.map bv)))
    (fun h nx r h' nx' => r = .bool (vS s x) ∧ h' ia = some (.row 1 ((zK2 s x).ages.map iv)) ∧ h' ib = some (.row 1 ((zK2 s x).used.map bv)) ∧ ∀ j, j < nx → j ≠ ia → j ≠ ib → h' j = h j) := by
  refine AC.o okC Tryz.func366 rfl fun h nx hfr hnx hpre => ?_
  obtain ⟨p1, p2⟩ := hpre
  have i1 : ia < nx := hnx ia (by rw [p1]; simp)
  have i2 : ib < nx := hnx ib (by rw [p2]; simp)
  have k1 : ∀ k, (ia = nx + k) = False := fun k => by simp only [eq_iff_iff, iff_false]; omega
  have k2 : ∀ k, (ib = nx + k) = False := fun k => by simp only [eq_iff_iff, iff_false]; omega
  have k3 : (ia = nx) = False := by simp only [eq_iff_iff, iff_false]; omega
  have k4 : (ib = nx) = False := by simp only [eq_iff_iff, iff_false]; omega
  have k5 : ∀ k, (nx + k = ia) = False := fun k => by simp only [eq_iff_iff, iff_false]; omega
  have k6 : ∀ k, (nx + k = ib) = False := fun k => by simp only [eq_iff_iff, iff_false]; omega
  have k7 : (nx = ia) = False := by simp only [eq_iff_iff, iff_false]; omega
  have k8 : (nx = ib) = False := by simp only [eq_iff_iff, iff_false]; omega
  try simp [-qt, -qd, -ql, rgs, uW]
  repeat' first | done | ((first | ((with_reducible show zH _ _ _ _ _ _ _); refine zC rfl omA omA ?_)) <;> simp [-qt, -qd, -ql, rgs, uW]) | ((first | (with_reducible refine zE ?_ ?_) | (with_reducible refine zA ?_ ?_)) <;> intro qb <;> (have qp := qb; try simp only [psq] at qp) <;> simp [-qt, -qd, -ql, rgs, uW, qb])
  refine yQ (c_holds (F := FF) (s := s) (x := x) hsl) (.bool _) ?hb ?_
  case hb => exact .cons (.agg1 (.cons (.ref0 (by dsimp only; (repeat rw [zJ _ _ _ _ (by omega)]); exact p1) (by simp) (by simp)) (.cons (.ref0 (by dsimp only; (repeat rw [zJ _ _ _ _ (by omega)]); exact p2) (by simp) (by simp)) .nil))) (.cons (.same _) .nil)
  by_cases hh : yN s x = true
  · by_cases ha : x.age = 1000000
    · have e1 : vS s x = false := by simp [vS, ha]
      have e2 : zK2 s x = s := by simp [zK2, e1]
      try simp [-qt, -qd, -ql, rgs, uW, hh, ha, k1, k2, k3, k4, k5, k6, k7, k8]
      repeat' first | done | ((first | ((with_reducible show zH _ _ _ _ _ _ _); refine zC rfl omA omA ?_)) <;> simp [-qt, -qd, -ql, rgs, uW, hh, ha, k1, k2, k3, k4, k5, k6, k7, k8]) | ((first | (with_reducible refine zE ?_ ?_) | (with_reducible refine zA ?_ ?_)) <;> intro qb <;> (have qp := qb; try simp only [psq] at qp) <;> simp [-qt, -qd, -ql, rgs, uW, hh, ha, k1, k2, k3, k4, k5, k6, k7, k8, qb])
      rw [e1, e2]
      exact ⟨rfl, p1, p2, fun j hj _ _ => by rw [if_neg (by omega), if_neg (by omega)]⟩
    · have e1 : vS s x = true := by simp [vS, hh, ha]
      obtain ⟨r1, r2⟩ := hr e1
      have hsl2 : 0 ≤ x.slot ∧ x.slot < s.ages.length := by
        simp only [yN, Bool.and_eq_true, vV, inR, decide_eq_true_eq] at hh; omega
      have ew : IntKind.i64.wrap (x.age + 1) = x.age + 1 := zF (by omega)
      have ha2 : (x.age == 1000000) = false := by simpa using ha
      have n1 : x.slot.toNat < s.ages.length := by omega
      have e2 : zK2 s x = zL8 s x := by simp [zK2, e1]
      have hg : s.ages[x.slot.toNat]? = some x.age := by
        simp only [yN, Bool.and_eq_true, beq_iff_eq] at hh
        rw [← hh.2.2, ← zD9 hsl2.1 hsl2.2]
      have hbi : ib ≠ ia := fun e => hab e.symm
      try simp [-qt, -qd, -ql, rgs, iv, bv, uW, hh, ha, ha2, p1, p2, ew, k1, k2, k3, k4, k5, k6, k7, k8, hab, hbi]
      repeat' first | done | ((first | ((with_reducible show zH _ _ _ _ _ _ _); refine zC rfl omA omA ?_) | (((with_reducible show zH _ _ _ _ (.ref _ _ _ _) _ _); refine yJ rfl (by omega) (by omega) ?_))) <;> simp [-qt, -qd, -ql, rgs, iv, bv, uW, hh, ha, ha2, p1, p2, ew, k1, k2, k3, k4, k5, k6, k7, k8, hab, hbi]) | ((first | (with_reducible refine zE ?_ ?_) | (with_reducible refine zA ?_ ?_)) <;> intro qb <;> (have qp := qb; try simp only [psq] at qp) <;> simp [-qt, -qd, -ql, rgs, iv, bv, uW, hh, ha, ha2, p1, p2, ew, k1, k2, k3, k4, k5, k6, k7, k8, hab, hbi, qb])
      refine zF1 (sz := 1) (xs := s.used.map bv) (cells := bv (gt s.used x.slot)) (by simp [k1, k2, k3, k4, k5, k6, k7, k8, hab, hbi, p2]) rfl rfl rfl (by rw [List.getElem?_map, zD9 hsl2.1 (by omega)]; rfl) rfl ?_
      try simp [-qt, -qd, -ql, rgs, iv, bv, uW, hh, ha, ha2, p1, p2, ew, k1, k2, k3, k4, k5, k6, k7, k8, hab, hbi]
      repeat' first | done | ((first | ((with_reducible show zH _ _ _ _ _ _ _); refine zC rfl omA omA ?_) | (((with_reducible show zH _ _ _ _ (.ref _ _ _ _) _ _); refine yJ rfl (by omega) (by omega) ?_)) | (((with_reducible show loadE _ _ _ _ _ _ _ _); refine zH1 (cells := iv x.age) (by rw [List.getElem?_map, hg]; rfl) ?_))) <;> simp [-qt, -qd, -ql, rgs, iv, bv, uW, hh, ha, ha2, p1, p2, ew, k1, k2, k3, k4, k5, k6, k7, k8, hab, hbi]) | ((first | (with_reducible refine zE ?_ ?_) | (with_reducible refine zA ?_ ?_)) <;> intro qb <;> (have qp := qb; try simp only [psq] at qp) <;> simp [-qt, -qd, -ql, rgs, iv, bv, uW, hh, ha, ha2, p1, p2, ew, k1, k2, k3, k4, k5, k6, k7, k8, hab, hbi, qb])
      refine zF1 (sz := 1) (xs := s.ages.map iv) (cells := iv x.age) (by simp [k1, k2, k3, k4, k5, k6, k7, k8, hab, hbi, p1]) rfl rfl rfl (by rw [List.getElem?_map, hg]; rfl) rfl ?_
      try simp [-qt, -qd, -ql, rgs, iv, bv, uW, hh, ha, ha2, p1, p2, ew, k1, k2, k3, k4, k5, k6, k7, k8, hab, hbi]
      repeat' first | done | ((first | ((with_reducible show zH _ _ _ _ _ _ _); refine zC rfl omA omA ?_)) <;> simp [-qt, -qd, -ql, rgs, iv, bv, uW, hh, ha, ha2, p1, p2, ew, k1, k2, k3, k4, k5, k6, k7, k8, hab, hbi]) | ((first | (with_reducible refine zE ?_ ?_) | (with_reducible refine zA ?_ ?_)) <;> intro qb <;> (have qp := qb; try simp only [psq] at qp) <;> simp [-qt, -qd, -ql, rgs, iv, bv, uW, hh, ha, ha2, p1, p2, ew, k1, k2, k3, k4, k5, k6, k7, k8, hab, hbi, qb])
      rw [e1, e2]
      refine ⟨rfl, ?_, ?_, fun j hj h1 h2 => ?_⟩
      · simp [zL8, iv, List.map_set]
      · simp [zL8, bv, List.map_set]
      · rw [if_neg h1, if_neg h2, if_neg (by omega), if_neg (by omega)]
  · have e1 : vS s x = false := by simp [vS, hh]
    have e2 : zK2 s x = s := by simp [zK2, e1]
    try simp [-qt, -qd, -ql, rgs, uW, hh, k1, k2, k3, k4, k5, k6, k7, k8]
    repeat' first | done | ((first | ((with_reducible show zH _ _ _ _ _ _ _); refine zC rfl omA omA ?_)) <;> simp [-qt, -qd, -ql, rgs, uW, hh, k1, k2, k3, k4, k5, k6, k7, k8]) | ((first | (with_reducible refine zE ?_ ?_) | (with_reducible refine zA ?_ ?_)) <;> intro qb <;> (have qp := qb; try simp only [psq] at qp) <;> simp [-qt, -qd, -ql, rgs, uW, hh, k1, k2, k3, k4, k5, k6, k7, k8, qb])
    rw [e1, e2]
    exact ⟨rfl, p1, p2, fun j hj _ _ => by rw [if_neg (by omega), if_neg (by omega)]⟩
theorem m_DeleteAfr {id i : Nat} {xs : List Afr} (hi : i < xs.length) (hl : xs.length ≤ 1048576) : AC ctx.P 367 [.ref id 5 0 xs.length, .int .i64 i, .int .i64 ((i : Int) + 1)]
    (fun h _ => h id = some (.row 5 (xs.map yI)))
    (fun h nx r h' nx' => ∃ jd, r = .ref jd 5 0 (xs.eraseIdx i).length ∧ nx ≤ jd ∧ jd < nx' ∧ h' jd = some (.row 5 ((xs.eraseIdx i).map yI)) ∧ ∀ j, j < nx → j ≠ id → h' j = h j) := by
  refine AC.o okC Tryz.func367 rfl fun h nx hfr hnx hpre => ?_
  have i1 : id < nx := hnx id (by rw [hpre]; simp)
  try simp [-qt, -qd, -ql, rgs, hpre]
  repeat' first | done | ((first | ((with_reducible show zT _ _ _ _ _ _); refine zB rfl fun _ => ?_) | ((with_reducible show yA _ _ _ _ _ _ _ _); refine vJ rfl omA omA ?_) | ((with_reducible show yA _ _ _ _ _ _ _ _); refine yO rfl omA omA ?_) | ((with_reducible show yA _ _ _ _ _ _ _ _); refine yY rfl omA omA omA ?_) | ((with_reducible show yE _ _ _ _ _ _ _ _ _ _ _); refine vC rfl omA omA ?_) | ((with_reducible show yE _ _ _ _ _ _ _ _ _ _ _); refine yL rfl omA omA ?_) | ((with_reducible show yE _ _ _ _ _ _ _ _ _ _ _); refine yU rfl omA omA omA ?_) | ((with_reducible show zC9 _ _ _ _ _ _ _ _); refine zW rfl rfl (by decide) (by decide) (by first | (simp [-qt, -qd, -ql, rgs, hpre]; done) | (simp [-qt, -qd, -ql, rgs, hpre]; rfl)) (by first | (simp [-qt, -qd, -ql, rgs, hpre]; done) | (simp [-qt, -qd, -ql, rgs, hpre]; rfl)) (by first | (simp; done) | (simp; omega)) (by first | (simp only [yK, LIM] at *; simp; omega) | (simp only [yK]; simp; omega)) (by simp [iv, bv]) ?_) | (with_reducible refine zI (i := 5) [(0, [], []), (1, [], []), (2, [], []), (3, [], []), (4, [], []), (5, [], []), (6, [], []), (7, [], [])] (by kernel_rfl) ?_)) <;> simp [-qt, -qd, -ql, rgs, hpre]) | ((first | (with_reducible refine zA ?_ ?_)) <;> intro qb <;> (have qp := qb; try simp only [psq] at qp) <;> simp [-qt, -qd, -ql, rgs, hpre, qb])
  refine run_slice3 ⟨_, xs.length, i, i + 1, _, (xs.length : Int), rfl, rfl, zM6 (by simp [zI7]) (by simp [zI7]; omega) (by omega), rfl, by omega, by simp; omega, by simp, ?_⟩
  have hne : ((i : Int) == (i : Int) + 1) = false := by simp; omega
  try simp [-qt, -qd, -ql, rgs, hpre, hne]
  repeat' first | done | ((first | ((with_reducible show zT _ _ _ _ _ _); refine zB rfl fun _ => ?_) | ((with_reducible show yA _ _ _ _ _ _ _ _); refine vJ rfl omA omA ?_) | ((with_reducible show yA _ _ _ _ _ _ _ _); refine yO rfl omA omA ?_) | ((with_reducible show yA _ _ _ _ _ _ _ _); refine yY rfl omA omA omA ?_) | ((with_reducible show yE _ _ _ _ _ _ _ _ _ _ _); refine vC rfl omA omA ?_) | ((with_reducible show yE _ _ _ _ _ _ _ _ _ _ _); refine yL rfl omA omA ?_) | ((with_reducible show yE _ _ _ _ _ _ _ _ _ _ _); refine yU rfl omA omA omA ?_) | ((with_reducible show zC9 _ _ _ _ _ _ _ _); refine zW rfl rfl (by decide) (by decide) (by first | (simp [-qt, -qd, -ql, rgs, hpre, hne]; done) | (simp [-qt, -qd, -ql, rgs, hpre, hne]; rfl)) (by first | (simp [-qt, -qd, -ql, rgs, hpre, hne]; done) | (simp [-qt, -qd, -ql, rgs, hpre, hne]; rfl)) (by first | (simp; done) | (simp; omega)) (by first | (simp only [yK, LIM] at *; simp; omega) | (simp only [yK]; simp; omega)) (by simp [iv, bv]) ?_) | (with_reducible refine zI (i := 5) [(0, [], []), (1, [], []), (2, [], []), (3, [], []), (4, [], []), (5, [], []), (6, [], []), (7, [], [])] (by kernel_rfl) ?_)) <;> simp [-qt, -qd, -ql, rgs, hpre, hne]) | ((first | (with_reducible refine zA ?_ ?_)) <;> intro qb <;> (have qp := qb; try simp only [psq] at qp) <;> simp [-qt, -qd, -ql, rgs, hpre, hne, qb])
  refine sliceI_ref (l := 0) (h := i) rfl (by simp [zI7]) (by simp [zI7]) (by omega) (by omega) ?_
  try simp [-qt, -qd, -ql, rgs, hpre]
  repeat' first | done | ((first | ((with_reducible show zT _ _ _ _ _ _); refine zB rfl fun _ => ?_) | ((with_reducible show yA _ _ _ _ _ _ _ _); refine vJ rfl omA omA ?_) | ((with_reducible show yA _ _ _ _ _ _ _ _); refine yO rfl omA omA ?_) | ((with_reducible show yA _ _ _ _ _ _ _ _); refine yY rfl omA omA omA ?_) | ((with_reducible show yE _ _ _ _ _ _ _ _ _ _ _); refine vC rfl omA omA ?_) | ((with_reducible show yE _ _ _ _ _ _ _ _ _ _ _); refine yL rfl omA omA ?_) | ((with_reducible show yE _ _ _ _ _ _ _ _ _ _ _); refine yU rfl omA omA omA ?_) | ((with_reducible show zC9 _ _ _ _ _ _ _ _); refine zW rfl rfl (by decide) (by decide) (by first | (simp [-qt, -qd, -ql, rgs, hpre]; done) | (simp [-qt, -qd, -ql, rgs, hpre]; rfl)) (by first | (simp [-qt, -qd, -ql, rgs, hpre]; done) | (simp [-qt, -qd, -ql, rgs, hpre]; rfl)) (by first | (simp; done) | (simp; omega)) (by first | (simp only [yK, LIM] at *; simp; omega) | (simp only [yK]; simp; omega)) (by simp [iv, bv]) ?_) | (with_reducible refine zI (i := 5) [(0, [], []), (1, [], []), (2, [], []), (3, [], []), (4, [], []), (5, [], []), (6, [], []), (7, [], [])] (by kernel_rfl) ?_)) <;> simp [-qt, -qd, -ql, rgs, hpre]) | ((first | (with_reducible refine zA ?_ ?_)) <;> intro qb <;> (have qp := qb; try simp only [psq] at qp) <;> simp [-qt, -qd, -ql, rgs, hpre, qb])
  refine sliceI_ref (l := i + 1) (h := xs.length) rfl (by simp [zI7]; omega) (by simp [zI7]) (by omega) (by omega) ?_
  try simp [-qt, -qd, -ql, rgs, hpre]
  repeat' first | done | ((first | ((with_reducible show zT _ _ _ _ _ _); refine zB rfl fun _ => ?_) | ((with_reducible show yA _ _ _ _ _ _ _ _); refine vJ rfl omA omA ?_) | ((with_reducible show yA _ _ _ _ _ _ _ _); refine yO rfl omA omA ?_) | ((with_reducible show yA _ _ _ _ _ _ _ _); refine yY rfl omA omA omA ?_) | ((with_reducible show yE _ _ _ _ _ _ _ _ _ _ _); refine vC rfl omA omA ?_) | ((with_reducible show yE _ _ _ _ _ _ _ _ _ _ _); refine yL rfl omA omA ?_) | ((with_reducible show yE _ _ _ _ _ _ _ _ _ _ _); refine yU rfl omA omA omA ?_) | ((with_reducible show zC9 _ _ _ _ _ _ _ _); refine zW rfl rfl (by decide) (by decide) (by first | (simp [-qt, -qd, -ql, rgs, hpre]; done) | (simp [-qt, -qd, -ql, rgs, hpre]; rfl)) (by first | (simp [-qt, -qd, -ql, rgs, hpre]; done) | (simp [-qt, -qd, -ql, rgs, hpre]; rfl)) (by first | (simp; done) | (simp; omega)) (by first | (simp only [yK, LIM] at *; simp; omega) | (simp only [yK]; simp; omega)) (by simp [iv, bv]) ?_) | (with_reducible refine zI (i := 5) [(0, [], []), (1, [], []), (2, [], []), (3, [], []), (4, [], []), (5, [], []), (6, [], []), (7, [], [])] (by kernel_rfl) ?_)) <;> simp [-qt, -qd, -ql, rgs, hpre]) | ((first | (with_reducible refine zA ?_ ?_)) <;> intro qb <;> (have qp := qb; try simp only [psq] at qp) <;> simp [-qt, -qd, -ql, rgs, hpre, qb])
  refine app_mid (ws := xs.map yI) (ys := (xs.map yI).drop (i + 1)) rfl rfl (by decide) (by decide) ?r1 ?r2 ?r3 ?r4 ?r5 ?_
  case r1 => exact hpre
  case r2 =>
    simp [hpre, -qd]
    exact ⟨by omega, List.take_of_length_le (by simp)⟩
  case r3 => simp; omega
  case r4 => simp only [yK]; simp; omega
  case r5 =>
    simp only [List.all_eq_true]
    intro c hc x hx
    obtain ⟨y, _, rfl⟩ := List.mem_map.1 (List.mem_of_mem_drop hc)
    simp [yI] at hx
    rcases hx with rfl | rfl | rfl | rfl | rfl <;> rfl
  try simp [-qt, -qd, -ql, rgs, hpre]
  repeat' first | done | ((first | ((with_reducible show zT _ _ _ _ _ _); refine zB rfl fun _ => ?_) | ((with_reducible show yA _ _ _ _ _ _ _ _); refine vJ rfl omA omA ?_) | ((with_reducible show yA _ _ _ _ _ _ _ _); refine yO rfl omA omA ?_) | ((with_reducible show yA _ _ _ _ _ _ _ _); refine yY rfl omA omA omA ?_) | ((with_reducible show yE _ _ _ _ _ _ _ _ _ _ _); refine vC rfl omA omA ?_) | ((with_reducible show yE _ _ _ _ _ _ _ _ _ _ _); refine yL rfl omA omA ?_) | ((with_reducible show yE _ _ _ _ _ _ _ _ _ _ _); refine yU rfl omA omA omA ?_) | ((with_reducible show zC9 _ _ _ _ _ _ _ _); refine zW rfl rfl (by decide) (by decide) (by first | (simp [-qt, -qd, -ql, rgs, hpre]; done) | (simp [-qt, -qd, -ql, rgs, hpre]; rfl)) (by first | (simp [-qt, -qd, -ql, rgs, hpre]; done) | (simp [-qt, -qd, -ql, rgs, hpre]; rfl)) (by first | (simp; done) | (simp; omega)) (by first | (simp only [yK, LIM] at *; simp; omega) | (simp only [yK]; simp; omega)) (by simp [iv, bv]) ?_) | (with_reducible refine zI (i := 5) [(0, [], []), (1, [], []), (2, [], []), (3, [], []), (4, [], []), (5, [], []), (6, [], []), (7, [], [])] (by kernel_rfl) ?_)) <;> simp [-qt, -qd, -ql, rgs, hpre]) | ((first | (with_reducible refine zA ?_ ?_)) <;> intro qb <;> (have qp := qb; try simp only [psq] at qp) <;> simp [-qt, -qd, -ql, rgs, hpre, qb])
  have hbd : zI7 0 (some (AV.int IntKind.i64 ((i : Int) + ((xs.length - (i + 1) : Nat) : Int)))) = some (xs.length - 1) := by
    simp only [zI7]; rw [if_pos (by omega)]; congr 1; omega
  have hrw : xs.length = (List.take i (List.map yI xs) ++ (List.drop (i + 1) (List.map yI xs) ++ List.drop (i + (xs.length - (i + 1))) (List.map yI xs))).length := by simp; omega
  refine slice_far (l := xs.length - 1) (h := xs.length) rfl hbd (by simp [zI7]) (by omega) (zL ..) (by omega) ?_
  try simp [-qt, -qd, -ql, rgs]
  repeat' first | done | ((first | ((with_reducible show zT _ _ _ _ _ _); refine zB rfl fun _ => ?_) | ((with_reducible show yA _ _ _ _ _ _ _ _); refine vJ rfl omA omA ?_) | ((with_reducible show yA _ _ _ _ _ _ _ _); refine yO rfl omA omA ?_) | ((with_reducible show yA _ _ _ _ _ _ _ _); refine yY rfl omA omA omA ?_) | ((with_reducible show yE _ _ _ _ _ _ _ _ _ _ _); refine vC rfl omA omA ?_) | ((with_reducible show yE _ _ _ _ _ _ _ _ _ _ _); refine yL rfl omA omA ?_) | ((with_reducible show yE _ _ _ _ _ _ _ _ _ _ _); refine yU rfl omA omA omA ?_) | ((with_reducible show zC9 _ _ _ _ _ _ _ _); refine zW rfl rfl (by decide) (by decide) (by first | (simp [-qt, -qd, -ql, rgs]; done) | (simp [-qt, -qd, -ql, rgs]; rfl)) (by first | (simp [-qt, -qd, -ql, rgs]; done) | (simp [-qt, -qd, -ql, rgs]; rfl)) (by first | (simp; done) | (simp; omega)) (by first | (simp only [yK, LIM] at *; simp; omega) | (simp only [yK]; simp; omega)) (by simp [iv, bv]) ?_) | (with_reducible refine zI (i := 5) [(0, [], []), (1, [], []), (2, [], []), (3, [], []), (4, [], []), (5, [], []), (6, [], []), (7, [], [])] (by kernel_rfl) ?_)) <;> simp [-qt, -qd, -ql, rgs]) | ((first | (with_reducible refine zA ?_ ?_)) <;> intro qb <;> (have qp := qb; try simp only [psq] at qp) <;> simp [-qt, -qd, -ql, rgs, qb])
  refine ⟨_, rfl, _, zL .., rfl, by omega, by decide, ?_⟩
  try simp [-qt, -qd, -ql, rgs]
  repeat' first | done | ((first | ((with_reducible show zT _ _ _ _ _ _); refine zB rfl fun _ => ?_) | ((with_reducible show yA _ _ _ _ _ _ _ _); refine vJ rfl omA omA ?_) | ((with_reducible show yA _ _ _ _ _ _ _ _); refine yO rfl omA omA ?_) | ((with_reducible show yA _ _ _ _ _ _ _ _); refine yY rfl omA omA omA ?_) | ((with_reducible show yE _ _ _ _ _ _ _ _ _ _ _); refine vC rfl omA omA ?_) | ((with_reducible show yE _ _ _ _ _ _ _ _ _ _ _); refine yL rfl omA omA ?_) | ((with_reducible show yE _ _ _ _ _ _ _ _ _ _ _); refine yU rfl omA omA omA ?_) | ((with_reducible show zC9 _ _ _ _ _ _ _ _); refine zW rfl rfl (by decide) (by decide) (by first | (simp [-qt, -qd, -ql, rgs]; done) | (simp [-qt, -qd, -ql, rgs]; rfl)) (by first | (simp [-qt, -qd, -ql, rgs]; done) | (simp [-qt, -qd, -ql, rgs]; rfl)) (by first | (simp; done) | (simp; omega)) (by first | (simp only [yK, LIM] at *; simp; omega) | (simp only [yK]; simp; omega)) (by simp [iv, bv]) ?_) | (with_reducible refine zI (i := 5) [(0, [], []), (1, [], []), (2, [], []), (3, [], []), (4, [], []), (5, [], []), (6, [], []), (7, [], [])] (by kernel_rfl) ?_)) <;> simp [-qt, -qd, -ql, rgs]) | ((first | (with_reducible refine zA ?_ ?_)) <;> intro qb <;> (have qp := qb; try simp only [psq] at qp) <;> simp [-qt, -qd, -ql, rgs, qb])
  have hA : (List.take i (List.map yI xs) ++ List.drop (i + 1) (List.map yI xs)).length = xs.length - 1 := by simp; omega
  refine ⟨nx + 19, ⟨rfl, by rw [List.length_eraseIdx, if_pos hi]; omega⟩, by omega, by omega, ?_, fun j hj hne2 => ?_⟩
  · rw [if_pos rfl, ← List.append_assoc, List.take_append_of_le_length (by omega), List.take_of_length_le (by omega), List.eraseIdx_eq_take_drop_succ, List.map_append, List.map_take, List.map_drop]
  · rw [if_neg (by omega), if_neg (by omega), if_neg hne2]
theorem m_remove {X : WI} {w : Wld} {p i : Nat} (hi : i < w.afters.list.length) (hl : w.afters.list.length ≤ 1048576) (hsl : w.afters.slots.used.length = w.afters.slots.ages.length)
    (hr : vS w.afters.slots (gt w.afters.list (i : Int)).han = true → 0 ≤ (gt w.afters.list (i : Int)).han.age ∧ (gt w.afters.list (i : Int)).han.age < 1000000) : AC ctx.P 325 [.ptr p 9, .int .i64 i]
    (fun h _ => h p = some (.obj (zD6 X w)) ∧ WV h X w)
    (RemQ p X (vS w.afters.slots (gt w.afters.list (i : Int)).han) { w with afters := goA w.afters i }) := by
  refine AC.o okC Tryz.func325 rfl fun h nx hfr hnx hpre => ?_
  obtain ⟨o1, V1⟩ := hpre
  have hp : p < nx := hnx p (by rw [o1]; simp)
  have hpX := V1.obj o1
  have hin := V1.lt hnx
  have t9 := V1.top 9 (by omega)
  simp only [zM1] at t9
  have o0 := o1
  simp only [zD6] at o1
  have hgx : (w.afters.list.map yI)[i]? = some (yI (gt w.afters.list (i : Int))) := by rw [List.getElem?_map, ← Int.toNat_natCast i, zD9 (by omega) (by omega)]; simp
  generalize hw' : ({ w with afters := goA w.afters i } : Wld) = w'
  obtain ⟨x, hx⟩ : ∃ x, x = gt w.afters.list (i : Int) := ⟨_, rfl⟩
  rw [← hx] at hgx hr ⊢
  try simp [-qt, -qd, -ql, rgs, o1, t9]
  repeat' first | done | ((first | ((with_reducible show zH _ _ _ _ _ _ _); refine zC rfl omA omA ?_) | (((with_reducible show zH _ _ _ _ (.ref _ _ _ _) _ _); refine yJ rfl (by omega) (by omega) ?_)) | (((with_reducible show loadE _ _ _ _ _ _ _ _); refine zH1 hgx ?_)) | (with_reducible refine zI (i := 1) [(0, [], []), (1, [], []), (2, [], []), (3, [], []), (4, [], []), (5, [], []), (6, [], []), (7, [], []), (8, [], []), (9, [], []), (10, [], []), (11, [], []), (12, [], []), (13, [], [])] (by kernel_rfl) ?_)) <;> simp [-qt, -qd, -ql, rgs, o1, t9]) | ((first | (with_reducible refine zA ?_ ?_)) <;> intro qb <;> (have qp := qb; try simp only [psq] at qp) <;> simp [-qt, -qd, -ql, rgs, o1, t9, qb])
  rw [show List.take 2 (yI x) = uW x.han from rfl]
  refine vB (m_drop (ia := X.top 7) (ib := X.top 8) (s := w.afters.slots) (x := x.han) (fun e => absurd (V1.top_inj (by omega) (by omega) e) (by omega)) hsl hr) ⟨V1.top 7 (by omega), V1.top 8 (by omega)⟩ ?_
  rintro r h1 n1 ⟨rfl, d1, d2, df⟩ hle1 hfr1
  dsimp only at df hle1
  have n78 : ∀ k, k < 15 → k ≠ 7 → k ≠ 8 → h1 (X.top k) = h (X.top k) := fun k hk h7 h8 => df _ (by have := hin _ (WI.top_mem (X := X) hk); omega) (fun e => h7 (V1.top_inj hk (by omega) e)) (fun e => h8 (V1.top_inj hk (by omega) e))
  have o2 := df p (by omega) (fun e => hpX (e ▸ WI.top_mem (by omega))) (fun e => hpX (e ▸ WI.top_mem (by omega)))
  rw [o1] at o2
  have t9' := (n78 9 (by omega) (by omega) (by omega)).trans t9
  by_cases hc : vS w.afters.slots x.han = true
  · have ew : IntKind.i64.wrap ((i : Int) + 1) = (i : Int) + 1 := zF (by omega)
    simp only [zK2, hc, if_true] at d1 d2
    rw [hc]
    try simp [-qt, -qd, -ql, rgs, hc, o2, t9', ew]
    repeat' first | done | ((first | ((with_reducible show zH _ _ _ _ _ _ _); refine zC rfl omA omA ?_) | (with_reducible refine zI (i := 1) [(0, [], []), (1, [], []), (2, [], []), (3, [], []), (4, [], []), (5, [], []), (6, [], []), (7, [], []), (8, [], []), (9, [], []), (10, [], []), (11, [], []), (12, [], []), (13, [], [])] (by kernel_rfl) ?_)) <;> simp [-qt, -qd, -ql, rgs, hc, o2, t9', ew]) | ((first | (with_reducible refine zA ?_ ?_)) <;> intro qb <;> (have qp := qb; try simp only [psq] at qp) <;> simp [-qt, -qd, -ql, rgs, hc, o2, t9', ew, qb])
    refine vB (m_DeleteAfr hi hl) t9' ?_
    rintro r h2 n2 ⟨jd, rfl, hj1, hj2, hrow, hf⟩ hle2 hfr2
    dsimp only at hj1 hf hle2
    have o3 := hf p (by omega) (fun e => hpX (e ▸ WI.top_mem (by omega)))
    rw [o2] at o3
    try simp [-qt, -qd, -ql, rgs, o3]
    repeat' first | done | ((first | ((with_reducible show zH _ _ _ _ _ _ _); refine zC rfl omA omA ?_) | (with_reducible refine zI (i := 1) [(0, [], []), (1, [], []), (2, [], []), (3, [], []), (4, [], []), (5, [], []), (6, [], []), (7, [], []), (8, [], []), (9, [], []), (10, [], []), (11, [], []), (12, [], []), (13, [], [])] (by kernel_rfl) ?_)) <;> simp [-qt, -qd, -ql, rgs, o3]) | ((first | (with_reducible refine zA ?_ ?_)) <;> intro qb <;> (have qp := qb; try simp only [psq] at qp) <;> simp [-qt, -qd, -ql, rgs, o3, qb])
    have hpt : ∀ k, k < 15 → X.top k ≠ p := fun k hk e => hpX (e ▸ WI.top_mem hk)
    have hjd : ∀ j ∈ X.ids, j ≠ jd := fun j hj => by have := hin j hj; omega
    have ht : ∀ k, k < 15 → X.top k < nx := fun k hk => hin _ (WI.top_mem hk)
    have h9 : ∀ (e : Option Ent) (j : Nat), j < nx → j ≠ X.top 9 → j ≠ p → upd h2 p e j = h1 j := fun e j hj h9 hjp => by rw [zJ _ _ _ _ hjp, hf j (by omega) h9]
    refine ⟨rfl, fun _ => ⟨jd, by omega, by omega, ?_, ?_⟩, (fun e => by cases e), fun j hj hjp hjX => ?_⟩
    · subst hw'
      rw [zL]
      simp [zD6, WI.setTop, goA, zL8]
    · subst hw'
      refine V1.newTop [7, 8] (by omega) (fun hm => hjd _ hm rfl) ?_ (by simp) ?_ ?_ rfl rfl ?_
      · rw [zJ _ _ _ _ (by omega)]; exact hrow
      · intro k hk
        simp only [List.mem_cons, List.not_mem_nil, or_false] at hk
        rcases hk with rfl | rfl
        · rw [h9 _ _ (ht 7 (by omega)) (fun e => absurd (V1.top_inj (by omega) (by omega) e) (by omega)) (hpt _ (by omega)), d1]
          simp only [zM1, goA, ← hx]
        · rw [h9 _ _ (ht 8 (by omega)) (fun e => absurd (V1.top_inj (by omega) (by omega) e) (by omega)) (hpt _ (by omega)), d2]
          simp only [zM1, goA, ← hx]
      · intro k hk hS hne
        rcases lt15 hk with rfl | rfl | rfl | rfl | rfl | rfl | rfl | rfl | rfl | rfl | rfl | rfl | rfl | rfl | rfl <;> first | rfl | exact absurd (by decide) hS | exact absurd rfl hne
      · intro j hj hS hne
        have hjp : j ≠ p := fun e => hpX (e ▸ hj)
        rw [h9 _ j (hin j hj) hne hjp]
        exact df j (by have := hin j hj; omega) (hS 7 (by simp)) (hS 8 (by simp))
    · rw [h9 _ j hj (fun e => hjX (e ▸ WI.top_mem (by omega))) hjp]
      exact df j (by omega) (fun e => hjX (e ▸ WI.top_mem (by omega))) (fun e => hjX (e ▸ WI.top_mem (by omega)))
  · have hc2 : vS w.afters.slots x.han = false := by simpa using hc
    simp only [zK2, hc2, if_neg (by decide : ¬ (false = true))] at d1 d2
    rw [hc2]
    try simp [-qt, -qd, -ql, rgs, hc2, o2, t9']
    repeat' first | done | ((first | ((with_reducible show zH _ _ _ _ _ _ _); refine zC rfl omA omA ?_) | (with_reducible refine zI (i := 1) [(0, [], []), (1, [], []), (2, [], []), (3, [], []), (4, [], []), (5, [], []), (6, [], []), (7, [], []), (8, [], []), (9, [], []), (10, [], []), (11, [], []), (12, [], []), (13, [], [])] (by kernel_rfl) ?_)) <;> simp [-qt, -qd, -ql, rgs, hc2, o2, t9']) | ((first | (with_reducible refine zA ?_ ?_)) <;> intro qb <;> (have qp := qb; try simp only [psq] at qp) <;> simp [-qt, -qd, -ql, rgs, hc2, o2, t9', qb])
    have hsame : ∀ j, j < nx → h1 j = h j := fun j hj => by
      by_cases e7 : j = X.top 7
      · rw [e7, d1]; exact (V1.top 7 (by omega)).symm
      · by_cases e8 : j = X.top 8
        · rw [e8, d2]; exact (V1.top 8 (by omega)).symm
        · exact df j (by omega) e7 e8
    exact ⟨rfl, (fun e => by cases e), fun _ => ⟨hsame p hp, fun j hj => hsame j (hin j hj)⟩, fun j hj _ _ => hsame j hj⟩
theorem m_startA {X : WI} {w : Wld} {p : Nat} (hl : w.afters.list.length ≤ 1048576) (hsl : w.afters.slots.used.length = w.afters.slots.ages.length)
    (hr : ∀ k : Nat, k < w.afters.list.length → vS w.afters.slots (gt w.afters.list (k : Int)).han = true → 0 ≤ (gt w.afters.list (k : Int)).han.age ∧ (gt w.afters.list (k : Int)).han.age < 1000000) : AC ctx.P 233 [.ptr p 9]
    (fun h _ => h p = some (.obj (zD6 X w)) ∧ WV h X w) (StQ p X w) := by
  have hlim : w.afters.list.length ≤ LIM := by simp only [LIM]; omega
  refine AC.o okC Tryz.func233 rfl fun h nx hfr hnx hpre => ?_
  obtain ⟨o1, V1⟩ := hpre
  have hp : p < nx := hnx p (by rw [o1]; simp)
  have hpX := V1.obj o1
  have hin := V1.lt hnx
  have t9 := V1.top 9 (by omega)
  simp only [zM1] at t9
  have o0 := o1
  simp only [zD6] at o1
  have hp1 : (p = nx) = False := by simp only [eq_iff_iff, iff_false]; omega
  try simp [-qt, -qd, -ql, rgs, o1, hp1]
  repeat' first | done | ((first | ((with_reducible show zT _ _ _ _ _ _); refine zB rfl fun _ => ?_) | ((with_reducible show zH _ _ _ _ _ _ _); refine zC rfl omA omA ?_)) <;> simp [-qt, -qd, -ql, rgs, o1, hp1]) | ((first | (with_reducible refine zE ?_ ?_) | (with_reducible refine zA ?_ ?_)) <;> intro qb <;> (have qp := qb; try simp only [psq] at qp) <;> simp [-qt, -qd, -ql, rgs, o1, hp1, qb])
  refine zU (h0 := h) (nx0 := nx) [3, 4, 5, 11, 12, 13, 14, 15, 16, 17, 18, 19, 20, 21, 22, 23, 24] (w.afters.list.length) (fun (i : Nat) a => [(11, .int .i64 i)]) (fun i (_ : Unit) h' n' => (∀ k : Nat, k < i → isGo w.afters (gt w.afters.list (k : Int)) = false) ∧ h' nx = some (.obj (yI default)) ∧ nx < n') (()) (by simp) ?_ zK (by omega) ?_
  · exact ⟨fun k hk => by omega, zL .., by omega⟩
  · intro i a tm h' n' hle hJ hE hn' next hnx
    try dsimp only at hJ
    have hK : KeepB nx h' h := KeepB.sub hE zK (by omega)
    simp [-qt, -qd, -ql]
    obtain ⟨hJ, z1, hn1⟩ := hJ
    have o2 := (hK p hp).trans o1
    have t9' := (hK (X.top 9) (hin _ (WI.top_mem (by omega)))).trans t9
    have k1 : ∀ k, (p = n' + k) = False := fun k => by simp only [eq_iff_iff, iff_false]; omega
    have k2 : ∀ k, (X.top 9 = n' + k) = False := fun k => by simp only [eq_iff_iff, iff_false]; have := hin _ (WI.top_mem (X := X) (k := 9) (by omega)); omega
    have k3 : ∀ k, (nx = n' + k) = False := fun k => by simp only [eq_iff_iff, iff_false]; omega
    by_cases hlt : i < w.afters.list.length
    · have hgx : (w.afters.list.map yI)[i]? = some (yI (gt w.afters.list (i : Int))) := by rw [List.getElem?_map, ← Int.toNat_natCast i, zD9 (by omega) (by omega)]; simp
      have hrem := m_remove (X := X) (p := p) hlt hl hsl (hr i hlt)
      obtain ⟨x, hx⟩ : ∃ x, x = gt w.afters.list (i : Int) := ⟨_, rfl⟩
      rw [← hx] at hgx hrem
      by_cases hq : x.queued = true
      · try simp [-qt, -qd, -ql, rgs, o2, t9', hlt, hq, k1, k2, k3]
        repeat' first | done | ((first | ((with_reducible show zT _ _ _ _ _ _); refine zB rfl fun _ => ?_) | ((with_reducible show zH _ _ _ _ _ _ _); refine zC rfl omA omA ?_) | (((with_reducible show zH _ _ _ _ (.ref _ _ _ _) _ _); refine yJ rfl (by omega) (by omega) ?_)) | (((with_reducible show loadE _ _ _ _ _ _ _ _); refine zH1 hgx ?_))) <;> simp [-qt, -qd, -ql, rgs, o2, t9', hlt, hq, k1, k2, k3]) | ((first | (with_reducible refine zE ?_ ?_) | (with_reducible refine zA ?_ ?_)) <;> intro qb <;> (have qp := qb; try simp only [psq] at qp) <;> simp [-qt, -qd, -ql, rgs, o2, t9', hlt, hq, k1, k2, k3, qb])
        have hpX' : ∀ j ∈ X.ids, j < nx := hin
        refine vB hrem ⟨by dsimp only; rw [zJ _ _ _ _ (by omega), zJ _ _ _ _ (by omega), hK p hp]; exact o0, V1.keep fun id hid => by have := hin id hid; dsimp only; rw [zJ _ _ _ _ (by omega), zJ _ _ _ _ (by omega), hK id (by omega)]⟩ ?_
        rintro r h2 n2 ⟨rfl, ht, hf, hfr2⟩ hle2 hfr3
        dsimp only at ht hf hfr2 hle2
        have x5 := hfr2 (n' + 4) (by omega) (by omega) (fun hm => by have := hin _ hm; omega)
        rw [zL] at x5
        have z2 := hfr2 nx (by omega) (by omega) (fun hm => by have := hin _ hm; omega)
        rw [zJ _ _ _ _ (by omega), zJ _ _ _ _ (by omega), z1] at z2
        by_cases hc : vS w.afters.slots x.han = true
        · rw [hc] at ht ⊢
          have hgo : goAt w.afters = some i := goAt_some hlt hJ (by simp [isGo, ← hx, hq, hc])
          try simp [-qt, -qd, -ql, rgs, x5, z2, k3, yI]
          repeat' first | done | ((first | ((with_reducible show zT _ _ _ _ _ _); refine zB rfl fun _ => ?_) | ((with_reducible show zH _ _ _ _ _ _ _); refine zC rfl omA omA ?_)) <;> simp [-qt, -qd, -ql, rgs, x5, z2, k3, yI]) | ((first | (with_reducible refine zE ?_ ?_) | (with_reducible refine zA ?_ ?_)) <;> intro qb <;> (have qp := qb; try simp only [psq] at qp) <;> simp [-qt, -qd, -ql, rgs, x5, z2, k3, yI, qb])
          obtain ⟨id, i1, i2, o3, V3⟩ := ht rfl
          refine ⟨fun i' hi' => ?_, (fun hn => by rw [hgo] at hn; cases hn), fun j hj hjp hjX => ?_⟩
          · rw [hgo] at hi'
            cases hi'
            rw [← hx]
            refine ⟨rfl, id, by omega, by omega, by rw [zJ _ _ _ _ (by omega)]; exact o3, V3.keep fun j hj => ?_⟩
            rcases WI.setTop_ids hj with q | q
            · have := hin j q; rw [zJ _ _ _ _ (by omega)]
            · rw [zJ _ _ _ _ (by omega)]
          · rw [zJ _ _ _ _ (by omega), hfr2 j (by omega) hjp hjX, zJ _ _ _ _ (by omega), zJ _ _ _ _ (by omega)]
            exact hK j hj
        · have hc2 : vS w.afters.slots x.han = false := by simpa using hc
          rw [hc2] at hf ⊢
          try simp [-qt, -qd, -ql, rgs]
          repeat' first | done | ((first | ((with_reducible show zT _ _ _ _ _ _); refine zB rfl fun _ => ?_) | ((with_reducible show zH _ _ _ _ _ _ _); refine zC rfl omA omA ?_)) <;> simp [-qt, -qd, -ql, rgs]) | ((first | (with_reducible refine zE ?_ ?_) | (with_reducible refine zA ?_ ?_)) <;> intro qb <;> (have qp := qb; try simp only [psq] at qp) <;> simp [-qt, -qd, -ql, rgs, qb])
          refine hnx.go () ?_ ?_ ?_ ?_ ?_ ?_
          · omega
          · simp [zM hlt hlim]
          · simp
          · intro j hj
            obtain ⟨f1, f2⟩ := hf rfl
            by_cases hjp : j = p
            · subst hjp; rw [f1, zJ _ _ _ _ (by omega), zJ _ _ _ _ (by omega)]; exact hK j hj
            · by_cases hjX : j ∈ X.ids
              · rw [f2 j hjX, zJ _ _ _ _ (by omega), zJ _ _ _ _ (by omega)]; exact hK j hj
              · rw [hfr2 j (by omega) hjp hjX, zJ _ _ _ _ (by omega), zJ _ _ _ _ (by omega)]; exact hK j hj
          · first | omega | (simp; omega)
          try dsimp only
          refine ⟨fun k hk => ?_, z2, by omega⟩
          by_cases hk2 : k < i
          · exact hJ k hk2
          · obtain rfl : k = i := by omega
            simp [isGo, ← hx, hc2]
      · try simp [-qt, -qd, -ql, rgs, o2, t9', hlt, hq, k1, k2, k3]
        repeat' first | done | ((first | ((with_reducible show zT _ _ _ _ _ _); refine zB rfl fun _ => ?_) | ((with_reducible show zH _ _ _ _ _ _ _); refine zC rfl omA omA ?_) | (((with_reducible show zH _ _ _ _ (.ref _ _ _ _) _ _); refine yJ rfl (by omega) (by omega) ?_)) | (((with_reducible show loadE _ _ _ _ _ _ _ _); refine zH1 hgx ?_))) <;> simp [-qt, -qd, -ql, rgs, o2, t9', hlt, hq, k1, k2, k3]) | ((first | (with_reducible refine zE ?_ ?_) | (with_reducible refine zA ?_ ?_)) <;> intro qb <;> (have qp := qb; try simp only [psq] at qp) <;> simp [-qt, -qd, -ql, rgs, o2, t9', hlt, hq, k1, k2, k3, qb])
        refine hnx.go () ?_ ?_ ?_ ?_ ?_ ?_
        · omega
        · simp [zM hlt hlim]
        · simp
        · exact zK
        · first | omega | (simp; omega)
        try dsimp only
        refine ⟨fun k hk => ?_, by simp [k3, z1], by omega⟩
        by_cases hk2 : k < i
        · exact hJ k hk2
        · obtain rfl : k = i := by omega
          simp [isGo, ← hx, hq]
    · have he : i = w.afters.list.length := by omega
      try simp [-qt, -qd, -ql, rgs, hlt, z1, k3]
      repeat' first | done | ((first | ((with_reducible show zT _ _ _ _ _ _); refine zB rfl fun _ => ?_) | ((with_reducible show zH _ _ _ _ _ _ _); refine zC rfl omA omA ?_)) <;> simp [-qt, -qd, -ql, rgs, hlt, z1, k3]) | ((first | (with_reducible refine zE ?_ ?_) | (with_reducible refine zA ?_ ?_)) <;> intro qb <;> (have qp := qb; try simp only [psq] at qp) <;> simp [-qt, -qd, -ql, rgs, hlt, z1, k3, qb])
      subst he
      have hgo : goAt w.afters = none := goAt_none hJ
      refine ⟨(fun i hi => by rw [hgo] at hi; cases hi), fun _ => ⟨rfl, ?_, fun j hj => ?_⟩, fun j hj _ _ => ?_⟩
      · rw [zJ _ _ _ _ (by omega)]; exact hK p hp
      · have := hin j hj
        rw [zJ _ _ _ _ (by omega)]; exact hK j this
      · rw [zJ _ _ _ _ (by omega)]; exact hK j hj
theorem d_Start {w : Wld} (hw : uU w.afters = true) (hb : w.began.length ≤ 1048576) : DoOk ctx.P 123 [] w (uZ w) (zD7 w) := by
  obtain ⟨a1, a2, a3⟩ := afs_facts hw
  intro p X
  refine AC.o okC Tryz.func123 rfl fun h nx hfr hnx hpre => ?_
  obtain ⟨o1, V1, -⟩ := hpre
  have hp : p < nx := hnx p (by rw [o1]; simp)
  have hpX := V1.obj o1
  have hin := V1.lt hnx
  try simp [-qt, -qd, -ql, rgs]
  repeat' first | done | ((first | ((with_reducible show zT _ _ _ _ _ _); refine zB rfl fun _ => ?_) | ((with_reducible show zC9 _ _ _ _ _ _ _ _); refine zW rfl rfl (by decide) (by decide) (by first | (simp [-qt, -qd, -ql, rgs]; done) | (simp [-qt, -qd, -ql, rgs]; rfl)) (by first | (simp [-qt, -qd, -ql, rgs]; done) | (simp [-qt, -qd, -ql, rgs]; rfl)) (by first | (simp; done) | (simp; omega)) (by first | (simp only [yK, LIM] at *; simp; omega) | (simp only [yK]; simp; omega)) (by simp [iv, bv]) ?_) | (with_reducible refine zI (i := 3) [(0, [], []), (1, [], []), (2, [], []), (3, [], []), (4, [], [7]), (5, [], []), (6, [], []), (7, [], []), (8, [], []), (9, [], []), (10, [], []), (11, [], [])] (by kernel_rfl) ?_)) <;> simp [-qt, -qd, -ql, rgs]) | ((first | (with_reducible refine zE ?_ ?_) | (with_reducible refine zA ?_ ?_)) <;> intro qb <;> (have qp := qb; try simp only [psq] at qp) <;> simp [-qt, -qd, -ql, rgs, qb])
  refine vB (m_startA (X := X) (p := p) (w := w) (by omega) a1 a3) ⟨o1, V1⟩ ?_
  rintro r h1 n1 ⟨hs, hn, hf⟩ hle1 hfr1
  dsimp only at hs hn hf hle1
  have kp : ∀ k, (p = nx + k) = False := fun k => by simp only [eq_iff_iff, iff_false]; omega
  have kq : ∀ k, (p = n1 + k) = False := fun k => by simp only [eq_iff_iff, iff_false]; omega
  cases hg : goAt w.afters with
  | none =>
    obtain ⟨rfl, f1, f2⟩ := hn hg
    have e2 : zD7 w = false := by simp [zD7, hg]
    rw [e2]
    try simp [-qt, -qd, -ql, rgs, yI]
    repeat' first | done | ((first | ((with_reducible show zT _ _ _ _ _ _); refine zB rfl fun _ => ?_) | ((with_reducible show zC9 _ _ _ _ _ _ _ _); refine zW rfl rfl (by decide) (by decide) (by first | (simp [-qt, -qd, -ql, rgs, yI]; done) | (simp [-qt, -qd, -ql, rgs, yI]; rfl)) (by first | (simp [-qt, -qd, -ql, rgs, yI]; done) | (simp [-qt, -qd, -ql, rgs, yI]; rfl)) (by first | (simp; done) | (simp; omega)) (by first | (simp only [yK, LIM] at *; simp; omega) | (simp only [yK]; simp; omega)) (by simp [iv, bv]) ?_) | (with_reducible refine zI (i := 3) [(0, [], []), (1, [], []), (2, [], []), (3, [], []), (4, [], [7]), (5, [], []), (6, [], []), (7, [], []), (8, [], []), (9, [], []), (10, [], []), (11, [], [])] (by kernel_rfl) ?_)) <;> simp [-qt, -qd, -ql, rgs, yI]) | ((first | (with_reducible refine zE ?_ ?_) | (with_reducible refine zA ?_ ?_)) <;> intro qb <;> (have qp := qb; try simp only [psq] at qp) <;> simp [-qt, -qd, -ql, rgs, yI, qb])
    refine ⟨rfl, (fun e => by cases e), (fun q hq => by simp at hq), fun j hj hjp hjX _ => ?_⟩
    rw [zJ _ _ _ _ (by omega), zJ _ _ _ _ (by omega)]
    exact hf j (by omega) hjp hjX
  | some i =>
    obtain ⟨rfl, id, i1, i2, o2, V2⟩ := hs i hg
    have e2 : zD7 w = true := by simp [zD7, hg]
    rw [e2]
    by_cases hlt : w.began.length < 2000
    · have e1 : uZ w = { w with afters := goA w.afters i, began := w.began ++ [(gt w.afters.list (i : Int)).fn] } := by simp [uZ, hg, hlt]
      rw [e1]
      have t13 := V2.top 13 (by omega)
      have o2' := o2
      simp [zD6, WI.setTop] at o2
      simp [zM1, WI.setTop] at t13
      have hz : ((w.began.length : Int) < 2000) = True := by simp only [eq_iff_iff, iff_true]; omega
      have l13 := hin _ (WI.top_mem (X := X) (k := 13) (by omega))
      have kt : ∀ k, (X.top 13 = nx + k) = False := fun k => by simp only [eq_iff_iff, iff_false]; omega
      have ku : ∀ k, (X.top 13 = n1 + k) = False := fun k => by simp only [eq_iff_iff, iff_false]; omega
      have kv : (p = X.top 13) = False := by simp only [eq_iff_iff, iff_false]; exact fun e => hpX (e ▸ WI.top_mem (by omega))
      try simp [-qt, -qd, -ql, rgs, o2, t13, hz, yI, iv, kp, kq, kt, ku, kv]
      repeat' first | done | ((first | ((with_reducible show zT _ _ _ _ _ _); refine zB rfl fun _ => ?_) | ((with_reducible show zC9 _ _ _ _ _ _ _ _); refine zW rfl rfl (by decide) (by decide) (by first | (simp [-qt, -qd, -ql, rgs, o2, t13, hz, yI, iv, kp, kq, kt, ku, kv]; done) | (simp [-qt, -qd, -ql, rgs, o2, t13, hz, yI, iv, kp, kq, kt, ku, kv]; rfl)) (by first | (simp [-qt, -qd, -ql, rgs, o2, t13, hz, yI, iv, kp, kq, kt, ku, kv]; done) | (simp [-qt, -qd, -ql, rgs, o2, t13, hz, yI, iv, kp, kq, kt, ku, kv]; rfl)) (by first | (simp; done) | (simp; omega)) (by first | (simp only [yK, LIM] at *; simp; omega) | (simp only [yK]; simp; omega)) (by simp [iv, bv]) ?_) | (with_reducible refine zI (i := 3) [(0, [], []), (1, [], []), (2, [], []), (3, [], []), (4, [], [7]), (5, [], []), (6, [], []), (7, [], []), (8, [], []), (9, [], []), (10, [], []), (11, [], [])] (by kernel_rfl) ?_)) <;> simp [-qt, -qd, -ql, rgs, o2, t13, hz, yI, iv, kp, kq, kt, ku, kv]) | ((first | (with_reducible refine zE ?_ ?_) | (with_reducible refine zA ?_ ?_)) <;> intro qb <;> (have qp := qb; try simp only [psq] at qp) <;> simp [-qt, -qd, -ql, rgs, o2, t13, hz, yI, iv, kp, kq, kt, ku, kv, qb])
      have hpV := V2.obj o2'
      have hids : ∀ j ∈ (X.setTop 9 id).ids, j < nx ∨ nx + 11 ≤ j ∧ j < n1 := fun j hj => by
        rcases WI.setTop_ids hj with q | q
        · have := hin j q; omega
        · omega
      have e13 : (X.setTop 9 id).top 13 = X.top 13 := rfl
      refine ⟨rfl, fun _ => ⟨(X.setTop 9 id).setTop 13 (n1 + 17), ?_, V2.newTop [] (by omega) (fun hm => by have := hids _ hm; omega) ?_ (by simp) (by simp) (fun k hk _ hne => ?_) rfl rfl (fun j hj _ hne => ?_), fun j hj => ?_⟩, (fun q hq => by simp at hq), fun j hj hjp hjX _ => ?_⟩
      · rw [zL]; simp [zD6, WI.setTop]
      · rw [zJ _ _ _ _ (by omega), zL]; simp [zM1, iv]
      · rcases lt15 hk with rfl | rfl | rfl | rfl | rfl | rfl | rfl | rfl | rfl | rfl | rfl | rfl | rfl | rfl | rfl <;> first | rfl | exact absurd rfl hne
      · have := hids j hj
        rw [e13] at hne
        rw [zJ _ _ _ _ (fun (e : j = p) => hpV (e ▸ hj)), zJ _ _ _ _ (by omega), zJ _ _ _ _ hne, zJ _ _ _ _ (by omega), zJ _ _ _ _ (by omega), zJ _ _ _ _ (by omega)]
      · rcases WI.setTop_ids hj with q | q
        · rcases WI.setTop_ids q with q | q
          · exact .inl q
          · right; omega
        · right; omega
      · have hne : j ≠ X.top 13 := fun e => hjX (e ▸ WI.top_mem (by omega))
        rw [zJ _ _ _ _ hjp, zJ _ _ _ _ (by omega), zJ _ _ _ _ hne, zJ _ _ _ _ (by omega), zJ _ _ _ _ (by omega), zJ _ _ _ _ (by omega)]
        exact hf j (by omega) hjp hjX
    · have e1 : uZ w = { w with afters := goA w.afters i } := by simp [uZ, hg, hlt]
      rw [e1]
      have o2' := o2
      simp [zD6, WI.setTop] at o2
      have hz : ((w.began.length : Int) < 2000) = False := by simp only [eq_iff_iff, iff_false]; omega
      try simp [-qt, -qd, -ql, rgs, o2, hz, yI, iv, kp, kq]
      repeat' first | done | ((first | ((with_reducible show zT _ _ _ _ _ _); refine zB rfl fun _ => ?_) | ((with_reducible show zC9 _ _ _ _ _ _ _ _); refine zW rfl rfl (by decide) (by decide) (by first | (simp [-qt, -qd, -ql, rgs, o2, hz, yI, iv, kp, kq]; done) | (simp [-qt, -qd, -ql, rgs, o2, hz, yI, iv, kp, kq]; rfl)) (by first | (simp [-qt, -qd, -ql, rgs, o2, hz, yI, iv, kp, kq]; done) | (simp [-qt, -qd, -ql, rgs, o2, hz, yI, iv, kp, kq]; rfl)) (by first | (simp; done) | (simp; omega)) (by first | (simp only [yK, LIM] at *; simp; omega) | (simp only [yK]; simp; omega)) (by simp [iv, bv]) ?_) | (with_reducible refine zI (i := 3) [(0, [], []), (1, [], []), (2, [], []), (3, [], []), (4, [], [7]), (5, [], []), (6, [], []), (7, [], []), (8, [], []), (9, [], []), (10, [], []), (11, [], [])] (by kernel_rfl) ?_)) <;> simp [-qt, -qd, -ql, rgs, o2, hz, yI, iv, kp, kq]) | ((first | (with_reducible refine zE ?_ ?_) | (with_reducible refine zA ?_ ?_)) <;> intro qb <;> (have qp := qb; try simp only [psq] at qp) <;> simp [-qt, -qd, -ql, rgs, o2, hz, yI, iv, kp, kq, qb])
      refine ⟨rfl, fun _ => ⟨X.setTop 9 id, ?_, V2.keep fun j hj => ?_, fun j hj => ?_⟩, (fun q hq => by simp at hq), fun j hj hjp hjX _ => ?_⟩
      · rw [zJ _ _ _ _ (by omega), zJ _ _ _ _ (by omega)]; exact o2'
      · rcases WI.setTop_ids hj with q | q
        · have := hin j q; rw [zJ _ _ _ _ (by omega), zJ _ _ _ _ (by omega)]
        · rw [zJ _ _ _ _ (by omega), zJ _ _ _ _ (by omega)]
      · rcases WI.setTop_ids hj with q | q
        · exact .inl q
        · right; omega
      · rw [zJ _ _ _ _ (by omega), zJ _ _ _ _ (by omega)]
        exact hf j (by omega) hjp hjX
theorem w_StartIn {F : Nat → Bool} {w : Wld} (hs : zC4 w ≤ 1048576) : WC ctx.P 42 [.agg (wldV F w)]
    (fun X => .tup [.agg (zD6 X (askW w (uZ w) (zD7 w))), .bool (askB w (uZ w) (zD7 w))]) (askW w (uZ w) (zD7 w)) := by
  refine WC.of ?_
  have hb : w.began.length ≤ 1048576 := by simp only [zC4] at hs; omega
  have hdo : zE1 w = true → DoOk ctx.P 123 [] w (uZ w) (zD7 w) := fun hw => d_Start (wldOk_all hw).2.2.2.2.2.2.2.2.1 hb
  generalize uZ w = w' at *
  generalize zD7 w = b at *
  refine AC.o okC Tryz.func42 rfl fun h nx hfr hnx hpre => ?_
  try simp [-qt, -qd, -ql, rgs, zB1, wldV_len, wldV_take]
  refine vB (w_asked (F := F) (qs := []) hs hdo) (fun q hq => by simp at hq) ?_
  rintro r h1 n1 ⟨⟨X, rfl, V1, hid1⟩, _, hf1⟩ hle1 hfr1
  dsimp only at hid1 hf1 hle1
  have K1 := fun j hj => hf1 j hj (fun q hm => by simp at hm)
  have z1 := K1 (nx + 1) (by omega)
  rw [zL] at z1
  try simp [-qt, -qd, -ql, rgs, z1, zO X _, yG, zZ]
  refine ⟨fun j hj => ?_, X, rfl, V1.keep fun id hid => ?_, fun id hid => by have := hid1 id hid; omega⟩
  · rw [zJ _ _ _ _ (by omega), K1 j (by omega)]
    repeat rw [zJ _ _ _ _ (by omega)]
  · have := hid1 id hid
    rw [zJ _ _ _ _ (by omega)]
end Go.AE.Tryz
end

section
/- Contracts of the reference's functions that are started. -/
set_option linter.unusedSimpArgs false
set_option linter.unusedVariables false
set_option maxRecDepth 8000
set_option maxHeartbeats 4000000
namespace Go.AE.Tryz
open Go.Proofs
open List renaming map_take → qt, map_drop → qd, map_tail → ql
theorem s_Dropped {F : Nat → Bool} {s : Slt} {x : Han} (hs : zC8 s = true) (hc : vS s x = true) (hr : 0 ≤ x.age ∧ x.age < 1000000) : PC ctx.P 324 [.agg (yW F s), .agg (uW x)] (.tup [.agg (yW (fun _ => true) (zL8 s x)), .bool true]) := by
  have hsl := sltOk_len hs
  have hs64 : s.ages.length ≤ 64 := by simp [zC8, inR] at hs; omega
  have hh : yN s x = true := by simp [vS] at hc; exact hc.1
  have hsl2 : 0 ≤ x.slot ∧ x.slot < s.ages.length := by
    simp only [yN, Bool.and_eq_true, vV, inR, decide_eq_true_eq] at hh; omega
  have ew : IntKind.i64.wrap (x.age + 1) = x.age + 1 := zF (by omega)
  have ha2 : (x.age == 1000000) = false := by simp; omega
  have n1 : x.slot.toNat < s.ages.length := by omega
  have hg : s.ages[x.slot.toNat]? = some x.age := by
    simp only [yN, Bool.and_eq_true, beq_iff_eq] at hh
    rw [← hh.2.2, ← zD9 hsl2.1 hsl2.2]
  refine PC.o okC Tryz.func324 rfl (.tup _ (by simp only [List.mem_cons, List.not_mem_nil, or_false]; rintro c (rfl | rfl); exact .agg _ (sltV_fz _); exact .bool _)) fun h nx hnx => ?_
  try simp [-qt, -qd, -ql, rgs, hs, hh, ha2, ew, uW, yW, iv, bv]
  repeat' first | done | ((first | ((with_reducible show zH _ _ _ _ _ _ _); refine zC rfl omA omA ?_) | ((with_reducible show zG _ _ _ 321 _ _); refine zD (zH3 (s := s) (F := F)) ?_) | ((with_reducible show zG _ _ _ 310 _ _); refine yF (zM5 (s := s) (F := F) (by omega) (by omega)) ?_) | ((with_reducible show zG _ _ _ 323 _ _); refine zD (s_Holds (s := s) (F := F) (x := x)) ?_) | (((with_reducible show zH _ _ _ _ (.ref _ _ _ _) _ _); refine yJ rfl (by omega) (by omega) ?_))) <;> simp [-qt, -qd, -ql, rgs, hs, hh, ha2, ew, uW, yW, iv, bv]) | ((first | (with_reducible refine zE ?_ ?_) | (with_reducible refine zA ?_ ?_)) <;> intro qb <;> (have qp := qb; try simp only [psq] at qp) <;> simp [-qt, -qd, -ql, rgs, hs, hh, ha2, ew, uW, yW, iv, bv, qb])
  refine zF1 (sz := 1) (xs := s.used.map bv) (cells := bv (gt s.used x.slot)) (by simp) rfl rfl rfl (by rw [List.getElem?_map, zD9 hsl2.1 (by omega)]; rfl) rfl ?_
  try simp [-qt, -qd, -ql, rgs, hs, hh, ha2, ew, uW, yW, iv, bv]
  repeat' first | done | ((first | ((with_reducible show zH _ _ _ _ _ _ _); refine zC rfl omA omA ?_) | (((with_reducible show zH _ _ _ _ (.ref _ _ _ _) _ _); refine yJ rfl (by omega) (by omega) ?_))) <;> simp [-qt, -qd, -ql, rgs, hs, hh, ha2, ew, uW, yW, iv, bv]) | ((first | (with_reducible refine zE ?_ ?_) | (with_reducible refine zA ?_ ?_)) <;> intro qb <;> (have qp := qb; try simp only [psq] at qp) <;> simp [-qt, -qd, -ql, rgs, hs, hh, ha2, ew, uW, yW, iv, bv, qb])
  refine zF1 (sz := 1) (xs := s.ages.map iv) (cells := iv x.age) (by simp [iv]) rfl rfl rfl (by rw [List.getElem?_map, hg]; rfl) rfl ?_
  try simp [-qt, -qd, -ql, rgs, hs, hh, ha2, ew, uW, yW, iv, bv]
  repeat' first | done | ((first | ((with_reducible show zH _ _ _ _ _ _ _); refine zC rfl omA omA ?_)) <;> simp [-qt, -qd, -ql, rgs, hs, hh, ha2, ew, uW, yW, iv, bv]) | ((first | (with_reducible refine zE ?_ ?_) | (with_reducible refine zA ?_ ?_)) <;> intro qb <;> (have qp := qb; try simp only [psq] at qp) <;> simp [-qt, -qd, -ql, rgs, hs, hh, ha2, ew, uW, yW, iv, bv, qb])
  exact ⟨by rw [List.take_of_length_le (by simp)]; simp [zL8, iv, List.map_set], by rw [List.take_of_length_le (by simp)]; simp [zL8, bv, List.map_set]⟩
theorem s_l8Away {F : Nat → Bool} {a : Afs} {i : Nat} (hs : zC8 a.slots = true) (hi : i < a.list.length) (hl : a.list.length ≤ 64) (hc : vS a.slots (gt a.list (i : Int)).han = true) (hr : 0 ≤ (gt a.list (i : Int)).han.age ∧ (gt a.list (i : Int)).han.age < 1000000) :
    PC ctx.P 232 [.agg (vD F a), .int .i64 i] (.agg (vD (fun _ => true) (goA a i))) := by
  have hsl := sltOk_len hs
  have hs64 : a.slots.ages.length ≤ 64 := by simp [zC8, inR] at hs; omega
  have ew : IntKind.i64.wrap ((i : Int) + 1) = (i : Int) + 1 := zF (by omega)
  have hgx : (gt a.list (i : Int)) = gt a.list (i : Int) := rfl
  have hdr := s_Dropped (F := F) (x := (gt a.list (i : Int)).han) hs hc hr
  refine PC.o okC Tryz.func232 rfl (.agg _ (afsV_fz _)) fun h nx hnx => ?_
  try simp [-qt, -qd, -ql, rgs, vD, yW, yB hnx, ew]
  repeat' first | done | ((first | ((with_reducible show zH _ _ _ _ _ _ _); refine zC rfl omA omA ?_) | ((with_reducible show yA _ _ _ _ _ _ _ _); refine vJ rfl omA omA ?_) | ((with_reducible show yA _ _ _ _ _ _ _ _); refine yO rfl omA omA ?_) | ((with_reducible show yA _ _ _ _ _ _ _ _); refine yY rfl omA omA omA ?_) | ((with_reducible show yE _ _ _ _ _ _ _ _ _ _ _); refine vC rfl omA omA ?_) | ((with_reducible show yE _ _ _ _ _ _ _ _ _ _ _); refine yL rfl omA omA ?_) | ((with_reducible show yE _ _ _ _ _ _ _ _ _ _ _); refine yU rfl omA omA omA ?_) | ((with_reducible show zG _ _ _ 220 _ _); refine yF (f_l8Copy (s := a) (F := F) (by omega) (by omega) (by omega)) ?_) | ((with_reducible show zC9 _ _ _ _ _ _ _ _); refine zW rfl rfl (by decide) (by decide) (by first | (simp [-qt, -qd, -ql, rgs, vD, yW, yB hnx, ew]; done) | (simp [-qt, -qd, -ql, rgs, vD, yW, yB hnx, ew]; rfl)) (by first | (simp [-qt, -qd, -ql, rgs, vD, yW, yB hnx, ew]; done) | (simp [-qt, -qd, -ql, rgs, vD, yW, yB hnx, ew]; rfl)) (by first | (simp; done) | (simp; omega)) (by first | (simp only [yK, LIM] at *; simp; omega) | (simp only [yK]; simp; omega)) (by simp [iv, bv]) ?_) | (with_reducible refine zI (i := 2) [(0, [], []), (1, [], []), (2, [], []), (3, [], []), (4, [], []), (5, [], []), (6, [], []), (7, [], []), (8, [], []), (9, [], []), (10, [], []), (11, [], []), (12, [], []), (13, [], [])] (by kernel_rfl) ?_) | (with_reducible refine zI (i := 3) [(1, [], []), (2, [], [0]), (3, [], []), (4, [], []), (6, [], []), (7, [], [0]), (8, [], []), (9, [], []), (10, [], []), (0, [], []), (5, [.tmp 27], []), (11, [], []), (12, [], []), (13, [], [])] (by kernel_rfl) ?_)) <;> simp [-qt, -qd, -ql, rgs, vD, yW, yB hnx, ew])
  rw [show List.take 2 (yI (gt a.list (i : Int))) = uW (gt a.list (i : Int)).han from rfl]
  refine zD hdr ?_
  try simp [-qt, -qd, -ql, rgs, vD, yW, yB hnx, ew, yI]
  repeat' first | done | ((first | ((with_reducible show zH _ _ _ _ _ _ _); refine zC rfl omA omA ?_) | ((with_reducible show yA _ _ _ _ _ _ _ _); refine vJ rfl omA omA ?_) | ((with_reducible show yA _ _ _ _ _ _ _ _); refine yO rfl omA omA ?_) | ((with_reducible show yA _ _ _ _ _ _ _ _); refine yY rfl omA omA omA ?_) | ((with_reducible show yE _ _ _ _ _ _ _ _ _ _ _); refine vC rfl omA omA ?_) | ((with_reducible show yE _ _ _ _ _ _ _ _ _ _ _); refine yL rfl omA omA ?_) | ((with_reducible show yE _ _ _ _ _ _ _ _ _ _ _); refine yU rfl omA omA omA ?_) | (((with_reducible show zC9 _ _ _ _ _ _ _ _); refine zW rfl rfl (by decide) (by decide) (by simp; rfl) (by simp; rfl) (by simp) (by simp only [yK]; simp; omega) (by first | exact ho_take afr_one _ _ | exact ho_drop afr_one _ _) ?_)) | ((with_reducible show zC9 _ _ _ _ _ _ _ _); refine zW rfl rfl (by decide) (by decide) (by first | (simp [-qt, -qd, -ql, rgs, vD, yW, yB hnx, ew, yI]; done) | (simp [-qt, -qd, -ql, rgs, vD, yW, yB hnx, ew, yI]; rfl)) (by first | (simp [-qt, -qd, -ql, rgs, vD, yW, yB hnx, ew, yI]; done) | (simp [-qt, -qd, -ql, rgs, vD, yW, yB hnx, ew, yI]; rfl)) (by first | (simp; done) | (simp; omega)) (by first | (simp only [yK, LIM] at *; simp; omega) | (simp only [yK]; simp; omega)) (by simp [iv, bv]) ?_) | (with_reducible refine zI (i := 2) [(0, [], []), (1, [], []), (2, [], []), (3, [], []), (4, [], []), (5, [], []), (6, [], []), (7, [], []), (8, [], []), (9, [], []), (10, [], []), (11, [], []), (12, [], []), (13, [], [])] (by kernel_rfl) ?_) | (with_reducible refine zI (i := 3) [(1, [], []), (2, [], [0]), (3, [], []), (4, [], []), (6, [], []), (7, [], [0]), (8, [], []), (9, [], []), (10, [], []), (0, [], []), (5, [.tmp 27], []), (11, [], []), (12, [], []), (13, [], [])] (by kernel_rfl) ?_)) <;> simp [-qt, -qd, -ql, rgs, vD, yW, yB hnx, ew, yI])
  refine ⟨rfl, rfl, ?_⟩
  rw [List.take_of_length_le (by simp)]
  simp only [goA, List.eraseIdx_eq_take_drop_succ, List.map_append, List.map_take, List.map_drop]
theorem s_Started {F : Nat → Bool} {A : Afs} (hs : uU A = true) : PC ctx.P 122 [.agg (vD F A)] (.tup [.agg (vD (fun _ => true) (match goAt A with | some i => goA A i | none => A)), .agg (yI (match goAt A with | some i => gt A.list (i : Int) | none => default)), .bool (goAt A).isSome]) := by
  obtain ⟨a1, a2, a3⟩ := afs_facts hs
  have hso : zC8 A.slots = true := by simp [uU] at hs; exact hs.1
  have hs64 : A.slots.ages.length ≤ 64 := by simp [zC8, inR] at hso; omega
  have hlim : A.list.length ≤ LIM := by simp only [LIM]; omega
  have hheld := afs_held hs
  refine PC.o okC Tryz.func122 rfl (.tup _ (by simp only [List.mem_cons, List.not_mem_nil, or_false]; rintro c (rfl | rfl | rfl); exact .agg _ (afsV_fz _); exact .agg _ (zA0 _); exact .bool _)) fun h nx hnx => ?_
  try simp [-qt, -qd, -ql, rgs, hs, vD]
  repeat' first | done | ((first | ((with_reducible show zT _ _ _ _ _ _); refine zB rfl fun _ => ?_) | ((with_reducible show zH _ _ _ _ _ _ _); refine zC rfl omA omA ?_) | ((with_reducible show zG _ _ _ 231 _ _); refine zD (s_AftersOk (x := A) (F := F)) ?_) | (with_reducible refine zI (i := 7) [(0, [], []), (1, [], []), (3, [], []), (4, [], []), (5, [], []), (6, [], []), (7, [], []), (2, [.tmp 37, .tmp 40], []), (8, [.tmp 37, .tmp 40], []), (9, [], []), (10, [], [])] (by kernel_rfl) ?_)) <;> simp [-qt, -qd, -ql, rgs, hs, vD]) | ((first | (with_reducible refine zE ?_ ?_) | (with_reducible refine zA ?_ ?_)) <;> intro qb <;> (have qp := qb; try simp only [psq] at qp) <;> simp [-qt, -qd, -ql, rgs, hs, vD, qb])
  refine zU [4, 5, 11, 12, 13, 14, 15, 16, 17, 18, 19, 20, 21, 22, 23, 24, 25, 26, 27, 28, 29, 30, 31, 32, 33, 34, 35, 36, 37, 38, 39, 40, 41] (A.list.length) (fun (i : Nat) a => [(5, .int .i64 i)]) (fun i_ a_ h_ _ => (fun i (_ : Unit) h' => (∀ k : Nat, k < i → isGo A (gt A.list (k : Int)) = false)) i_ a_ h_) (()) (by simp) ?_ zP (Nat.le_refl _) ?_
  · exact fun k hk => by omega
  · intro i a tm h' n' hle hJ hE hn' next hnx
    try dsimp only at hJ
    have hK : KeepB nx h' h := KeepB.sub hE zK (by omega)
    simp [-qt, -qd, -ql]
    have e1 : h' (nx) = some (.obj (vD F A)) := by have := hE (nx) (by omega); simpa [vD] using this
    have e1n : ∀ k, ((nx) = n' + k) = False := fun k => by simp only [eq_iff_iff, iff_false]; omega
    have e1m : ((nx) = n') = False := by simp only [eq_iff_iff, iff_false]; omega
    have e2 : h' (nx + 1) = some (.obj [.nil, .nil, .nil]) := by have := hE (nx + 1) (by omega); simpa using this
    have e2n : ∀ k, ((nx + 1) = n' + k) = False := fun k => by simp only [eq_iff_iff, iff_false]; omega
    have e2m : ((nx + 1) = n') = False := by simp only [eq_iff_iff, iff_false]; omega
    have e3 : h' (nx + 2) = some (.obj [.int .i64 0, .int .i64 0, .int .i64 0, .int .i64 0, .bool false]) := by have := hE (nx + 2) (by omega); simpa using this
    have e3n : ∀ k, ((nx + 2) = n' + k) = False := fun k => by simp only [eq_iff_iff, iff_false]; omega
    have e3m : ((nx + 2) = n') = False := by simp only [eq_iff_iff, iff_false]; omega
    by_cases hlt : i < A.list.length
    · obtain ⟨x, hx⟩ : ∃ x, x = gt A.list (i : Int) := ⟨_, rfl⟩
      have hh := hheld i hlt
      have h3 := a3 i hlt
      have haw := fun hc => s_l8Away (F := F) (a := A) (i := i) hso hlt a2 hc (h3 hc)
      rw [← hx] at hh h3 haw
      by_cases hq : x.queued = true
      · by_cases hc : vS A.slots x.han = true
        · have hgo : goAt A = some i := goAt_some hlt hJ (by simp [isGo, ← hx, hq, hc])
          have hz : (x.han.age < 1000000) = True := by simp only [eq_iff_iff, iff_true]; exact (h3 hc).2
          have haw := haw hc
          rw [hgo]
          try simp [-qt, -qd, -ql, rgs, e1, e1n, e1m, e2, e2n, e2m, e3, e3n, e3m, hlt, vD, hz, ← hx, hq, yI]
          repeat' first | done | ((first | ((with_reducible show zT _ _ _ _ _ _); refine zB rfl fun _ => ?_) | ((with_reducible show zH _ _ _ _ _ _ _); refine zC rfl omA omA ?_) | (refine zD (haw) ?_) | (with_reducible refine zI (i := 7) [(0, [], []), (1, [], []), (3, [], []), (4, [], []), (5, [], []), (6, [], []), (7, [], []), (2, [.tmp 37, .tmp 40], []), (8, [.tmp 37, .tmp 40], []), (9, [], []), (10, [], [])] (by kernel_rfl) ?_)) <;> simp [-qt, -qd, -ql, rgs, e1, e1n, e1m, e2, e2n, e2m, e3, e3n, e3m, hlt, vD, hz, ← hx, hq, yI]) | ((first | (with_reducible refine zE ?_ ?_) | (with_reducible refine zA ?_ ?_)) <;> intro qb <;> (have qp := qb; try simp only [psq] at qp) <;> simp [-qt, -qd, -ql, rgs, e1, e1n, e1m, e2, e2n, e2m, e3, e3n, e3m, hlt, vD, hz, ← hx, hq, yI, qb])
          exact zK
        · have hz : (x.han.age < 1000000) = False := by
            simp only [eq_iff_iff, iff_false]
            simp [vS, hh] at hc
            omega
          try simp [-qt, -qd, -ql, rgs, e1, e1n, e1m, hlt, vD, hz, ← hx, hq, yI]
          repeat' first | done | ((first | ((with_reducible show zT _ _ _ _ _ _); refine zB rfl fun _ => ?_) | ((with_reducible show zH _ _ _ _ _ _ _); refine zC rfl omA omA ?_) | (with_reducible refine zI (i := 7) [(0, [], []), (1, [], []), (3, [], []), (4, [], []), (5, [], []), (6, [], []), (7, [], []), (2, [.tmp 37, .tmp 40], []), (8, [.tmp 37, .tmp 40], []), (9, [], []), (10, [], [])] (by kernel_rfl) ?_)) <;> simp [-qt, -qd, -ql, rgs, e1, e1n, e1m, hlt, vD, hz, ← hx, hq, yI]) | ((first | (with_reducible refine zE ?_ ?_) | (with_reducible refine zA ?_ ?_)) <;> intro qb <;> (have qp := qb; try simp only [psq] at qp) <;> simp [-qt, -qd, -ql, rgs, e1, e1n, e1m, hlt, vD, hz, ← hx, hq, yI, qb])
          refine hnx.go () ?_ ?_ ?_ ?_ ?_ ?_
          · omega
          · simp [zM hlt hlim]
          · simp
          · exact zK
          · first | omega | (simp; omega)
          try dsimp only
          intro k hk
          by_cases hk2 : k < i
          · exact hJ k hk2
          · obtain rfl : k = i := by omega
            simp [isGo, ← hx, hc]
      · try simp [-qt, -qd, -ql, rgs, e1, e1n, e1m, hlt, vD, ← hx, hq, yI]
        repeat' first | done | ((first | ((with_reducible show zT _ _ _ _ _ _); refine zB rfl fun _ => ?_) | ((with_reducible show zH _ _ _ _ _ _ _); refine zC rfl omA omA ?_) | (with_reducible refine zI (i := 7) [(0, [], []), (1, [], []), (3, [], []), (4, [], []), (5, [], []), (6, [], []), (7, [], []), (2, [.tmp 37, .tmp 40], []), (8, [.tmp 37, .tmp 40], []), (9, [], []), (10, [], [])] (by kernel_rfl) ?_)) <;> simp [-qt, -qd, -ql, rgs, e1, e1n, e1m, hlt, vD, ← hx, hq, yI]) | ((first | (with_reducible refine zE ?_ ?_) | (with_reducible refine zA ?_ ?_)) <;> intro qb <;> (have qp := qb; try simp only [psq] at qp) <;> simp [-qt, -qd, -ql, rgs, e1, e1n, e1m, hlt, vD, ← hx, hq, yI, qb])
        refine hnx.go () ?_ ?_ ?_ ?_ ?_ ?_
        · omega
        · simp [zM hlt hlim]
        · simp
        · exact zK
        · first | omega | (simp; omega)
        try dsimp only
        intro k hk
        by_cases hk2 : k < i
        · exact hJ k hk2
        · obtain rfl : k = i := by omega
          simp [isGo, ← hx, hq]
    · have he : i = A.list.length := by omega
      subst he
      have hgo : goAt A = none := goAt_none hJ
      rw [hgo]
      try simp [-qt, -qd, -ql, rgs, e1, e1n, e1m, e2, e2n, e2m, e3, e3n, e3m, hlt, vD, yI]
      repeat' first | done | ((first | ((with_reducible show zT _ _ _ _ _ _); refine zB rfl fun _ => ?_) | ((with_reducible show zH _ _ _ _ _ _ _); refine zC rfl omA omA ?_) | ((with_reducible show zG _ _ _ 220 _ _); refine zD (s_l8Copy (s := A) (F := F) (by omega) (by omega) (by omega)) ?_) | (with_reducible refine zI (i := 7) [(0, [], []), (1, [], []), (3, [], []), (4, [], []), (5, [], []), (6, [], []), (7, [], []), (2, [.tmp 37, .tmp 40], []), (8, [.tmp 37, .tmp 40], []), (9, [], []), (10, [], [])] (by kernel_rfl) ?_)) <;> simp [-qt, -qd, -ql, rgs, e1, e1n, e1m, e2, e2n, e2m, e3, e3n, e3m, hlt, vD, yI]) | ((first | (with_reducible refine zE ?_ ?_) | (with_reducible refine zA ?_ ?_)) <;> intro qb <;> (have qp := qb; try simp only [psq] at qp) <;> simp [-qt, -qd, -ql, rgs, e1, e1n, e1m, e2, e2n, e2m, e3, e3n, e3m, hlt, vD, yI, qb])
      exact ⟨⟨rfl, rfl, rfl, rfl, rfl⟩, zK⟩
theorem s_StartIn {F : Nat → Bool} {w : Wld} (hs : zC4 w ≤ 1048576) : PC ctx.P 41 [.agg (wldV F w)] (.tup [.agg (wldV (fun _ => true) (goW w)), .bool (goB w)]) := by
  by_cases hw : zE1 w = true
  · have ha := (wldOk_all hw).2.2.2.2.2.2.2.2.1
    have hst := s_Started (F := F) ha
    have e2 : goB w = (goAt w.afters).isSome := by simp [goB, hw, zD7]
    have e1 : goW w = uZ w := by simp [goW, hw]
    rw [e1, e2]
    cases hg : goAt w.afters with
    | none =>
      have e3 : uZ w = w := by simp [uZ, hg]
      rw [hg] at hst
      rw [e3]
      refine PC.o okC Tryz.func41 rfl (.tup _ (by simp only [List.mem_cons, List.not_mem_nil, or_false]; rintro c (rfl | rfl); exact wldV_fz _; exact .bool _)) fun h nx hnx => ?_
      try simp [-qt, -qd, -ql, rgs, hw, wldV, vD, yW, yI]
      repeat' first | done | ((first | ((with_reducible show zT _ _ _ _ _ _); refine zB rfl fun _ => ?_) | ((with_reducible show zG _ _ _ 57 _ _); refine zD (zL5 (w := w) (F := F)) ?_) | ((with_reducible show zG _ _ _ 107 _ _); refine zD (s_l13Copy (w := w) (F := F) hs) ?_) | (refine zD (hst) ?_) | ((with_reducible show zC9 _ _ _ _ _ _ _ _); refine zW rfl rfl (by decide) (by decide) (by first | (simp [-qt, -qd, -ql, rgs, hw, wldV, vD, yW, yI]; done) | (simp [-qt, -qd, -ql, rgs, hw, wldV, vD, yW, yI]; rfl)) (by first | (simp [-qt, -qd, -ql, rgs, hw, wldV, vD, yW, yI]; done) | (simp [-qt, -qd, -ql, rgs, hw, wldV, vD, yW, yI]; rfl)) (by first | (simp; done) | (simp; omega)) (by first | (simp only [yK, LIM] at *; simp; omega) | (simp only [yK]; simp; omega)) (by simp [iv, bv]) ?_)) <;> simp [-qt, -qd, -ql, rgs, hw, wldV, vD, yW, yI]) | ((first | (with_reducible refine zA ?_ ?_)) <;> intro qb <;> (have qp := qb; try simp only [psq] at qp) <;> simp [-qt, -qd, -ql, rgs, hw, wldV, vD, yW, yI, qb])
    | some i =>
      rw [hg] at hst
      by_cases hlt : w.began.length < 2000
      · have e3 : uZ w = { w with afters := goA w.afters i, began := w.began ++ [(gt w.afters.list (i : Int)).fn] } := by simp [uZ, hg, hlt]
        rw [e3, show (some i).isSome = true from rfl]
        have hfin : ∀ (g HF : zX) (X : WI) (h1 h : zX) (nx nb len : Nat), WV h1 X w → (∀ j ∈ X.ids, j ≠ X.top 13 → HF j = h1 j) → (∀ j ∈ X.ids, nx ≤ j) → nx ≤ nb → HF nb = some (.row 1 ((w.began ++ [(gt w.afters.list (i : Int)).fn]).map iv)) → len = w.began.length + 1 → KeepB nx HF h → ∀ n, PdQ (.tup [.agg (wldV (fun _ => true) { w with afters := goA w.afters i, began := w.began ++ [(gt w.afters.list (i : Int)).fn] }), .bool true]) h nx (.tup [.agg [.int .i64 w.now, .ref (X.top 0) 1 0 w.progs.length, .ref (X.top 1) 5 0 w.tree.length, .ref (X.top 2) 4 0 w.events.length, .ref (X.top 3) 1 0 w.spread.told.length, .ref (X.top 4) 1 0 w.spread.work.length,
            .ref (X.top 5) 3 0 w.timers.heap.length, .ref (X.top 6) 5 0 w.timers.list.length, .int .i64 w.timers.next, .view true 1 ((goA w.afters i).slots.ages.map iv), .view true 1 ((goA w.afters i).slots.used.map bv), .view true 5 ((goA w.afters i).list.map yI),
            .ref (X.top 10) 9 0 w.tasks.length, .ref (X.top 11) 5 0 w.groups.length, .ref (X.top 12) 4 0 w.sights.length, .ref nb 1 0 len, .ref (X.top 14) 1 0 w.rang.length], .bool true]) HF n := by
          intro _ HF X h1 h nx nb len v hF hX hnb hb hlen hk n
          refine ⟨fun j => if nx ≤ j then HF j else none, fun id e he => ?_, .tups (.cons (.aggs (fro_mix v (fun j hj hne => ?_) ?_ (by simpa using hlen))) (.cons (.same _) .nil)), hk⟩
          · dsimp only at he; split at he
            · exact ⟨he, by assumption⟩
            · cases he
          · rw [if_pos (hX j hj)]; exact hF j hj hne
          · rw [if_pos hnb]; exact hb
        refine AC.pcD (.tup _ (by simp only [List.mem_cons, List.not_mem_nil, or_false]; rintro c (rfl | rfl); exact wldV_fz _; exact .bool _)) ?_
        generalize AV.tup [AV.agg (wldV (fun _ => true) ({ w with afters := goA w.afters i, began := w.began ++ [(gt w.afters.list (i : Int)).fn] } : Wld)), AV.bool true] = r' at *
        refine AC.o okC Tryz.func41 rfl fun h nx hfr hnx hpre => ?_
        have hz : ((w.began.length : Int) < 2000) = True := by simp only [eq_iff_iff, iff_true]; omega
        try simp [-qt, -qd, -ql, rgs, hw, yS, vL, yT]
        repeat' first | done | ((first | ((with_reducible show zT _ _ _ _ _ _); refine zB rfl fun _ => ?_) | ((with_reducible show zG _ _ _ 57 _ _); refine zD (zL5 (w := w) (F := F)) ?_) | ((with_reducible show zC9 _ _ _ _ _ _ _ _); refine zW rfl rfl (by decide) (by decide) (by first | (simp [-qt, -qd, -ql, rgs, hw, yS, vL, yT]; done) | (simp [-qt, -qd, -ql, rgs, hw, yS, vL, yT]; rfl)) (by first | (simp [-qt, -qd, -ql, rgs, hw, yS, vL, yT]; done) | (simp [-qt, -qd, -ql, rgs, hw, yS, vL, yT]; rfl)) (by first | (simp; done) | (simp; omega)) (by first | (simp only [yK, LIM] at *; simp; omega) | (simp only [yK]; simp; omega)) (by simp [iv, bv]) ?_)) <;> simp [-qt, -qd, -ql, rgs, hw, yS, vL, yT]) | ((first | (with_reducible refine zA ?_ ?_)) <;> intro qb <;> (have qp := qb; try simp only [psq] at qp) <;> simp [-qt, -qd, -ql, rgs, hw, yS, vL, yT, qb])
        refine call_wc (w_l13Copy (F := F) hs) ?_
        intro X h1 n1 V1 hid1 hle1 hf1
        dsimp only at hid1 hle1 hf1
        have nX : ∀ j, j < nx + 9 → j ∉ X.ids := fun j hj hm => by have := hid1 j hm; omega
        have a1 := hf1 nx (nX _ (by omega))
        have z1 := hf1 (nx + 1) (nX _ (by omega))
        rw [zJ _ _ _ _ (by omega), zL] at a1
        rw [zL] at z1
        have t13 := V1.top 13 (by omega)
        simp only [zM1] at t13
        have l13 := hid1 _ (WI.top_mem (X := X) (k := 13) (by omega))
        have kt : ∀ k, (X.top 13 = n1 + k) = False := fun k => by simp only [eq_iff_iff, iff_false]; omega
        have ku : ∀ k, k < 10 → (X.top 13 = nx + k) = False := fun k hk => by simp only [eq_iff_iff, iff_false]; omega
        have kv : ∀ k, k < 10 → (nx + k = X.top 13) = False := fun k hk => by simp only [eq_iff_iff, iff_false]; omega
        have kw : ∀ a k, a < 10 → (nx + a = n1 + k) = False := fun a k hk => by simp only [eq_iff_iff, iff_false]; omega
        have kx : ∀ k, (nx = n1 + k) = False := fun k => by simp only [eq_iff_iff, iff_false]; omega
        have kz : ∀ a, a < 10 → (nx + a = n1) = False := fun a hk => by simp only [eq_iff_iff, iff_false]; omega
        have k0 : (nx = n1) = False := by simp only [eq_iff_iff, iff_false]; omega
        have r0 : (n1 = nx) = False := by simp only [eq_iff_iff, iff_false]; omega
        have r1 : ∀ k, (n1 + k = nx) = False := fun k => by simp only [eq_iff_iff, iff_false]; omega
        have r2 : ∀ a, a < 10 → (n1 = nx + a) = False := fun a ha => by simp only [eq_iff_iff, iff_false]; omega
        have r3 : ∀ k, (n1 + k = X.top 13) = False := fun k => by simp only [eq_iff_iff, iff_false]; omega
        have r4 : ∀ a k, a < 10 → (n1 + k = nx + a) = False := fun a k ha => by simp only [eq_iff_iff, iff_false]; omega
        have r5 : (X.top 13 = nx) = False := by simp only [eq_iff_iff, iff_false]; omega
        have ky : (nx = X.top 13) = False := by simp only [eq_iff_iff, iff_false]; omega
        try simp [-qt, -qd, -ql, rgs, a1, z1, t13, hz, wldV, zD6, vD, yW, yI, iv, kt, ku, kv, kw, kx, ky, kz, k0, r0, r1, r2, r3, r4, r5]
        repeat' first | done | ((first | ((with_reducible show zT _ _ _ _ _ _); refine zB rfl fun _ => ?_) | (refine zD (hst) ?_) | ((with_reducible show zC9 _ _ _ _ _ _ _ _); refine zW rfl rfl (by decide) (by decide) (by first | (simp [-qt, -qd, -ql, rgs, a1, z1, t13, hz, wldV, zD6, vD, yW, yI, iv, kt, ku, kv, kw, kx, ky, kz, k0, r0, r1, r2, r3, r4, r5]; done) | (simp [-qt, -qd, -ql, rgs, a1, z1, t13, hz, wldV, zD6, vD, yW, yI, iv, kt, ku, kv, kw, kx, ky, kz, k0, r0, r1, r2, r3, r4, r5]; rfl)) (by first | (simp [-qt, -qd, -ql, rgs, a1, z1, t13, hz, wldV, zD6, vD, yW, yI, iv, kt, ku, kv, kw, kx, ky, kz, k0, r0, r1, r2, r3, r4, r5]; done) | (simp [-qt, -qd, -ql, rgs, a1, z1, t13, hz, wldV, zD6, vD, yW, yI, iv, kt, ku, kv, kw, kx, ky, kz, k0, r0, r1, r2, r3, r4, r5]; rfl)) (by first | (simp; done) | (simp; omega)) (by first | (simp only [yK, LIM] at *; simp; omega) | (simp only [yK]; simp; omega)) (by simp [iv, bv]) ?_)) <;> simp [-qt, -qd, -ql, rgs, a1, z1, t13, hz, wldV, zD6, vD, yW, yI, iv, kt, ku, kv, kw, kx, ky, kz, k0, r0, r1, r2, r3, r4, r5]) | ((first | (with_reducible refine zA ?_ ?_)) <;> intro qb <;> (have qp := qb; try simp only [psq] at qp) <;> simp [-qt, -qd, -ql, rgs, a1, z1, t13, hz, wldV, zD6, vD, yW, yI, iv, kt, ku, kv, kw, kx, ky, kz, k0, r0, r1, r2, r3, r4, r5, qb])
        refine hfin (fun _ => none) _ X h1 h nx (n1 + 26) _ V1 (fun j hj hne => ?_) (fun j hj => by have := hid1 j hj; omega) (by omega) ?_ rfl (fun j hj => ?_) _
        · have := hid1 j hj
          repeat (first | rw [zJ _ _ _ _ hne] | rw [zJ _ _ _ _ (by omega)])
        · rw [zJ _ _ _ _ (by omega), zJ _ _ _ _ (by omega), zL]; simp [iv]
        · repeat rw [zJ _ _ _ _ (by omega)]
          rw [hf1 j (nX _ (by omega))]
          repeat rw [zJ _ _ _ _ (by omega)]
      · have e3 : uZ w = { w with afters := goA w.afters i } := by simp [uZ, hg, hlt]
        have hz : ((w.began.length : Int) < 2000) = False := by simp only [eq_iff_iff, iff_false]; omega
        rw [e3]
        refine PC.o okC Tryz.func41 rfl (.tup _ (by simp only [List.mem_cons, List.not_mem_nil, or_false]; rintro c (rfl | rfl); exact wldV_fz _; exact .bool _)) fun h nx hnx => ?_
        try simp [-qt, -qd, -ql, rgs, hw, wldV, hz, vD, yW, yI]
        repeat' first | done | ((first | ((with_reducible show zT _ _ _ _ _ _); refine zB rfl fun _ => ?_) | ((with_reducible show zG _ _ _ 57 _ _); refine zD (zL5 (w := w) (F := F)) ?_) | ((with_reducible show zG _ _ _ 107 _ _); refine zD (s_l13Copy (w := w) (F := F) hs) ?_) | (refine zD (hst) ?_) | ((with_reducible show zC9 _ _ _ _ _ _ _ _); refine zW rfl rfl (by decide) (by decide) (by first | (simp [-qt, -qd, -ql, rgs, hw, wldV, hz, vD, yW, yI]; done) | (simp [-qt, -qd, -ql, rgs, hw, wldV, hz, vD, yW, yI]; rfl)) (by first | (simp [-qt, -qd, -ql, rgs, hw, wldV, hz, vD, yW, yI]; done) | (simp [-qt, -qd, -ql, rgs, hw, wldV, hz, vD, yW, yI]; rfl)) (by first | (simp; done) | (simp; omega)) (by first | (simp only [yK, LIM] at *; simp; omega) | (simp only [yK]; simp; omega)) (by simp [iv, bv]) ?_)) <;> simp [-qt, -qd, -ql, rgs, hw, wldV, hz, vD, yW, yI]) | ((first | (with_reducible refine zA ?_ ?_)) <;> intro qb <;> (have qp := qb; try simp only [psq] at qp) <;> simp [-qt, -qd, -ql, rgs, hw, wldV, hz, vD, yW, yI, qb])
  · have e1 : goW w = default := by simp [goW, hw]
    have e2 : goB w = false := by simp [goB, hw]
    rw [e1, e2]
    refine PC.nv (r := .tup [.agg zeroC, .bool false]) ?_ (.tups (.cons (.aggs nvs_world) (.cons (.same _) .nil)))
    refine PC.o okC Tryz.func41 rfl (.tup _ (by simp only [List.mem_cons, List.not_mem_nil, or_false]; rintro c (rfl | rfl); exact zeroC_fz; exact .bool _)) fun h nx hnx => ?_
    try simp [-qt, -qd, -ql, rgs, hw, wldV, zeroC]
    repeat' first | done | ((first | ((with_reducible show zT _ _ _ _ _ _); refine zB rfl fun _ => ?_) | ((with_reducible show zG _ _ _ 57 _ _); refine zD (zL5 (w := w) (F := F)) ?_) | ((with_reducible show zC9 _ _ _ _ _ _ _ _); refine zW rfl rfl (by decide) (by decide) (by first | (simp [-qt, -qd, -ql, rgs, hw, wldV, zeroC]; done) | (simp [-qt, -qd, -ql, rgs, hw, wldV, zeroC]; rfl)) (by first | (simp [-qt, -qd, -ql, rgs, hw, wldV, zeroC]; done) | (simp [-qt, -qd, -ql, rgs, hw, wldV, zeroC]; rfl)) (by first | (simp; done) | (simp; omega)) (by first | (simp only [yK, LIM] at *; simp; omega) | (simp only [yK]; simp; omega)) (by simp [iv, bv]) ?_)) <;> simp [-qt, -qd, -ql, rgs, hw, wldV, zeroC]) | ((first | (with_reducible refine zA ?_ ?_)) <;> intro qb <;> (have qp := qb; try simp only [psq] at qp) <;> simp [-qt, -qd, -ql, rgs, hw, wldV, zeroC, qb])
end Go.AE.Tryz
end

section
/- The law of functions that are started: what the program and the reference make of a world is the same, in memory of its own. -/
set_option linter.unusedSimpArgs false
set_option linter.unusedVariables false
set_option maxRecDepth 8000
set_option maxHeartbeats 4000000
namespace Go.AE.Tryz
open Go.Proofs
open List renaming map_take → qt, map_drop → qd, map_tail → ql
theorem w_StartIn2 {F : Nat → Bool} {w : Wld} (hs : zC4 w ≤ 1048576) : WC ctx.P 42 [.agg (wldV F w)] (fun X => .tup [.agg (zD6 X (goW w)), .bool (goB w)]) (goW w) := by
  have := w_StartIn (F := F) hs
  rw [(start_ask (w := w)).1, (start_ask (w := w)).2] at this
  exact this
theorem start_sz {w : Wld} (hs : zC4 w ≤ 1048576) : zC4 (goW w) ≤ 1048576 := by
  unfold goW; split
  · unfold uZ; split
    · rename_i i hg
      have hi : i < w.afters.list.length := by
        unfold goAt at hg
        rw [List.findIdx?_eq_some_iff_getElem] at hg
        exact hg.1
      simp only [zC4, afssz, tmssz, sprsz, sltsz, goA, zL8, List.length_set, List.length_eraseIdx, if_pos hi] at hs ⊢
      split
      · simp only [List.length_append, List.length_singleton]; omega
      · omega
    · exact hs
  · decide
theorem law_StartIn {w : Wld} : PC ctx.P 12 [.agg (wldV (fun _ => true) w)] (.bool true) := by
  by_cases hs : zC4 w ≤ 1048576
  · have e : szR (zC4 w) 1048576 = 1048576 - zC4 w := by rcases uQ (zC4 w) 1048576 with q | q <;> omega
    have hs2 := start_sz hs
    have hcB : ∀ (F : Nat → Bool), WC ctx.P 42 [.agg (wldV F w)] (fun X => .tup [.agg (zD6 X (goW w)), .bool (goB w)]) (goW w) := fun F => w_StartIn2 hs
    have hcS := s_StartIn (F := fun _ => true) hs
    generalize goW w = W at *
    generalize goB w = B at *
    refine PC.o okC Tryz.func12 rfl (.bool _) fun h nx hnx => ?_
    try simp [-qt, -qd, -ql, rgs, e, yS, vL, yT]
    repeat' first | done | ((first | ((with_reducible show zG _ _ _ 15 _ _); refine zD (c_szWorld (s := w) (F := fun _ => true) (by omega) (by omega)) ?_) | (with_reducible refine zI (i := 10) [(0, [], []), (1, [], []), (2, [.tmp 6], []), (3, [], []), (4, [], [])] (by kernel_rfl) ?_)) <;> simp [-qt, -qd, -ql, rgs, e, yS, vL, yT]) | ((first | (with_reducible refine zE ?_ ?_) | (with_reducible refine zA ?_ ?_)) <;> intro qb <;> (have qp := qb; try simp only [psq] at qp) <;> simp [-qt, -qd, -ql, rgs, e, yS, vL, yT, qb])
    all_goals first | omega | skip
    refine zD (s_toWorld (s := w) (F := fun _ => true) hs) ?_
    try simp [-qt, -qd, -ql, rgs, yS, vL, yT]
    repeat' first | done | ((first | (refine zD (hcS) ?_) | (with_reducible refine zI (i := 10) [(0, [], []), (1, [], []), (2, [.tmp 6], []), (3, [], []), (4, [], [])] (by kernel_rfl) ?_)) <;> simp [-qt, -qd, -ql, rgs, yS, vL, yT]) | ((first | (with_reducible refine zE ?_ ?_) | (with_reducible refine zA ?_ ?_)) <;> intro qb <;> (have qp := qb; try simp only [psq] at qp) <;> simp [-qt, -qd, -ql, rgs, yS, vL, yT, qb])
    refine vB (w_toWorld (F := fun _ => true) hs) trivial ?_
    rintro r h1 n1 ⟨hK1, X, rfl, V1, hid1⟩ hle1 hfr1
    dsimp only at hK1 hid1 hle1
    try simp [-qt, -qd, -ql, rgs, zO X w, yG, zZ]
    repeat' first | done | ((first | (with_reducible refine zI (i := 10) [(0, [], []), (1, [], []), (2, [.tmp 6], []), (3, [], []), (4, [], [])] (by kernel_rfl) ?_)) <;> simp [-qt, -qd, -ql, rgs, zO X w, yG, zZ]) | ((first | (with_reducible refine zE ?_ ?_) | (with_reducible refine zA ?_ ?_)) <;> intro qb <;> (have qp := qb; try simp only [psq] at qp) <;> simp [-qt, -qd, -ql, rgs, zO X w, yG, zZ, qb])
    refine call_wcB (hcB FF) (fun X => rrW_cl X W B) ?hb ?_
    case hb => exact .cons (.agg1 (V1.keep fun id hid => by have := hid1 id hid; dsimp only; repeat rw [zJ _ _ _ _ (by omega)]).bors) .nil
    intro X2 h2 n2 V2 hid2 hle2 hf2
    dsimp only at hid2 hle2 hf2
    have nX2 : ∀ j, j < n1 + 8 ∨ n2 ≤ j → j ∉ X2.ids := fun j hj hm => by have := hid2 j hm; omega
    have oS2 : h2 (nx + 15) = some (.obj (wldV (fun _ => true) W)) := by
      rw [hf2 _ (nX2 _ (by omega))]
      repeat rw [zJ _ _ _ _ (by omega)]
      rw [hK1 _ (by omega), zL]
    have n16 : (nx + 15 = n1 + 5) = False := by simp only [eq_iff_iff, iff_false]; omega
    try simp [-qt, -qd, -ql, rgs, n16, oS2, yS, vL, yT, zO X2 W, yG, zZ]
    repeat' first | done | ((first | (with_reducible refine zI (i := 10) [(0, [], []), (1, [], []), (2, [.tmp 6], []), (3, [], []), (4, [], [])] (by kernel_rfl) ?_)) <;> simp [-qt, -qd, -ql, rgs, n16, oS2, yS, vL, yT, zO X2 W, yG, zZ]) | ((first | (with_reducible refine zE ?_ ?_) | (with_reducible refine zA ?_ ?_)) <;> intro qb <;> (have qp := qb; try simp only [psq] at qp) <;> simp [-qt, -qd, -ql, rgs, n16, oS2, yS, vL, yT, zO X2 W, yG, zZ, qb])
    generalize hH : upd (upd h2 (n1 + 5) _) (n1 + 5) (some (Ent.obj (zD6 X2 W))) = H3
    have hX : ∀ j ∈ X.ids, nx + 22 ≤ j ∧ j < n1 := hid1
    have hX2 : ∀ j ∈ X2.ids, n1 + 8 ≤ j ∧ j < n2 := hid2
    have nX : ∀ j, j < nx + 22 ∨ n1 ≤ j → j ∉ X.ids := fun j hj hm => by have := hX j hm; omega
    have V3 : WV H3 X w := hH ▸ (V1.keep fun id hid => by have := hX id hid; (repeat rw [zJ _ _ _ _ (by omega)]); rw [hf2 id (nX2 _ (by omega))]; repeat rw [zJ _ _ _ _ (by omega)])
    have G3 : WV H3 X2 W := hH ▸ (V2.keep fun id hid => by have := hX2 id hid; repeat rw [zJ _ _ _ _ (by omega)])
    have oG3 : H3 (n1 + 5) = some (.obj (zD6 X2 W)) := by rw [← hH, zL]
    have oX3 : H3 (nx + 20) = some (.obj (zD6 X w)) := by
      rw [← hH]
      repeat rw [zJ _ _ _ _ (by omega)]
      rw [hf2 _ (nX2 _ (by omega)), zL]
    have oS3 : H3 (nx + 15) = some (.obj (wldV (fun _ => true) W)) := by
      rw [← hH]
      repeat rw [zJ _ _ _ _ (by omega)]
      rw [hf2 _ (nX2 _ (by omega))]
      repeat rw [zJ _ _ _ _ (by omega)]
      rw [hK1 _ (by omega), zL]
    have oA3 : H3 nx = some (.obj (wldV (fun _ => true) w)) := by
      rw [← hH]
      repeat rw [zJ _ _ _ _ (by omega)]
      rw [hf2 _ (nX2 _ (by omega))]
      repeat rw [zJ _ _ _ _ (by omega)]
      rw [hK1 _ (by omega)]
      repeat rw [zJ _ _ _ _ (by omega)]
      rw [zL]
    have K3 : KeepB nx H3 h := fun j hj => by
      rw [← hH]
      repeat rw [zJ _ _ _ _ (by omega)]
      rw [hf2 _ (nX2 _ (by omega))]
      repeat rw [zJ _ _ _ _ (by omega)]
      rw [hK1 _ (by omega)]
      repeat rw [zJ _ _ _ _ (by omega)]
    clear hH hf2 hK1 V1 V2 hid1 hid2
    refine yQ (zL2 (x := W) (y := W) (F1 := FF) (F2 := fun _ => true)) (.bool _) ?hb3 ?_
    case hb3 => exact .cons (.agg1 G3.bors) (.cons (.same _) .nil)
    try simp [-qt, -qd, -ql, rgs, oG3, oS3, oX3, oA3, yS, vL, yT, zO X w, zO X2 W, yG, zZ]
    repeat' first | done | ((first | ((with_reducible show zG _ _ _ 17 _ _); refine zD (s_toWorld (s := w) (F := fun _ => true) hs) ?_) | (with_reducible refine zI (i := 10) [(0, [], []), (1, [], []), (2, [.tmp 6], []), (3, [], []), (4, [], [])] (by kernel_rfl) ?_)) <;> simp [-qt, -qd, -ql, rgs, oG3, oS3, oX3, oA3, yS, vL, yT, zO X w, zO X2 W, yG, zZ]) | ((first | (with_reducible refine zE ?_ ?_) | (with_reducible refine zA ?_ ?_)) <;> intro qb <;> (have qp := qb; try simp only [psq] at qp) <;> simp [-qt, -qd, -ql, rgs, oG3, oS3, oX3, oA3, yS, vL, yT, zO X w, zO X2 W, yG, zZ, qb])
    refine yQ (zL2 (x := w) (y := w) (F1 := FF) (F2 := fun _ => true)) (.bool _) ?hb4 ?_
    case hb4 => exact .cons (.agg1 V3.bors) (.cons (.same _) .nil)
    try simp [-qt, -qd, -ql, rgs, oX3, yS, vL, yT, zO X w, zO X2 W, yG, zZ]
    repeat' first | done | ((first | (with_reducible refine zI (i := 10) [(0, [], []), (1, [], []), (2, [.tmp 6], []), (3, [], []), (4, [], [])] (by kernel_rfl) ?_)) <;> simp [-qt, -qd, -ql, rgs, oX3, yS, vL, yT, zO X w, zO X2 W, yG, zZ]) | ((first | (with_reducible refine zE ?_ ?_) | (with_reducible refine zA ?_ ?_)) <;> intro qb <;> (have qp := qb; try simp only [psq] at qp) <;> simp [-qt, -qd, -ql, rgs, oX3, yS, vL, yT, zO X w, zO X2 W, yG, zZ, qb])
    refine vB (m_markWorld (X := X) (w := w) (k := 1) hs (by omega) (by omega)) V3 ?_
    rintro r H4 n4 ⟨rfl, V4, f4⟩ hle4 hfr4
    dsimp only at V4 f4 hle4
    have oG4 := f4 (n1 + 5) (by omega) (nX _ (by omega))
    have oS4 := f4 (nx + 15) (by omega) (nX _ (by omega))
    have oA4 := f4 nx (by omega) (nX _ (by omega))
    rw [oG3] at oG4
    rw [oS3] at oS4
    rw [oA3] at oA4
    have G4 : WV H4 X2 W := G3.keep fun id hid => f4 id (by have := hX2 id hid; omega) (nX _ (by have := hX2 id hid; omega))
    have K4 : KeepB nx H4 h := fun j hj => by rw [f4 j (by omega) (nX _ (by omega)), K3 j hj]
    have z4 : (kZ w 1 < 0) = False := by
      simp only [eq_iff_iff, iff_false]
      simp only [kZ, kR, kB, kV, kG, kK, kF, kU, kA, kL, kH, kW, kS, kE, kT]; omega
    clear hfr4
    try simp [-qt, -qd, -ql, rgs, z4, oG4, oS4, yS, vL, yT, zO X w, zO X2 W, yG, zZ]
    repeat' first | done | ((first | (with_reducible refine zI (i := 10) [(0, [], []), (1, [], []), (2, [.tmp 6], []), (3, [], []), (4, [], [])] (by kernel_rfl) ?_)) <;> simp [-qt, -qd, -ql, rgs, z4, oG4, oS4, yS, vL, yT, zO X w, zO X2 W, yG, zZ]) | ((first | (with_reducible refine zE ?_ ?_) | (with_reducible refine zA ?_ ?_)) <;> intro qb <;> (have qp := qb; try simp only [psq] at qp) <;> simp [-qt, -qd, -ql, rgs, z4, oG4, oS4, yS, vL, yT, zO X w, zO X2 W, yG, zZ, qb])
    refine yQ (zL2 (x := W) (y := W) (F1 := FF) (F2 := fun _ => true)) (.bool _) ?hb5 ?_
    case hb5 => exact .cons (.agg1 G4.bors) (.cons (.same _) .nil)
    try simp [-qt, -qd, -ql, rgs, z4, oG4, oS4, yS, vL, yT, zO X w, zO X2 W, yG, zZ]
    repeat' first | done | ((first | (with_reducible refine zI (i := 10) [(0, [], []), (1, [], []), (2, [.tmp 6], []), (3, [], []), (4, [], [])] (by kernel_rfl) ?_)) <;> simp [-qt, -qd, -ql, rgs, z4, oG4, oS4, yS, vL, yT, zO X w, zO X2 W, yG, zZ]) | ((first | (with_reducible refine zE ?_ ?_) | (with_reducible refine zA ?_ ?_)) <;> intro qb <;> (have qp := qb; try simp only [psq] at qp) <;> simp [-qt, -qd, -ql, rgs, z4, oG4, oS4, yS, vL, yT, zO X w, zO X2 W, yG, zZ, qb])
    refine vB (m_markWorld (X := X2) (w := W) (k := 1) hs2 (by omega) (by omega)) G4 ?_
    rintro r H5 n5 ⟨rfl, G5, f5⟩ hle5 hfr5
    dsimp only at G5 f5 hle5
    have oG5 := f5 (n1 + 5) (by omega) (nX2 _ (by omega))
    have oS5 := f5 (nx + 15) (by omega) (nX2 _ (by omega))
    have oA5 := f5 nx (by omega) (nX2 _ (by omega))
    rw [oG4] at oG5
    rw [oS4] at oS5
    rw [oA4] at oA5
    have K5 : KeepB nx H5 h := fun j hj => by rw [f5 j (by omega) (nX2 _ (by omega)), K4 j hj]
    have z5 : (kZ W 1 < 0) = False := by
      simp only [eq_iff_iff, iff_false]
      simp only [kZ, kR, kB, kV, kG, kK, kF, kU, kA, kL, kH, kW, kS, kE, kT]; omega
    clear hfr5
    try simp [-qt, -qd, -ql, rgs, z5, oG5, yS, vL, yT, zO X w, zO X2 W, yG, zZ]
    repeat' first | done | ((first | (with_reducible refine zI (i := 10) [(0, [], []), (1, [], []), (2, [.tmp 6], []), (3, [], []), (4, [], [])] (by kernel_rfl) ?_)) <;> simp [-qt, -qd, -ql, rgs, z5, oG5, yS, vL, yT, zO X w, zO X2 W, yG, zZ]) | ((first | (with_reducible refine zE ?_ ?_) | (with_reducible refine zA ?_ ?_)) <;> intro qb <;> (have qp := qb; try simp only [psq] at qp) <;> simp [-qt, -qd, -ql, rgs, z5, oG5, yS, vL, yT, zO X w, zO X2 W, yG, zZ, qb])
    refine yQ (h_heldWorld (F := FF) (w := W) (k := 1) hs2 (by omega) (by omega)) (.int _ _) ?hb6 ?_
    case hb6 => exact .cons (.agg1 (wldR_mk X2 W 1 ▸ G5.bors)) (.cons (.same _) .nil)
    try simp [-qt, -qd, -ql, rgs, z5, oA5, yS, vL, yT, zO X w, zO X2 W, yG, zZ]
    repeat' first | done | ((first | ((with_reducible show zG _ _ _ 17 _ _); refine zD (s_toWorld (s := w) (F := fun _ => true) hs) ?_) | (with_reducible refine zI (i := 10) [(0, [], []), (1, [], []), (2, [.tmp 6], []), (3, [], []), (4, [], [])] (by kernel_rfl) ?_)) <;> simp [-qt, -qd, -ql, rgs, z5, oA5, yS, vL, yT, zO X w, zO X2 W, yG, zZ]) | ((first | (with_reducible refine zE ?_ ?_) | (with_reducible refine zA ?_ ?_)) <;> intro qb <;> (have qp := qb; try simp only [psq] at qp) <;> simp [-qt, -qd, -ql, rgs, z5, oA5, yS, vL, yT, zO X w, zO X2 W, yG, zZ, qb])
    refine call_wc (hcB _) ?_
    intro X6 H6 n6 V6 hid6 hle6 f6
    dsimp only at hid6 hle6 f6
    have nX6 : ∀ j, j < n5 → j ∉ X6.ids := fun j hj hm => by have := hid6 j hm; omega
    have oG6 := f6 (n1 + 5) (nX6 _ (by omega))
    have oS6 := f6 (nx + 15) (nX6 _ (by omega))
    rw [oG5] at oG6
    rw [oS5] at oS6
    have G6 : WV H6 X2 (mkWld W 1) := G5.keep fun id hid => f6 id (nX6 _ (by have := hX2 id hid; omega))
    have K6 : KeepB nx H6 h := fun j hj => by rw [f6 j (nX6 _ (by omega)), K5 j hj]
    have n17 : (nx + 15 = n5 + 16) = False := by simp only [eq_iff_iff, iff_false]; omega
    have m18 : ∀ k, (n1 = n5 + k) = False := fun k => by simp only [eq_iff_iff, iff_false]; omega
    have m19 : ∀ k, (nx = n5 + k) = False := fun k => by simp only [eq_iff_iff, iff_false]; omega
    have m17 : (n1 + 5 = n5 + 16) = False := by simp only [eq_iff_iff, iff_false]; omega
    try simp [-qt, -qd, -ql, rgs, n17, m17, m18, m19, z5, oG6, oS6, zO X6 W, yS, vL, yT, zO X2 W, yG, zZ]
    repeat' first | done | ((first | (with_reducible refine zI (i := 10) [(0, [], []), (1, [], []), (2, [.tmp 6], []), (3, [], []), (4, [], [])] (by kernel_rfl) ?_)) <;> simp [-qt, -qd, -ql, rgs, n17, m17, m18, m19, z5, oG6, oS6, zO X6 W, yS, vL, yT, zO X2 W, yG, zZ]) | ((first | (with_reducible refine zE ?_ ?_) | (with_reducible refine zA ?_ ?_)) <;> intro qb <;> (have qp := qb; try simp only [psq] at qp) <;> simp [-qt, -qd, -ql, rgs, n17, m17, m18, m19, z5, oG6, oS6, zO X6 W, yS, vL, yT, zO X2 W, yG, zZ, qb])
    refine yQ (zL2 (x := W) (y := W) (F1 := FF) (F2 := fun _ => true)) (.bool _) ?hb7 ?_
    case hb7 => exact .cons (.agg1 (V6.keep fun id hid => by have := hid6 id hid; dsimp only; repeat rw [zJ _ _ _ _ (by omega)]).bors) (.cons (.same _) .nil)
    try simp [-qt, -qd, -ql, rgs, n17, m17, m18, m19, z5, oG6, oS6, zO X6 W, yS, vL, yT, zO X2 W, yG, zZ]
    repeat' first | done | ((first | (with_reducible refine zI (i := 10) [(0, [], []), (1, [], []), (2, [.tmp 6], []), (3, [], []), (4, [], [])] (by kernel_rfl) ?_)) <;> simp [-qt, -qd, -ql, rgs, n17, m17, m18, m19, z5, oG6, oS6, zO X6 W, yS, vL, yT, zO X2 W, yG, zZ]) | ((first | (with_reducible refine zE ?_ ?_) | (with_reducible refine zA ?_ ?_)) <;> intro qb <;> (have qp := qb; try simp only [psq] at qp) <;> simp [-qt, -qd, -ql, rgs, n17, m17, m18, m19, z5, oG6, oS6, zO X6 W, yS, vL, yT, zO X2 W, yG, zZ, qb])
    refine yQ (h_heldWorld (F := FF) (w := W) (k := 1) hs2 (by omega) (by omega)) (.int _ _) ?hb8 ?_
    case hb8 => exact .cons (.agg1 (wldR_mk X2 W 1 ▸ (G6.keep fun id hid => by have := hX2 id hid; dsimp only; repeat rw [zJ _ _ _ _ (by omega)]).bors)) (.cons (.same _) .nil)
    try simp [-qt, -qd, -ql, rgs, z5]
    repeat' first | done | ((first | (with_reducible refine zI (i := 10) [(0, [], []), (1, [], []), (2, [.tmp 6], []), (3, [], []), (4, [], [])] (by kernel_rfl) ?_)) <;> simp [-qt, -qd, -ql, rgs, z5]) | ((first | (with_reducible refine zE ?_ ?_) | (with_reducible refine zA ?_ ?_)) <;> intro qb <;> (have qp := qb; try simp only [psq] at qp) <;> simp [-qt, -qd, -ql, rgs, z5, qb])
    exact zK4 (by omega) (zK4 (by omega) K6)
  · have e : szR (zC4 w) 1048576 = -1 := by rcases uQ (zC4 w) 1048576 with q | q <;> omega
    refine PC.o okC Tryz.func12 rfl (.bool _) fun h nx hnx => ?_
    try simp [-qt, -qd, -ql, rgs, e]
    repeat' first | done | ((first | ((with_reducible show zG _ _ _ 15 _ _); refine zD (c_szWorld (s := w) (F := fun _ => true) (by omega) (by omega)) ?_) | (with_reducible refine zI (i := 10) [(0, [], []), (1, [], []), (2, [.tmp 6], []), (3, [], []), (4, [], [])] (by kernel_rfl) ?_)) <;> simp [-qt, -qd, -ql, rgs, e]) | ((first | (with_reducible refine zE ?_ ?_) | (with_reducible refine zA ?_ ?_)) <;> intro qb <;> (have qp := qb; try simp only [psq] at qp) <;> simp [-qt, -qd, -ql, rgs, e, qb])
end Go.AE.Tryz
end
