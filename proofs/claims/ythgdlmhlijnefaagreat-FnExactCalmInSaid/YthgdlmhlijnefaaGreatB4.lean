/- Contracts of the seat's functions: what each answers, for all arguments. -/
import Derived.Test.YthgdlmhlijnefaaGreatB3
import Derived.Test.YthgdlmhlijnefaaGreatB2
section
/- Contracts of the reference's picks. -/
set_option linter.unusedSimpArgs false
set_option linter.unusedVariables false
set_option maxRecDepth 8000
set_option maxHeartbeats 4000000
namespace Go.AE.Tryz
open Go.Proofs

-- spec.ReadyIn
theorem s_ReadyIn {p : Bool} {l : List Tsk} (ht : tasksOk l = true) : PC ctx.P 94 [.view p 9 (l.map tskC)] (.view true 1 ((readyIn l).map iv)) := by
  refine PC.lim (n := l.length) (x := .view p 9 (l.map tskC)) (by simp) (.here (by simp)) ⟨_, Tryz.func94, by kernel_rfl, by kernel_rfl⟩ fun hlim => ?_
  have hl60 := tasksOk_len ht
  refine PC.of okC Tryz.func94 rfl rfl (by kernel_rfl) (Nat.le_of_ble_eq_true rfl) (.vmap iv_fz) fun h nx hnx => ?_
  show goC ctx _ _ (.fin (RetP _ _ _ _ _))
  try simp [-List.map_take, -List.map_drop, -List.map_tail, run_guard, run_guardD, resultsA, resA, Nat.add_assoc, ht]
  repeat'
    first
    | done
    | ((first
        | ((with_reducible show lenS _ _ _ _ _ _); refine lenS_slice rfl fun _ => ?_)
        | ((with_reducible show iaddrS _ _ _ _ _ _ _); refine iaddr_map rfl (by first | omega | (simp; done) | (simp; omega) | (simp [inR, isIn] at *; done) | (simp [inR, isIn] at *; omega)) (by first | omega | (simp; done) | (simp; omega) | (simp [inR, isIn] at *; done) | (simp [inR, isIn] at *; omega)) ?_)
        | ((with_reducible show doCall _ _ _ 207 _ _); refine call_pc (s_TasksOk) ?_)
        | ((with_reducible show appS _ _ _ _ _ _ _ _); refine app_end rfl rfl (by decide) (by decide) (by first | (simp [-List.map_take, -List.map_drop, -List.map_tail, run_guard, run_guardD, resultsA, resA, Nat.add_assoc, ht]; done) | (simp [-List.map_take, -List.map_drop, -List.map_tail, run_guard, run_guardD, resultsA, resA, Nat.add_assoc, ht]; rfl)) (by first | (simp [-List.map_take, -List.map_drop, -List.map_tail, run_guard, run_guardD, resultsA, resA, Nat.add_assoc, ht]; done) | (simp [-List.map_take, -List.map_drop, -List.map_tail, run_guard, run_guardD, resultsA, resA, Nat.add_assoc, ht]; rfl)) (by first | (simp; done) | (simp; omega)) (by first | (simp only [MLIM, LIM] at *; simp; omega) | (simp only [MLIM]; simp; omega)) (by simp [iv, bv]) ?_)) <;> simp [-List.map_take, -List.map_drop, -List.map_tail, run_guard, run_guardD, resultsA, resA, Nat.add_assoc, ht])
    | ((first | (with_reducible refine condS_split ?_ ?_)) <;> intro qb <;> (have qp := qb; try simp only [psq] at qp) <;> simp [-List.map_take, -List.map_drop, -List.map_tail, run_guard, run_guardD, resultsA, resA, Nat.add_assoc, ht, qb])
  refine go_upP (h0 := h) (nx0 := nx) [3, 4, 10, 11, 12, 13, 14, 15, 16, 17, 18, 19, 20, 21, 22, 23, 24, 25] (l.length) (fun (i : Nat) a => [(4, .int .i64 i), (3, .ref a.1 1 0 a.2.length)]) (fun (i : Nat) (a : Nat × List Int) h' n' => nx ≤ a.1 ∧ a.1 < n' ∧ h' a.1 = some (.row 1 (a.2.map iv)) ∧ a.2.length ≤ i ∧ a.2 ++ pickI (fun _ t => t.state == 0) (fun i _ => i) (l.drop i) i = readyIn l) ((nx + 1, [])) (by simp) ?_ (by repeat' first | exact hE2 | exact hK2 | exact hE | exact hK | exact keep_rfl | refine keep_upd_of (by omega) ?_ | refine KeepB.sub hE2 ?_ (by omega)) (by omega) ?_
  · simp [readyIn, iv]
  · intro i a tm h' n' hle hJ hE hn' next hnx
    try dsimp only at hJ
    have hK : KeepB nx h' h := KeepB.sub hE (by repeat' first | exact hE2 | exact hK2 | exact hE | exact hK | exact keep_rfl | refine keep_upd_of (by omega) ?_ | refine KeepB.sub hE2 ?_ (by omega)) (by omega)
    simp [-List.map_take, -List.map_drop, -List.map_tail]
    obtain ⟨id, acc⟩ := a
    obtain ⟨g0, g1, g2, g3, hJ⟩ := hJ
    dsimp only at g0 g1 g2 g3 hJ ⊢
    have k1 : ∀ k, (id = n' + k) = False := fun k => by simp only [eq_iff_iff, iff_false]; omega
    by_cases hi : i < l.length
    · have hn := ready_rest hi hJ
      try simp [-List.map_take, -List.map_drop, -List.map_tail, run_guard, run_guardD, resultsA, resA, Nat.add_assoc, tskC, iv, g2, k1, i64_ok (x := (i : Int)) (by omega)]
      repeat'
        first
        | done
        | ((first
            | ((with_reducible show lenS _ _ _ _ _ _); refine lenS_slice rfl fun _ => ?_)
            | ((with_reducible show iaddrS _ _ _ _ _ _ _); refine iaddr_map rfl (by first | omega | (simp; done) | (simp; omega) | (simp [inR, isIn] at *; done) | (simp [inR, isIn] at *; omega)) (by first | omega | (simp; done) | (simp; omega) | (simp [inR, isIn] at *; done) | (simp [inR, isIn] at *; omega)) ?_)
            | ((with_reducible show appS _ _ _ _ _ _ _ _); refine app_end rfl rfl (by decide) (by decide) (by first | (simp [-List.map_take, -List.map_drop, -List.map_tail, run_guard, run_guardD, resultsA, resA, Nat.add_assoc, tskC, iv, g2, k1, i64_ok (x := (i : Int)) (by omega)]; done) | (simp [-List.map_take, -List.map_drop, -List.map_tail, run_guard, run_guardD, resultsA, resA, Nat.add_assoc, tskC, iv, g2, k1, i64_ok (x := (i : Int)) (by omega)]; rfl)) (by first | (simp [-List.map_take, -List.map_drop, -List.map_tail, run_guard, run_guardD, resultsA, resA, Nat.add_assoc, tskC, iv, g2, k1, i64_ok (x := (i : Int)) (by omega)]; done) | (simp [-List.map_take, -List.map_drop, -List.map_tail, run_guard, run_guardD, resultsA, resA, Nat.add_assoc, tskC, iv, g2, k1, i64_ok (x := (i : Int)) (by omega)]; rfl)) (by first | (simp; done) | (simp; omega)) (by first | (simp only [MLIM, LIM] at *; simp; omega) | (simp only [MLIM]; simp; omega)) (by simp [iv, bv]) ?_)) <;> simp [-List.map_take, -List.map_drop, -List.map_tail, run_guard, run_guardD, resultsA, resA, Nat.add_assoc, tskC, iv, g2, k1, i64_ok (x := (i : Int)) (by omega)])
        | ((first | (with_reducible refine condS_split ?_ ?_)) <;> intro qb <;> (have qp := qb; try simp only [psq] at qp) <;> simp [-List.map_take, -List.map_drop, -List.map_tail, run_guard, run_guardD, resultsA, resA, Nat.add_assoc, tskC, iv, g2, k1, i64_ok (x := (i : Int)) (by omega), qb])
      all_goals first
      | (rw [if_pos (by assumption)] at hn
         refine hnx.go (n' + 13, acc ++ [(i : Int)]) (by omega) (by simp [wrap_succ hi hlim]) (by simp) (by repeat' first | exact hE2 | exact hK2 | exact hE | exact hK | exact keep_rfl | refine keep_upd_of (by omega) ?_ | refine KeepB.sub hE2 ?_ (by omega)) (by first | omega | (simp; omega)) ?_
         dsimp only
         exact ⟨by omega, by omega, by simp [iv], by simp; omega, hn⟩)
      | (rw [if_neg (by simp_all)] at hn
         refine hnx.go (id, acc) (by omega) (by simp [wrap_succ hi hlim]) (by simp) (by repeat' first | exact hE2 | exact hK2 | exact hE | exact hK | exact keep_rfl | refine keep_upd_of (by omega) ?_ | refine KeepB.sub hE2 ?_ (by omega)) (by first | omega | (simp; omega)) ?_
         dsimp only
         exact ⟨by omega, by omega, by simp [g2, k1], by omega, hn⟩)
      | omega
      | trace_state
    · have hi2 : ¬ ((i : Int) < l.length) := by omega
      rw [List.drop_eq_nil_of_le (by omega), pickI_nil, List.append_nil] at hJ
      subst hJ
      try simp [-List.map_take, -List.map_drop, -List.map_tail, run_guard, run_guardD, resultsA, resA, Nat.add_assoc, iv, g2, k1, hi, hi2]
      repeat'
        first
        | done
        | ((first
            | ((with_reducible show lenS _ _ _ _ _ _); refine lenS_slice rfl fun _ => ?_)
            | ((with_reducible show iaddrS _ _ _ _ _ _ _); refine iaddr_map rfl (by first | omega | (simp; done) | (simp; omega) | (simp [inR, isIn] at *; done) | (simp [inR, isIn] at *; omega)) (by first | omega | (simp; done) | (simp; omega) | (simp [inR, isIn] at *; done) | (simp [inR, isIn] at *; omega)) ?_)
            | ((with_reducible show appS _ _ _ _ _ _ _ _); refine app_end rfl rfl (by decide) (by decide) (by first | (simp [-List.map_take, -List.map_drop, -List.map_tail, run_guard, run_guardD, resultsA, resA, Nat.add_assoc, iv, g2, k1, hi, hi2]; done) | (simp [-List.map_take, -List.map_drop, -List.map_tail, run_guard, run_guardD, resultsA, resA, Nat.add_assoc, iv, g2, k1, hi, hi2]; rfl)) (by first | (simp [-List.map_take, -List.map_drop, -List.map_tail, run_guard, run_guardD, resultsA, resA, Nat.add_assoc, iv, g2, k1, hi, hi2]; done) | (simp [-List.map_take, -List.map_drop, -List.map_tail, run_guard, run_guardD, resultsA, resA, Nat.add_assoc, iv, g2, k1, hi, hi2]; rfl)) (by first | (simp; done) | (simp; omega)) (by first | (simp only [MLIM, LIM] at *; simp; omega) | (simp only [MLIM]; simp; omega)) (by simp [iv, bv]) ?_)) <;> simp [-List.map_take, -List.map_drop, -List.map_tail, run_guard, run_guardD, resultsA, resA, Nat.add_assoc, iv, g2, k1, hi, hi2])
        | ((first | (with_reducible refine condS_split ?_ ?_)) <;> intro qb <;> (have qp := qb; try simp only [psq] at qp) <;> simp [-List.map_take, -List.map_drop, -List.map_tail, run_guard, run_guardD, resultsA, resA, Nat.add_assoc, iv, g2, k1, hi, hi2, qb])
      exact ⟨by rw [List.take_of_length_le (by simp)], (by repeat' first | exact hE2 | exact hK2 | exact hE | exact hK | exact keep_rfl | refine keep_upd_of (by omega) ?_ | refine KeepB.sub hE2 ?_ (by omega))⟩
-- spec.NextDue
theorem s_NextDue {F : Nat → Bool} {t : Tms} (ht : tmsOk t = true) : PC ctx.P 95 [.agg (tmsV F t)] (.int .i64 (nextDue t)) := by
  refine PC.of okC Tryz.func95 rfl rfl (by kernel_rfl) (Nat.le_of_ble_eq_true rfl) (.int _ _) fun h nx hnx => ?_
  show goC ctx _ _ (.fin (RetP _ _ _ _ _))
  try simp [-List.map_take, -List.map_drop, -List.map_tail, run_guard, run_guardD, resultsA, resA, Nat.add_assoc, tmsV, twgC, ht]
  repeat'
    first
    | done
    | ((first
        | ((with_reducible show lenS _ _ _ _ _ _); refine lenS_slice rfl fun _ => ?_)
        | ((with_reducible show iaddrS _ _ _ _ _ _ _); refine iaddr_map rfl (by first | omega | (simp; done) | (simp; omega) | (simp [inR, isIn] at *; done) | (simp [inR, isIn] at *; omega)) (by first | omega | (simp; done) | (simp; omega) | (simp [inR, isIn] at *; done) | (simp [inR, isIn] at *; omega)) ?_)
        | ((with_reducible show doCall _ _ _ 208 _ _); refine call_pc (s_TimersOk (t := t) (F := F)) ?_)) <;> simp [-List.map_take, -List.map_drop, -List.map_tail, run_guard, run_guardD, resultsA, resA, Nat.add_assoc, tmsV, twgC, ht])
    | ((first | (with_reducible refine guardS_split ?_ ?_) | (with_reducible refine condS_split ?_ ?_)) <;> intro qb <;> (have qp := qb; try simp only [psq] at qp) <;> simp [-List.map_take, -List.map_drop, -List.map_tail, run_guard, run_guardD, resultsA, resA, Nat.add_assoc, tmsV, twgC, ht, qb])
  all_goals (clear hnx; simp only [nextDue, never]; first | (rw [if_pos (by omega)]; done) | (rw [if_neg (by omega)]; done) | omega | (simp_all; omega))
-- spec.EnabledIn
theorem s_EnabledIn {F : Nat → Bool} {w : Wld} (hw : wldOk w = true) : PC ctx.P 32 [.agg (wldV F w)] (.view true 2 ((enabled w).map pikC)) := by
  refine PC.lim (n := w.afters.list.length) (x := .agg (wldV F w)) (by simp) (.agg (x := .view (F 10) 5 (w.afters.list.map afrC)) (by simp [wldV]) (.here (by simp))) ⟨_, Tryz.func32, by kernel_rfl, by kernel_rfl⟩ fun hlim => ?_
  have ht := wldOk_tasks hw
  have htm : tmsOk w.timers = true := (wldOk_all hw).2.2.2.2.2.2.1
  have hl60 := tasksOk_len ht
  have hrl := readyIn_len w.tasks
  have hrl2 : (readyIn w.tasks).length ≤ LIM := by simp only [LIM]; omega
  refine PC.of okC Tryz.func32 rfl rfl (by kernel_rfl) (Nat.le_of_ble_eq_true rfl) (.vmap pikC_fz) fun h nx hnx => ?_
  show goC ctx _ _ (.fin (RetP _ _ _ _ _))
  try simp [-List.map_take, -List.map_drop, -List.map_tail, run_guard, run_guardD, resultsA, resA, Nat.add_assoc, wldV, hw]
  repeat'
    first
    | done
    | ((first
        | ((with_reducible show lenS _ _ _ _ _ _); refine lenS_slice rfl fun _ => ?_)
        | ((with_reducible show iaddrS _ _ _ _ _ _ _); refine iaddr_map rfl (by first | omega | (simp; done) | (simp; omega) | (simp [inR, isIn] at *; done) | (simp [inR, isIn] at *; omega)) (by first | omega | (simp; done) | (simp; omega) | (simp [inR, isIn] at *; done) | (simp [inR, isIn] at *; omega)) ?_)
        | ((with_reducible show doCall _ _ _ 57 _ _); refine call_pc (s_WorldOk (w := w) (F := F)) ?_)
        | ((with_reducible show doCall _ _ _ 94 _ _); refine call_pc (s_ReadyIn ht) ?_)
        | ((with_reducible show appS _ _ _ _ _ _ _ _); refine app_end rfl rfl (by decide) (by decide) (by first | (simp [-List.map_take, -List.map_drop, -List.map_tail, run_guard, run_guardD, resultsA, resA, Nat.add_assoc, wldV, hw]; done) | (simp [-List.map_take, -List.map_drop, -List.map_tail, run_guard, run_guardD, resultsA, resA, Nat.add_assoc, wldV, hw]; rfl)) (by first | (simp [-List.map_take, -List.map_drop, -List.map_tail, run_guard, run_guardD, resultsA, resA, Nat.add_assoc, wldV, hw]; done) | (simp [-List.map_take, -List.map_drop, -List.map_tail, run_guard, run_guardD, resultsA, resA, Nat.add_assoc, wldV, hw]; rfl)) (by first | (simp; done) | (simp; omega)) (by first | (simp only [MLIM, LIM] at *; simp; omega) | (simp only [MLIM]; simp; omega)) (by simp [iv, bv]) ?_)
        | (with_reducible refine go_draw (i := 9) [(0, [], []), (1, [], []), (2, [], []), (3, [], []), (4, [.tmp 29], []), (5, [], [])] (by kernel_rfl) ?_)) <;> simp [-List.map_take, -List.map_drop, -List.map_tail, run_guard, run_guardD, resultsA, resA, Nat.add_assoc, wldV, hw])
    | ((first | (with_reducible refine condS_split ?_ ?_)) <;> intro qb <;> (have qp := qb; try simp only [psq] at qp) <;> simp [-List.map_take, -List.map_drop, -List.map_tail, run_guard, run_guardD, resultsA, resA, Nat.add_assoc, wldV, hw, qb])
  refine go_upP (h0 := h) (nx0 := nx) [3, 5, 15, 16, 17, 18, 19, 20, 21, 22, 23, 24, 25, 26, 27, 28] ((readyIn w.tasks).length) (fun (i : Nat) a => [(5, .int .i64 i), (3, .ref a.1 2 0 a.2.length)]) (fun (i : Nat) (a : Nat × List Pik) h' n' => nx < a.1 ∧ a.1 < n' ∧ h' a.1 = some (.row 2 (a.2.map pikC)) ∧ a.2.length ≤ i ∧ h' nx = some (.obj (wldV F w)) ∧ a.2 ++ pkTasks ((readyIn w.tasks).drop i) = pkTasks (readyIn w.tasks)) ((nx + 2, [])) (by simp) ?_ (by repeat' first | exact hE2 | exact hK2 | exact hE | exact hK | exact keep_rfl | refine keep_upd_of (by omega) ?_ | refine KeepB.sub hE2 ?_ (by omega)) (by omega) ?_
  · simp [wldV]
  · intro i a tm h' n' hle hJ hE hn' next hnx
    try dsimp only at hJ
    have hK : KeepB nx h' h := KeepB.sub hE (by repeat' first | exact hE2 | exact hK2 | exact hE | exact hK | exact keep_rfl | refine keep_upd_of (by omega) ?_ | refine KeepB.sub hE2 ?_ (by omega)) (by omega)
    simp [-List.map_take, -List.map_drop, -List.map_tail]
    obtain ⟨id, acc⟩ := a
    obtain ⟨g0, g1, g2, g3, f1, hJ⟩ := hJ
    dsimp only at g0 g1 g2 g3 f1 hJ ⊢
    have k1 : ∀ k, (id = n' + k) = False := fun k => by simp only [eq_iff_iff, iff_false]; omega
    have k2 : ∀ k, (nx = n' + k) = False := fun k => by simp only [eq_iff_iff, iff_false]; omega
    have k3 : (nx = id) = False := by simp only [eq_iff_iff, iff_false]; omega
    by_cases hi : i < (readyIn w.tasks).length
    · try simp [-List.map_take, -List.map_drop, -List.map_tail, run_guard, run_guardD, resultsA, resA, Nat.add_assoc, iv, g2, k1]
      repeat'
        first
        | done
        | ((first
            | ((with_reducible show lenS _ _ _ _ _ _); refine lenS_slice rfl fun _ => ?_)
            | ((with_reducible show iaddrS _ _ _ _ _ _ _); refine iaddr_map rfl (by first | omega | (simp; done) | (simp; omega) | (simp [inR, isIn] at *; done) | (simp [inR, isIn] at *; omega)) (by first | omega | (simp; done) | (simp; omega) | (simp [inR, isIn] at *; done) | (simp [inR, isIn] at *; omega)) ?_)
            | ((with_reducible show appS _ _ _ _ _ _ _ _); refine app_end rfl rfl (by decide) (by decide) (by first | (simp [-List.map_take, -List.map_drop, -List.map_tail, run_guard, run_guardD, resultsA, resA, Nat.add_assoc, iv, g2, k1]; done) | (simp [-List.map_take, -List.map_drop, -List.map_tail, run_guard, run_guardD, resultsA, resA, Nat.add_assoc, iv, g2, k1]; rfl)) (by first | (simp [-List.map_take, -List.map_drop, -List.map_tail, run_guard, run_guardD, resultsA, resA, Nat.add_assoc, iv, g2, k1]; done) | (simp [-List.map_take, -List.map_drop, -List.map_tail, run_guard, run_guardD, resultsA, resA, Nat.add_assoc, iv, g2, k1]; rfl)) (by first | (simp; done) | (simp; omega)) (by first | (simp only [MLIM, LIM] at *; simp; omega) | (simp only [MLIM]; simp; omega)) (by simp [iv, bv]) ?_)
            | (with_reducible refine go_draw (i := 9) [(0, [], []), (1, [], []), (2, [], []), (3, [], []), (4, [.tmp 29], []), (5, [], [])] (by kernel_rfl) ?_)) <;> simp [-List.map_take, -List.map_drop, -List.map_tail, run_guard, run_guardD, resultsA, resA, Nat.add_assoc, iv, g2, k1])
        | ((first | (with_reducible refine condS_split ?_ ?_)) <;> intro qb <;> (have qp := qb; try simp only [psq] at qp) <;> simp [-List.map_take, -List.map_drop, -List.map_tail, run_guard, run_guardD, resultsA, resA, Nat.add_assoc, iv, g2, k1, qb])
      all_goals first
      | omega
      | (refine hnx.go (n' + 11, acc ++ [⟨1, gt (readyIn w.tasks) (i : Int)⟩]) (by omega) (by simp [wrap_succ hi hrl2]) (by simp) (by repeat' first | exact hE2 | exact hK2 | exact hE | exact hK | exact keep_rfl | refine keep_upd_of (by omega) ?_ | refine KeepB.sub hE2 ?_ (by omega)) (by first | omega | (simp; omega)) ?_
         dsimp only
         refine ⟨by omega, by omega, by simp [pikC], by simp; omega, by simp [k2, k3, f1], ?_⟩
         rw [drop_gt hi] at hJ
         rw [← hJ]; simp [pkTasks])
      | trace_state
    · have hi2 : ¬ ((i : Int) < (readyIn w.tasks).length) := by omega
      rw [List.drop_eq_nil_of_le (by omega)] at hJ
      have hacc : acc = pkTasks (readyIn w.tasks) := by rw [← hJ]; simp [pkTasks]
      have hal : acc.length ≤ 60 := by rw [hacc]; simp [pkTasks]; omega
      obtain ⟨m0, hm0⟩ : ∃ m, m = n' := ⟨_, rfl⟩
      subst hm0
      try simp [-List.map_take, -List.map_drop, -List.map_tail, run_guard, run_guardD, resultsA, resA, Nat.add_assoc, wldV, f1, g2, k1, k2, k3, hi, hi2]
      repeat'
        first
        | done
        | ((first
            | ((with_reducible show lenS _ _ _ _ _ _); refine lenS_slice rfl fun _ => ?_)
            | ((with_reducible show iaddrS _ _ _ _ _ _ _); refine iaddr_map rfl (by first | omega | (simp; done) | (simp; omega) | (simp [inR, isIn] at *; done) | (simp [inR, isIn] at *; omega)) (by first | omega | (simp; done) | (simp; omega) | (simp [inR, isIn] at *; done) | (simp [inR, isIn] at *; omega)) ?_)
            | ((with_reducible show doCall _ _ _ 95 _ _); refine call_pc (s_NextDue (t := w.timers) (F := F) htm) ?_)
            | ((with_reducible show doCall _ _ _ 80 _ _); refine call_pc (s_IsDue) ?_)
            | ((with_reducible show appS _ _ _ _ _ _ _ _); refine app_end rfl rfl (by decide) (by decide) (by first | (simp [-List.map_take, -List.map_drop, -List.map_tail, run_guard, run_guardD, resultsA, resA, Nat.add_assoc, wldV, f1, g2, k1, k2, k3, hi, hi2]; done) | (simp [-List.map_take, -List.map_drop, -List.map_tail, run_guard, run_guardD, resultsA, resA, Nat.add_assoc, wldV, f1, g2, k1, k2, k3, hi, hi2]; rfl)) (by first | (simp [-List.map_take, -List.map_drop, -List.map_tail, run_guard, run_guardD, resultsA, resA, Nat.add_assoc, wldV, f1, g2, k1, k2, k3, hi, hi2]; done) | (simp [-List.map_take, -List.map_drop, -List.map_tail, run_guard, run_guardD, resultsA, resA, Nat.add_assoc, wldV, f1, g2, k1, k2, k3, hi, hi2]; rfl)) (by first | (simp; done) | (simp; omega)) (by first | (simp only [MLIM, LIM] at *; simp; omega) | (simp only [MLIM]; simp; omega)) (by simp [iv, bv]) ?_)
            | (with_reducible refine go_draw (i := 9) [(0, [], []), (1, [], []), (2, [], []), (3, [], []), (4, [.tmp 29], []), (5, [], [])] (by kernel_rfl) ?_)) <;> simp [-List.map_take, -List.map_drop, -List.map_tail, run_guard, run_guardD, resultsA, resA, Nat.add_assoc, wldV, f1, g2, k1, k2, k3, hi, hi2])
        | ((first | (with_reducible refine condS_split ?_ ?_)) <;> intro qb <;> (have qp := qb; try simp only [psq] at qp) <;> simp [-List.map_take, -List.map_drop, -List.map_tail, run_guard, run_guardD, resultsA, resA, Nat.add_assoc, wldV, f1, g2, k1, k2, k3, hi, hi2, qb])
      · generalize hid2 : m0 + 23 = id2
        refine go_upP (h0 := h) (nx0 := nx) [2, 6, 48, 49, 50, 51, 52, 53, 54, 55, 56, 57, 58, 59, 60, 61, 62, 63, 64, 65, 66] (w.afters.list.length) (fun (i : Nat) a => [(6, .int .i64 i)]) (fun (i : Nat) (_ : Unit) h' n' => ((w.afters.list.drop i).any (·.queued)) = w.afters.list.any (·.queued) ∧ h' id2 = some (.row 2 ((acc ++ [(⟨2, 0⟩ : Pik), ⟨3, 0⟩]).map pikC)) ∧ h' nx = some (.obj (wldV F w)) ∧ id2 < n') (()) (by simp) ?_ (by repeat' first | exact hE2 | exact hK2 | exact hE | exact hK | exact keep_rfl | refine keep_upd_of (by omega) ?_ | refine KeepB.sub hE2 ?_ (by omega)) (by omega) ?_
        · subst hid2
          simp [wldV, f1, g2, pikC, k2, k3]
        · intro i a tm h' n' hle hJ hE hn' next hnx
          try dsimp only at hJ
          have hK : KeepB nx h' h := KeepB.sub hE (by repeat' first | exact hE2 | exact hK2 | exact hE | exact hK | exact keep_rfl | refine keep_upd_of (by omega) ?_ | refine KeepB.sub hE2 ?_ (by omega)) (by omega)
          simp [-List.map_take, -List.map_drop, -List.map_tail]
          obtain ⟨hJ2, r2, f2, g4⟩ := hJ
          have k4 : ∀ k, (id2 = n' + k) = False := fun k => by simp only [eq_iff_iff, iff_false]; omega
          have k5 : ∀ k, (nx = n' + k) = False := fun k => by simp only [eq_iff_iff, iff_false]; omega
          have k6 : (nx = id2) = False := by simp only [eq_iff_iff, iff_false]; omega
          by_cases hi3 : i < w.afters.list.length
          · try simp [-List.map_take, -List.map_drop, -List.map_tail, run_guard, run_guardD, resultsA, resA, Nat.add_assoc, wldV, afrC, f2, r2, k4, k5, k6, pikC]
            repeat'
              first
              | done
              | ((first
                  | ((with_reducible show lenS _ _ _ _ _ _); refine lenS_slice rfl fun _ => ?_)
                  | ((with_reducible show iaddrS _ _ _ _ _ _ _); refine iaddr_map rfl (by first | omega | (simp; done) | (simp; omega) | (simp [inR, isIn] at *; done) | (simp [inR, isIn] at *; omega)) (by first | omega | (simp; done) | (simp; omega) | (simp [inR, isIn] at *; done) | (simp [inR, isIn] at *; omega)) ?_)
                  | ((with_reducible show appS _ _ _ _ _ _ _ _); refine app_end rfl rfl (by decide) (by decide) (by first | (simp [-List.map_take, -List.map_drop, -List.map_tail, run_guard, run_guardD, resultsA, resA, Nat.add_assoc, wldV, afrC, f2, r2, k4, k5, k6, pikC]; done) | (simp [-List.map_take, -List.map_drop, -List.map_tail, run_guard, run_guardD, resultsA, resA, Nat.add_assoc, wldV, afrC, f2, r2, k4, k5, k6, pikC]; rfl)) (by first | (simp [-List.map_take, -List.map_drop, -List.map_tail, run_guard, run_guardD, resultsA, resA, Nat.add_assoc, wldV, afrC, f2, r2, k4, k5, k6, pikC]; done) | (simp [-List.map_take, -List.map_drop, -List.map_tail, run_guard, run_guardD, resultsA, resA, Nat.add_assoc, wldV, afrC, f2, r2, k4, k5, k6, pikC]; rfl)) (by first | (simp; done) | (simp; omega)) (by first | (simp only [MLIM, LIM] at *; simp; omega) | (simp only [MLIM]; simp; omega)) (by simp [iv, bv]) ?_)
                  | (with_reducible refine go_draw (i := 9) [(0, [], []), (1, [], []), (2, [], []), (3, [], []), (4, [.tmp 29], []), (5, [], [])] (by kernel_rfl) ?_)) <;> simp [-List.map_take, -List.map_drop, -List.map_tail, run_guard, run_guardD, resultsA, resA, Nat.add_assoc, wldV, afrC, f2, r2, k4, k5, k6, pikC])
              | ((first | (with_reducible refine condS_split ?_ ?_)) <;> intro qb <;> (have qp := qb; try simp only [psq] at qp) <;> simp [-List.map_take, -List.map_drop, -List.map_tail, run_guard, run_guardD, resultsA, resA, Nat.add_assoc, wldV, afrC, f2, r2, k4, k5, k6, pikC, qb])
            all_goals first
            | omega
            | (refine ⟨?_, (by repeat' first | exact hE2 | exact hK2 | exact hE | exact hK | exact keep_rfl | refine keep_upd_of (by omega) ?_ | refine KeepB.sub hE2 ?_ (by omega))⟩
               clear hnx
               rw [drop_gt hi3] at hJ2
               rw [List.take_of_length_le (by simp), enabled_eq, ← hacc]
               simp_all [pkDrain, pkTell, pkStart, pikC]
               done)
            | (refine hnx.go () ?_ ?_ ?_ ?_ ?_ ?_
               · omega
               · simp [wrap_succ hi3 hlim]
               · simp
               · exact (by repeat' first | exact hE2 | exact hK2 | exact hE | exact hK | exact keep_rfl | refine keep_upd_of (by omega) ?_ | refine KeepB.sub hE2 ?_ (by omega))
               · first | omega | (simp; omega)
               try dsimp only
               rw [drop_gt hi3] at hJ2
               refine ⟨by clear hnx; simp_all, by simp [r2, k4, pikC], by simp [f2, k5, k6, wldV], by omega⟩)
          · have hi4 : ¬ ((i : Int) < w.afters.list.length) := by omega
            try simp [-List.map_take, -List.map_drop, -List.map_tail, run_guard, run_guardD, resultsA, resA, Nat.add_assoc, wldV, f2, r2, k4, k5, k6, hi3, hi4]
            repeat'
              first
              | done
              | ((first
                  | ((with_reducible show lenS _ _ _ _ _ _); refine lenS_slice rfl fun _ => ?_)
                  | ((with_reducible show iaddrS _ _ _ _ _ _ _); refine iaddr_map rfl (by first | omega | (simp; done) | (simp; omega) | (simp [inR, isIn] at *; done) | (simp [inR, isIn] at *; omega)) (by first | omega | (simp; done) | (simp; omega) | (simp [inR, isIn] at *; done) | (simp [inR, isIn] at *; omega)) ?_)
                  | ((with_reducible show appS _ _ _ _ _ _ _ _); refine app_end rfl rfl (by decide) (by decide) (by first | (simp [-List.map_take, -List.map_drop, -List.map_tail, run_guard, run_guardD, resultsA, resA, Nat.add_assoc, wldV, f2, r2, k4, k5, k6, hi3, hi4]; done) | (simp [-List.map_take, -List.map_drop, -List.map_tail, run_guard, run_guardD, resultsA, resA, Nat.add_assoc, wldV, f2, r2, k4, k5, k6, hi3, hi4]; rfl)) (by first | (simp [-List.map_take, -List.map_drop, -List.map_tail, run_guard, run_guardD, resultsA, resA, Nat.add_assoc, wldV, f2, r2, k4, k5, k6, hi3, hi4]; done) | (simp [-List.map_take, -List.map_drop, -List.map_tail, run_guard, run_guardD, resultsA, resA, Nat.add_assoc, wldV, f2, r2, k4, k5, k6, hi3, hi4]; rfl)) (by first | (simp; done) | (simp; omega)) (by first | (simp only [MLIM, LIM] at *; simp; omega) | (simp only [MLIM]; simp; omega)) (by simp [iv, bv]) ?_)
                  | (with_reducible refine go_draw (i := 9) [(0, [], []), (1, [], []), (2, [], []), (3, [], []), (4, [.tmp 29], []), (5, [], [])] (by kernel_rfl) ?_)) <;> simp [-List.map_take, -List.map_drop, -List.map_tail, run_guard, run_guardD, resultsA, resA, Nat.add_assoc, wldV, f2, r2, k4, k5, k6, hi3, hi4])
              | ((first | (with_reducible refine condS_split ?_ ?_)) <;> intro qb <;> (have qp := qb; try simp only [psq] at qp) <;> simp [-List.map_take, -List.map_drop, -List.map_tail, run_guard, run_guardD, resultsA, resA, Nat.add_assoc, wldV, f2, r2, k4, k5, k6, hi3, hi4, qb])
            all_goals first
            | omega
            | (refine ⟨?_, (by repeat' first | exact hE2 | exact hK2 | exact hE | exact hK | exact keep_rfl | refine keep_upd_of (by omega) ?_ | refine KeepB.sub hE2 ?_ (by omega))⟩
               clear hnx
               rw [List.drop_eq_nil_of_le (by omega)] at hJ2
               rw [List.take_of_length_le (by simp), enabled_eq, ← hacc]
               simp_all [pkDrain, pkTell, pkStart, pikC]
               done)
            | trace_state
      · generalize hid2 : m0 + 13 = id2
        refine go_upP (h0 := h) (nx0 := nx) [2, 6, 48, 49, 50, 51, 52, 53, 54, 55, 56, 57, 58, 59, 60, 61, 62, 63, 64, 65, 66] (w.afters.list.length) (fun (i : Nat) a => [(6, .int .i64 i)]) (fun (i : Nat) (_ : Unit) h' n' => ((w.afters.list.drop i).any (·.queued)) = w.afters.list.any (·.queued) ∧ h' id2 = some (.row 2 ((acc ++ [(⟨2, 0⟩ : Pik)]).map pikC)) ∧ h' nx = some (.obj (wldV F w)) ∧ id2 < n') (()) (by simp) ?_ (by repeat' first | exact hE2 | exact hK2 | exact hE | exact hK | exact keep_rfl | refine keep_upd_of (by omega) ?_ | refine KeepB.sub hE2 ?_ (by omega)) (by omega) ?_
        · subst hid2
          simp [wldV, f1, g2, pikC, k2, k3]
        · intro i a tm h' n' hle hJ hE hn' next hnx
          try dsimp only at hJ
          have hK : KeepB nx h' h := KeepB.sub hE (by repeat' first | exact hE2 | exact hK2 | exact hE | exact hK | exact keep_rfl | refine keep_upd_of (by omega) ?_ | refine KeepB.sub hE2 ?_ (by omega)) (by omega)
          simp [-List.map_take, -List.map_drop, -List.map_tail]
          obtain ⟨hJ2, r2, f2, g4⟩ := hJ
          have k4 : ∀ k, (id2 = n' + k) = False := fun k => by simp only [eq_iff_iff, iff_false]; omega
          have k5 : ∀ k, (nx = n' + k) = False := fun k => by simp only [eq_iff_iff, iff_false]; omega
          have k6 : (nx = id2) = False := by simp only [eq_iff_iff, iff_false]; omega
          by_cases hi3 : i < w.afters.list.length
          · try simp [-List.map_take, -List.map_drop, -List.map_tail, run_guard, run_guardD, resultsA, resA, Nat.add_assoc, wldV, afrC, f2, r2, k4, k5, k6, pikC]
            repeat'
              first
              | done
              | ((first
                  | ((with_reducible show lenS _ _ _ _ _ _); refine lenS_slice rfl fun _ => ?_)
                  | ((with_reducible show iaddrS _ _ _ _ _ _ _); refine iaddr_map rfl (by first | omega | (simp; done) | (simp; omega) | (simp [inR, isIn] at *; done) | (simp [inR, isIn] at *; omega)) (by first | omega | (simp; done) | (simp; omega) | (simp [inR, isIn] at *; done) | (simp [inR, isIn] at *; omega)) ?_)
                  | ((with_reducible show appS _ _ _ _ _ _ _ _); refine app_end rfl rfl (by decide) (by decide) (by first | (simp [-List.map_take, -List.map_drop, -List.map_tail, run_guard, run_guardD, resultsA, resA, Nat.add_assoc, wldV, afrC, f2, r2, k4, k5, k6, pikC]; done) | (simp [-List.map_take, -List.map_drop, -List.map_tail, run_guard, run_guardD, resultsA, resA, Nat.add_assoc, wldV, afrC, f2, r2, k4, k5, k6, pikC]; rfl)) (by first | (simp [-List.map_take, -List.map_drop, -List.map_tail, run_guard, run_guardD, resultsA, resA, Nat.add_assoc, wldV, afrC, f2, r2, k4, k5, k6, pikC]; done) | (simp [-List.map_take, -List.map_drop, -List.map_tail, run_guard, run_guardD, resultsA, resA, Nat.add_assoc, wldV, afrC, f2, r2, k4, k5, k6, pikC]; rfl)) (by first | (simp; done) | (simp; omega)) (by first | (simp only [MLIM, LIM] at *; simp; omega) | (simp only [MLIM]; simp; omega)) (by simp [iv, bv]) ?_)
                  | (with_reducible refine go_draw (i := 9) [(0, [], []), (1, [], []), (2, [], []), (3, [], []), (4, [.tmp 29], []), (5, [], [])] (by kernel_rfl) ?_)) <;> simp [-List.map_take, -List.map_drop, -List.map_tail, run_guard, run_guardD, resultsA, resA, Nat.add_assoc, wldV, afrC, f2, r2, k4, k5, k6, pikC])
              | ((first | (with_reducible refine condS_split ?_ ?_)) <;> intro qb <;> (have qp := qb; try simp only [psq] at qp) <;> simp [-List.map_take, -List.map_drop, -List.map_tail, run_guard, run_guardD, resultsA, resA, Nat.add_assoc, wldV, afrC, f2, r2, k4, k5, k6, pikC, qb])
            all_goals first
            | omega
            | (refine ⟨?_, (by repeat' first | exact hE2 | exact hK2 | exact hE | exact hK | exact keep_rfl | refine keep_upd_of (by omega) ?_ | refine KeepB.sub hE2 ?_ (by omega))⟩
               clear hnx
               rw [drop_gt hi3] at hJ2
               rw [List.take_of_length_le (by simp), enabled_eq, ← hacc]
               simp_all [pkDrain, pkTell, pkStart, pikC]
               done)
            | (refine hnx.go () ?_ ?_ ?_ ?_ ?_ ?_
               · omega
               · simp [wrap_succ hi3 hlim]
               · simp
               · exact (by repeat' first | exact hE2 | exact hK2 | exact hE | exact hK | exact keep_rfl | refine keep_upd_of (by omega) ?_ | refine KeepB.sub hE2 ?_ (by omega))
               · first | omega | (simp; omega)
               try dsimp only
               rw [drop_gt hi3] at hJ2
               refine ⟨by clear hnx; simp_all, by simp [r2, k4, pikC], by simp [f2, k5, k6, wldV], by omega⟩)
          · have hi4 : ¬ ((i : Int) < w.afters.list.length) := by omega
            try simp [-List.map_take, -List.map_drop, -List.map_tail, run_guard, run_guardD, resultsA, resA, Nat.add_assoc, wldV, f2, r2, k4, k5, k6, hi3, hi4]
            repeat'
              first
              | done
              | ((first
                  | ((with_reducible show lenS _ _ _ _ _ _); refine lenS_slice rfl fun _ => ?_)
                  | ((with_reducible show iaddrS _ _ _ _ _ _ _); refine iaddr_map rfl (by first | omega | (simp; done) | (simp; omega) | (simp [inR, isIn] at *; done) | (simp [inR, isIn] at *; omega)) (by first | omega | (simp; done) | (simp; omega) | (simp [inR, isIn] at *; done) | (simp [inR, isIn] at *; omega)) ?_)
                  | ((with_reducible show appS _ _ _ _ _ _ _ _); refine app_end rfl rfl (by decide) (by decide) (by first | (simp [-List.map_take, -List.map_drop, -List.map_tail, run_guard, run_guardD, resultsA, resA, Nat.add_assoc, wldV, f2, r2, k4, k5, k6, hi3, hi4]; done) | (simp [-List.map_take, -List.map_drop, -List.map_tail, run_guard, run_guardD, resultsA, resA, Nat.add_assoc, wldV, f2, r2, k4, k5, k6, hi3, hi4]; rfl)) (by first | (simp [-List.map_take, -List.map_drop, -List.map_tail, run_guard, run_guardD, resultsA, resA, Nat.add_assoc, wldV, f2, r2, k4, k5, k6, hi3, hi4]; done) | (simp [-List.map_take, -List.map_drop, -List.map_tail, run_guard, run_guardD, resultsA, resA, Nat.add_assoc, wldV, f2, r2, k4, k5, k6, hi3, hi4]; rfl)) (by first | (simp; done) | (simp; omega)) (by first | (simp only [MLIM, LIM] at *; simp; omega) | (simp only [MLIM]; simp; omega)) (by simp [iv, bv]) ?_)
                  | (with_reducible refine go_draw (i := 9) [(0, [], []), (1, [], []), (2, [], []), (3, [], []), (4, [.tmp 29], []), (5, [], [])] (by kernel_rfl) ?_)) <;> simp [-List.map_take, -List.map_drop, -List.map_tail, run_guard, run_guardD, resultsA, resA, Nat.add_assoc, wldV, f2, r2, k4, k5, k6, hi3, hi4])
              | ((first | (with_reducible refine condS_split ?_ ?_)) <;> intro qb <;> (have qp := qb; try simp only [psq] at qp) <;> simp [-List.map_take, -List.map_drop, -List.map_tail, run_guard, run_guardD, resultsA, resA, Nat.add_assoc, wldV, f2, r2, k4, k5, k6, hi3, hi4, qb])
            all_goals first
            | omega
            | (refine ⟨?_, (by repeat' first | exact hE2 | exact hK2 | exact hE | exact hK | exact keep_rfl | refine keep_upd_of (by omega) ?_ | refine KeepB.sub hE2 ?_ (by omega))⟩
               clear hnx
               rw [List.drop_eq_nil_of_le (by omega)] at hJ2
               rw [List.take_of_length_le (by simp), enabled_eq, ← hacc]
               simp_all [pkDrain, pkTell, pkStart, pikC]
               done)
            | trace_state
      · generalize hid2 : m0 + 18 = id2
        refine go_upP (h0 := h) (nx0 := nx) [2, 6, 48, 49, 50, 51, 52, 53, 54, 55, 56, 57, 58, 59, 60, 61, 62, 63, 64, 65, 66] (w.afters.list.length) (fun (i : Nat) a => [(6, .int .i64 i)]) (fun (i : Nat) (_ : Unit) h' n' => ((w.afters.list.drop i).any (·.queued)) = w.afters.list.any (·.queued) ∧ h' id2 = some (.row 2 ((acc ++ [(⟨3, 0⟩ : Pik)]).map pikC)) ∧ h' nx = some (.obj (wldV F w)) ∧ id2 < n') (()) (by simp) ?_ (by repeat' first | exact hE2 | exact hK2 | exact hE | exact hK | exact keep_rfl | refine keep_upd_of (by omega) ?_ | refine KeepB.sub hE2 ?_ (by omega)) (by omega) ?_
        · subst hid2
          simp [wldV, f1, g2, pikC, k2, k3]
        · intro i a tm h' n' hle hJ hE hn' next hnx
          try dsimp only at hJ
          have hK : KeepB nx h' h := KeepB.sub hE (by repeat' first | exact hE2 | exact hK2 | exact hE | exact hK | exact keep_rfl | refine keep_upd_of (by omega) ?_ | refine KeepB.sub hE2 ?_ (by omega)) (by omega)
          simp [-List.map_take, -List.map_drop, -List.map_tail]
          obtain ⟨hJ2, r2, f2, g4⟩ := hJ
          have k4 : ∀ k, (id2 = n' + k) = False := fun k => by simp only [eq_iff_iff, iff_false]; omega
          have k5 : ∀ k, (nx = n' + k) = False := fun k => by simp only [eq_iff_iff, iff_false]; omega
          have k6 : (nx = id2) = False := by simp only [eq_iff_iff, iff_false]; omega
          by_cases hi3 : i < w.afters.list.length
          · try simp [-List.map_take, -List.map_drop, -List.map_tail, run_guard, run_guardD, resultsA, resA, Nat.add_assoc, wldV, afrC, f2, r2, k4, k5, k6, pikC]
            repeat'
              first
              | done
              | ((first
                  | ((with_reducible show lenS _ _ _ _ _ _); refine lenS_slice rfl fun _ => ?_)
                  | ((with_reducible show iaddrS _ _ _ _ _ _ _); refine iaddr_map rfl (by first | omega | (simp; done) | (simp; omega) | (simp [inR, isIn] at *; done) | (simp [inR, isIn] at *; omega)) (by first | omega | (simp; done) | (simp; omega) | (simp [inR, isIn] at *; done) | (simp [inR, isIn] at *; omega)) ?_)
                  | ((with_reducible show appS _ _ _ _ _ _ _ _); refine app_end rfl rfl (by decide) (by decide) (by first | (simp [-List.map_take, -List.map_drop, -List.map_tail, run_guard, run_guardD, resultsA, resA, Nat.add_assoc, wldV, afrC, f2, r2, k4, k5, k6, pikC]; done) | (simp [-List.map_take, -List.map_drop, -List.map_tail, run_guard, run_guardD, resultsA, resA, Nat.add_assoc, wldV, afrC, f2, r2, k4, k5, k6, pikC]; rfl)) (by first | (simp [-List.map_take, -List.map_drop, -List.map_tail, run_guard, run_guardD, resultsA, resA, Nat.add_assoc, wldV, afrC, f2, r2, k4, k5, k6, pikC]; done) | (simp [-List.map_take, -List.map_drop, -List.map_tail, run_guard, run_guardD, resultsA, resA, Nat.add_assoc, wldV, afrC, f2, r2, k4, k5, k6, pikC]; rfl)) (by first | (simp; done) | (simp; omega)) (by first | (simp only [MLIM, LIM] at *; simp; omega) | (simp only [MLIM]; simp; omega)) (by simp [iv, bv]) ?_)
                  | (with_reducible refine go_draw (i := 9) [(0, [], []), (1, [], []), (2, [], []), (3, [], []), (4, [.tmp 29], []), (5, [], [])] (by kernel_rfl) ?_)) <;> simp [-List.map_take, -List.map_drop, -List.map_tail, run_guard, run_guardD, resultsA, resA, Nat.add_assoc, wldV, afrC, f2, r2, k4, k5, k6, pikC])
              | ((first | (with_reducible refine condS_split ?_ ?_)) <;> intro qb <;> (have qp := qb; try simp only [psq] at qp) <;> simp [-List.map_take, -List.map_drop, -List.map_tail, run_guard, run_guardD, resultsA, resA, Nat.add_assoc, wldV, afrC, f2, r2, k4, k5, k6, pikC, qb])
            all_goals first
            | omega
            | (refine ⟨?_, (by repeat' first | exact hE2 | exact hK2 | exact hE | exact hK | exact keep_rfl | refine keep_upd_of (by omega) ?_ | refine KeepB.sub hE2 ?_ (by omega))⟩
               clear hnx
               rw [drop_gt hi3] at hJ2
               rw [List.take_of_length_le (by simp), enabled_eq, ← hacc]
               simp_all [pkDrain, pkTell, pkStart, pikC]
               done)
            | (refine hnx.go () ?_ ?_ ?_ ?_ ?_ ?_
               · omega
               · simp [wrap_succ hi3 hlim]
               · simp
               · exact (by repeat' first | exact hE2 | exact hK2 | exact hE | exact hK | exact keep_rfl | refine keep_upd_of (by omega) ?_ | refine KeepB.sub hE2 ?_ (by omega))
               · first | omega | (simp; omega)
               try dsimp only
               rw [drop_gt hi3] at hJ2
               refine ⟨by clear hnx; simp_all, by simp [r2, k4, pikC], by simp [f2, k5, k6, wldV], by omega⟩)
          · have hi4 : ¬ ((i : Int) < w.afters.list.length) := by omega
            try simp [-List.map_take, -List.map_drop, -List.map_tail, run_guard, run_guardD, resultsA, resA, Nat.add_assoc, wldV, f2, r2, k4, k5, k6, hi3, hi4]
            repeat'
              first
              | done
              | ((first
                  | ((with_reducible show lenS _ _ _ _ _ _); refine lenS_slice rfl fun _ => ?_)
                  | ((with_reducible show iaddrS _ _ _ _ _ _ _); refine iaddr_map rfl (by first | omega | (simp; done) | (simp; omega) | (simp [inR, isIn] at *; done) | (simp [inR, isIn] at *; omega)) (by first | omega | (simp; done) | (simp; omega) | (simp [inR, isIn] at *; done) | (simp [inR, isIn] at *; omega)) ?_)
                  | ((with_reducible show appS _ _ _ _ _ _ _ _); refine app_end rfl rfl (by decide) (by decide) (by first | (simp [-List.map_take, -List.map_drop, -List.map_tail, run_guard, run_guardD, resultsA, resA, Nat.add_assoc, wldV, f2, r2, k4, k5, k6, hi3, hi4]; done) | (simp [-List.map_take, -List.map_drop, -List.map_tail, run_guard, run_guardD, resultsA, resA, Nat.add_assoc, wldV, f2, r2, k4, k5, k6, hi3, hi4]; rfl)) (by first | (simp [-List.map_take, -List.map_drop, -List.map_tail, run_guard, run_guardD, resultsA, resA, Nat.add_assoc, wldV, f2, r2, k4, k5, k6, hi3, hi4]; done) | (simp [-List.map_take, -List.map_drop, -List.map_tail, run_guard, run_guardD, resultsA, resA, Nat.add_assoc, wldV, f2, r2, k4, k5, k6, hi3, hi4]; rfl)) (by first | (simp; done) | (simp; omega)) (by first | (simp only [MLIM, LIM] at *; simp; omega) | (simp only [MLIM]; simp; omega)) (by simp [iv, bv]) ?_)
                  | (with_reducible refine go_draw (i := 9) [(0, [], []), (1, [], []), (2, [], []), (3, [], []), (4, [.tmp 29], []), (5, [], [])] (by kernel_rfl) ?_)) <;> simp [-List.map_take, -List.map_drop, -List.map_tail, run_guard, run_guardD, resultsA, resA, Nat.add_assoc, wldV, f2, r2, k4, k5, k6, hi3, hi4])
              | ((first | (with_reducible refine condS_split ?_ ?_)) <;> intro qb <;> (have qp := qb; try simp only [psq] at qp) <;> simp [-List.map_take, -List.map_drop, -List.map_tail, run_guard, run_guardD, resultsA, resA, Nat.add_assoc, wldV, f2, r2, k4, k5, k6, hi3, hi4, qb])
            all_goals first
            | omega
            | (refine ⟨?_, (by repeat' first | exact hE2 | exact hK2 | exact hE | exact hK | exact keep_rfl | refine keep_upd_of (by omega) ?_ | refine KeepB.sub hE2 ?_ (by omega))⟩
               clear hnx
               rw [List.drop_eq_nil_of_le (by omega)] at hJ2
               rw [List.take_of_length_le (by simp), enabled_eq, ← hacc]
               simp_all [pkDrain, pkTell, pkStart, pikC]
               done)
            | trace_state
      · refine go_upP (h0 := h) (nx0 := nx) [2, 6, 48, 49, 50, 51, 52, 53, 54, 55, 56, 57, 58, 59, 60, 61, 62, 63, 64, 65, 66] (w.afters.list.length) (fun (i : Nat) a => [(6, .int .i64 i)]) (fun (i : Nat) (_ : Unit) h' n' => ((w.afters.list.drop i).any (·.queued)) = w.afters.list.any (·.queued) ∧ h' (id) = some (.row 2 ((acc).map pikC)) ∧ h' nx = some (.obj (wldV F w)) ∧ id < n') (()) (by simp) ?_ (by repeat' first | exact hE2 | exact hK2 | exact hE | exact hK | exact keep_rfl | refine keep_upd_of (by omega) ?_ | refine KeepB.sub hE2 ?_ (by omega)) (by omega) ?_
        · simp [wldV, f1, g2, pikC, k1, k2, k3]; omega
        · intro i a tm h' n' hle hJ hE hn' next hnx
          try dsimp only at hJ
          have hK : KeepB nx h' h := KeepB.sub hE (by repeat' first | exact hE2 | exact hK2 | exact hE | exact hK | exact keep_rfl | refine keep_upd_of (by omega) ?_ | refine KeepB.sub hE2 ?_ (by omega)) (by omega)
          simp [-List.map_take, -List.map_drop, -List.map_tail]
          obtain ⟨hJ2, r2, f2, g4⟩ := hJ
          have k4 : ∀ k, (id = n' + k) = False := fun k => by simp only [eq_iff_iff, iff_false]; omega
          have k5 : ∀ k, (nx = n' + k) = False := fun k => by simp only [eq_iff_iff, iff_false]; omega
          have k6 : (nx = id) = False := by simp only [eq_iff_iff, iff_false]; omega
          by_cases hi3 : i < w.afters.list.length
          · try simp [-List.map_take, -List.map_drop, -List.map_tail, run_guard, run_guardD, resultsA, resA, Nat.add_assoc, wldV, afrC, f2, r2, k4, k5, k6, pikC]
            repeat'
              first
              | done
              | ((first
                  | ((with_reducible show lenS _ _ _ _ _ _); refine lenS_slice rfl fun _ => ?_)
                  | ((with_reducible show iaddrS _ _ _ _ _ _ _); refine iaddr_map rfl (by first | omega | (simp; done) | (simp; omega) | (simp [inR, isIn] at *; done) | (simp [inR, isIn] at *; omega)) (by first | omega | (simp; done) | (simp; omega) | (simp [inR, isIn] at *; done) | (simp [inR, isIn] at *; omega)) ?_)
                  | ((with_reducible show appS _ _ _ _ _ _ _ _); refine app_end rfl rfl (by decide) (by decide) (by first | (simp [-List.map_take, -List.map_drop, -List.map_tail, run_guard, run_guardD, resultsA, resA, Nat.add_assoc, wldV, afrC, f2, r2, k4, k5, k6, pikC]; done) | (simp [-List.map_take, -List.map_drop, -List.map_tail, run_guard, run_guardD, resultsA, resA, Nat.add_assoc, wldV, afrC, f2, r2, k4, k5, k6, pikC]; rfl)) (by first | (simp [-List.map_take, -List.map_drop, -List.map_tail, run_guard, run_guardD, resultsA, resA, Nat.add_assoc, wldV, afrC, f2, r2, k4, k5, k6, pikC]; done) | (simp [-List.map_take, -List.map_drop, -List.map_tail, run_guard, run_guardD, resultsA, resA, Nat.add_assoc, wldV, afrC, f2, r2, k4, k5, k6, pikC]; rfl)) (by first | (simp; done) | (simp; omega)) (by first | (simp only [MLIM, LIM] at *; simp; omega) | (simp only [MLIM]; simp; omega)) (by simp [iv, bv]) ?_)
                  | (with_reducible refine go_draw (i := 9) [(0, [], []), (1, [], []), (2, [], []), (3, [], []), (4, [.tmp 29], []), (5, [], [])] (by kernel_rfl) ?_)) <;> simp [-List.map_take, -List.map_drop, -List.map_tail, run_guard, run_guardD, resultsA, resA, Nat.add_assoc, wldV, afrC, f2, r2, k4, k5, k6, pikC])
              | ((first | (with_reducible refine condS_split ?_ ?_)) <;> intro qb <;> (have qp := qb; try simp only [psq] at qp) <;> simp [-List.map_take, -List.map_drop, -List.map_tail, run_guard, run_guardD, resultsA, resA, Nat.add_assoc, wldV, afrC, f2, r2, k4, k5, k6, pikC, qb])
            all_goals first
            | omega
            | (refine ⟨?_, (by repeat' first | exact hE2 | exact hK2 | exact hE | exact hK | exact keep_rfl | refine keep_upd_of (by omega) ?_ | refine KeepB.sub hE2 ?_ (by omega))⟩
               clear hnx
               rw [drop_gt hi3] at hJ2
               rw [List.take_of_length_le (by simp), enabled_eq, ← hacc]
               simp_all [pkDrain, pkTell, pkStart, pikC]
               done)
            | (refine hnx.go () ?_ ?_ ?_ ?_ ?_ ?_
               · omega
               · simp [wrap_succ hi3 hlim]
               · simp
               · exact (by repeat' first | exact hE2 | exact hK2 | exact hE | exact hK | exact keep_rfl | refine keep_upd_of (by omega) ?_ | refine KeepB.sub hE2 ?_ (by omega))
               · first | omega | (simp; omega)
               try dsimp only
               rw [drop_gt hi3] at hJ2
               refine ⟨by clear hnx; simp_all, by simp [r2, k4, pikC], by simp [f2, k5, k6, wldV], by omega⟩)
          · have hi4 : ¬ ((i : Int) < w.afters.list.length) := by omega
            try simp [-List.map_take, -List.map_drop, -List.map_tail, run_guard, run_guardD, resultsA, resA, Nat.add_assoc, wldV, f2, r2, k4, k5, k6, hi3, hi4]
            repeat'
              first
              | done
              | ((first
                  | ((with_reducible show lenS _ _ _ _ _ _); refine lenS_slice rfl fun _ => ?_)
                  | ((with_reducible show iaddrS _ _ _ _ _ _ _); refine iaddr_map rfl (by first | omega | (simp; done) | (simp; omega) | (simp [inR, isIn] at *; done) | (simp [inR, isIn] at *; omega)) (by first | omega | (simp; done) | (simp; omega) | (simp [inR, isIn] at *; done) | (simp [inR, isIn] at *; omega)) ?_)
                  | ((with_reducible show appS _ _ _ _ _ _ _ _); refine app_end rfl rfl (by decide) (by decide) (by first | (simp [-List.map_take, -List.map_drop, -List.map_tail, run_guard, run_guardD, resultsA, resA, Nat.add_assoc, wldV, f2, r2, k4, k5, k6, hi3, hi4]; done) | (simp [-List.map_take, -List.map_drop, -List.map_tail, run_guard, run_guardD, resultsA, resA, Nat.add_assoc, wldV, f2, r2, k4, k5, k6, hi3, hi4]; rfl)) (by first | (simp [-List.map_take, -List.map_drop, -List.map_tail, run_guard, run_guardD, resultsA, resA, Nat.add_assoc, wldV, f2, r2, k4, k5, k6, hi3, hi4]; done) | (simp [-List.map_take, -List.map_drop, -List.map_tail, run_guard, run_guardD, resultsA, resA, Nat.add_assoc, wldV, f2, r2, k4, k5, k6, hi3, hi4]; rfl)) (by first | (simp; done) | (simp; omega)) (by first | (simp only [MLIM, LIM] at *; simp; omega) | (simp only [MLIM]; simp; omega)) (by simp [iv, bv]) ?_)
                  | (with_reducible refine go_draw (i := 9) [(0, [], []), (1, [], []), (2, [], []), (3, [], []), (4, [.tmp 29], []), (5, [], [])] (by kernel_rfl) ?_)) <;> simp [-List.map_take, -List.map_drop, -List.map_tail, run_guard, run_guardD, resultsA, resA, Nat.add_assoc, wldV, f2, r2, k4, k5, k6, hi3, hi4])
              | ((first | (with_reducible refine condS_split ?_ ?_)) <;> intro qb <;> (have qp := qb; try simp only [psq] at qp) <;> simp [-List.map_take, -List.map_drop, -List.map_tail, run_guard, run_guardD, resultsA, resA, Nat.add_assoc, wldV, f2, r2, k4, k5, k6, hi3, hi4, qb])
            all_goals first
            | omega
            | (refine ⟨?_, (by repeat' first | exact hE2 | exact hK2 | exact hE | exact hK | exact keep_rfl | refine keep_upd_of (by omega) ?_ | refine KeepB.sub hE2 ?_ (by omega))⟩
               clear hnx
               rw [List.drop_eq_nil_of_le (by omega)] at hJ2
               rw [List.take_of_length_le (by simp), enabled_eq, ← hacc]
               simp_all [pkDrain, pkTell, pkStart, pikC]
               done)
            | trace_state
-- spec.CalmIn
theorem s_CalmIn {F : Nat → Bool} {w : Wld} : PC ctx.P 30 [.agg (wldV F w)] (.bool (wldOk w && decide ((enabled w).length = 0))) := by
  by_cases hw : wldOk w = true
  · refine PC.of okC Tryz.func30 rfl rfl (by kernel_rfl) (Nat.le_of_ble_eq_true rfl) (.bool _) fun h nx hnx => ?_
    show goC ctx _ _ (.fin (RetP _ _ _ _ _))
    try simp [-List.map_take, -List.map_drop, -List.map_tail, run_guard, run_guardD, resultsA, resA, Nat.add_assoc, wldV, hw]
    repeat'
      first
      | done
      | ((first
          | ((with_reducible show lenS _ _ _ _ _ _); refine lenS_slice rfl fun _ => ?_)
          | ((with_reducible show doCall _ _ _ 57 _ _); refine call_pc (s_WorldOk (w := w) (F := F)) ?_)
          | ((with_reducible show doCall _ _ _ 32 _ _); refine call_pc (s_EnabledIn (w := w) (F := F) hw) ?_)) <;> simp [-List.map_take, -List.map_drop, -List.map_tail, run_guard, run_guardD, resultsA, resA, Nat.add_assoc, wldV, hw])
      | ((first | (with_reducible refine guardS_split ?_ ?_)) <;> intro qb <;> (have qp := qb; try simp only [psq] at qp) <;> simp [-List.map_take, -List.map_drop, -List.map_tail, run_guard, run_guardD, resultsA, resA, Nat.add_assoc, wldV, hw, qb])
    all_goals (try clear hnx)
    all_goals first | (simp_all []; done) | (simp_all []; omega) | (rw [Bool.eq_iff_iff]; simp_all []; done) | (rw [Bool.eq_iff_iff]; simp_all []; omega) | omega | (simp only []; grind) | grind
  · refine PC.of okC Tryz.func30 rfl rfl (by kernel_rfl) (Nat.le_of_ble_eq_true rfl) (.bool _) fun h nx hnx => ?_
    show goC ctx _ _ (.fin (RetP _ _ _ _ _))
    try simp [-List.map_take, -List.map_drop, -List.map_tail, run_guard, run_guardD, resultsA, resA, Nat.add_assoc, wldV, hw]
    repeat'
      first
      | done
      | ((first
          | ((with_reducible show lenS _ _ _ _ _ _); refine lenS_slice rfl fun _ => ?_)
          | ((with_reducible show doCall _ _ _ 57 _ _); refine call_pc (s_WorldOk (w := w) (F := F)) ?_)) <;> simp [-List.map_take, -List.map_drop, -List.map_tail, run_guard, run_guardD, resultsA, resA, Nat.add_assoc, wldV, hw])
      | ((first | (with_reducible refine guardS_split ?_ ?_)) <;> intro qb <;> (have qp := qb; try simp only [psq] at qp) <;> simp [-List.map_take, -List.map_drop, -List.map_tail, run_guard, run_guardD, resultsA, resA, Nat.add_assoc, wldV, hw, qb])
    all_goals (try clear hnx)
    all_goals first | (simp_all []; done) | (simp_all []; omega) | (rw [Bool.eq_iff_iff]; simp_all []; done) | (rw [Bool.eq_iff_iff]; simp_all []; omega) | omega | (simp only []; grind) | grind
end Go.AE.Tryz
end

section
/- The laws of the readers: what the program's and the reference's conditions answer is the same. -/
set_option linter.unusedSimpArgs false
set_option linter.unusedVariables false
set_option maxRecDepth 8000
set_option maxHeartbeats 4000000
namespace Go.AE.Tryz
open Go.Proofs
theorem wldV_ones {F : Nat → Bool} {w : Wld} : ∀ x ∈ wldV F w, x.one = true := by simp [wldV]

-- laws.FnExactCalmIn
theorem law_CalmIn {w : Wld} : PC ctx.P 9 [.agg (wldV (fun _ => true) w)] (.bool true) := by
  by_cases hs : wldsz w ≤ 1048576
  · have e : szR (wldsz w) 1048576 = 1048576 - wldsz w := by rcases szR_or (wldsz w) 1048576 with q | q <;> omega
    refine PC.of okC Tryz.func9 rfl rfl (by kernel_rfl) (Nat.le_of_ble_eq_true rfl) (.bool _) fun h nx hnx => ?_
    show goC ctx _ _ (.fin (RetP _ _ _ _ _))
    have hones : (∀ x ∈ wldV (fun _ => true) w, x.one = true) = True := by simp only [eq_iff_iff, iff_true]; exact wldV_ones
    try simp [-List.map_take, -List.map_drop, -List.map_tail, run_guard, run_guardD, resultsA, resA, Nat.add_assoc, e, hones]
    repeat'
      first
      | done
      | ((first
          | ((with_reducible show doCall _ _ _ 15 _ _); refine call_pc (c_szWorld (s := w) (F := fun _ => true) (by omega) (by omega)) ?_)
          | ((with_reducible show doCall _ _ _ 17 _ _); refine call_pc (c_toWorld (s := w) (F := fun _ => true) hs) ?_)
          | ((with_reducible show doCall _ _ _ 30 _ _); refine call_pc (s_CalmIn (w := w) (F := fun _ => true)) ?_)
          | ((with_reducible show doCall _ _ _ 31 _ _); refine call_pc (c_CalmIn (w := w) (F := fun _ => true)) ?_)
          | ((with_reducible show doCall _ _ _ 19 _ _); refine call_pc (c_eqWorld (x := w) (y := w) (F1 := fun _ => true) (F2 := fun _ => true)) ?_)
          | (with_reducible refine go_draw (i := 10) [(0, [], []), (1, [], []), (2, [.tmp 5], []), (3, [], []), (4, [], [])] (by kernel_rfl) ?_)) <;> simp [-List.map_take, -List.map_drop, -List.map_tail, run_guard, run_guardD, resultsA, resA, Nat.add_assoc, e, hones])
      | ((first | (with_reducible refine condS_split ?_ ?_)) <;> intro qb <;> (have qp := qb; try simp only [psq] at qp) <;> simp [-List.map_take, -List.map_drop, -List.map_tail, run_guard, run_guardD, resultsA, resA, Nat.add_assoc, e, hones, qb])
    all_goals (clear hnx; first | omega | simp_all)
  · have e : szR (wldsz w) 1048576 = -1 := by rcases szR_or (wldsz w) 1048576 with q | q <;> omega
    refine PC.of okC Tryz.func9 rfl rfl (by kernel_rfl) (Nat.le_of_ble_eq_true rfl) (.bool _) fun h nx hnx => ?_
    show goC ctx _ _ (.fin (RetP _ _ _ _ _))
    try simp [-List.map_take, -List.map_drop, -List.map_tail, run_guard, run_guardD, resultsA, resA, Nat.add_assoc, e]
    repeat'
      first
      | done
      | ((first
          | ((with_reducible show doCall _ _ _ 15 _ _); refine call_pc (c_szWorld (s := w) (F := fun _ => true) (by omega) (by omega)) ?_)
          | (with_reducible refine go_draw (i := 10) [(0, [], []), (1, [], []), (2, [.tmp 5], []), (3, [], []), (4, [], [])] (by kernel_rfl) ?_)) <;> simp [-List.map_take, -List.map_drop, -List.map_tail, run_guard, run_guardD, resultsA, resA, Nat.add_assoc, e])
      | ((first | (with_reducible refine condS_split ?_ ?_)) <;> intro qb <;> (have qp := qb; try simp only [psq] at qp) <;> simp [-List.map_take, -List.map_drop, -List.map_tail, run_guard, run_guardD, resultsA, resA, Nat.add_assoc, e, qb])
end Go.AE.Tryz
end
