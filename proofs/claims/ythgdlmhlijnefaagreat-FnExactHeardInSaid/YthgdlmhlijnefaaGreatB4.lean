/- Contracts of the seat's functions: what each answers, for all arguments. -/
import Derived.Test.YthgdlmhlijnefaaGreatB3
import Derived.Test.YthgdlmhlijnefaaGreatA2
import Derived.Test.YthgdlmhlijnefaaGreatA3
import Derived.Test.YthgdlmhlijnefaaGreatB2
section
/- Contracts of the reference's readers: worlds. -/
set_option linter.unusedSimpArgs false
set_option linter.unusedVariables false
set_option maxRecDepth 8000
set_option maxHeartbeats 4000000
namespace Go.AE.Tryz
open Go.Proofs

-- spec.l13Tasks
theorem s_Tasks {F : Nat → Bool} {w : Wld} : PC ctx.P 145 [.agg (wldV F w)] (.bool (tasksOk w.tasks && all1 (isTask w) w.tasks)) := by
  refine PC.lim (n := w.tasks.length) (x := .agg (wldV F w)) (by simp) (.agg (x := .view (F 11) 9 (w.tasks.map tskC)) (by simp [wldV]) (.here (by simp))) ⟨_, Tryz.func145, by kernel_rfl, by kernel_rfl⟩ fun hlim => ?_
  by_cases ht : tasksOk w.tasks = true
  · refine PC.of okC Tryz.func145 rfl rfl (by kernel_rfl) (Nat.le_of_ble_eq_true rfl) (.bool _) fun h nx hnx => ?_
    show goC ctx _ _ (.fin (RetP _ _ _ _ _))
    try simp [-List.map_take, -List.map_drop, -List.map_tail, run_guard, run_guardD, resultsA, resA, Nat.add_assoc, wldV, ht]
    repeat'
      first
      | done
      | ((first
          | ((with_reducible show lenS _ _ _ _ _ _); refine lenS_slice rfl fun _ => ?_)
          | ((with_reducible show iaddrS _ _ _ _ _ _ _); refine iaddr_map rfl (by first | omega | (simp; done) | (simp; omega) | (simp [inR, isIn] at *; done) | (simp [inR, isIn] at *; omega)) (by first | omega | (simp; done) | (simp; omega) | (simp [inR, isIn] at *; done) | (simp [inR, isIn] at *; omega)) ?_)
          | ((with_reducible show doCall _ _ _ 207 _ _); refine call_pc (s_TasksOk) ?_)
          | (with_reducible refine go_draw (i := 7) [(0, [], []), (1, [], []), (2, [], []), (3, [], []), (4, [], []), (5, [], []), (6, [], []), (7, [], []), (8, [], []), (9, [], []), (10, [], []), (11, [], []), (12, [], []), (13, [], []), (14, [], []), (15, [], []), (16, [], []), (17, [], []), (18, [], []), (19, [], []), (20, [], []), (21, [], []), (22, [], []), (23, [], []), (24, [], []), (25, [], [])] (by kernel_rfl) ?_)) <;> simp [-List.map_take, -List.map_drop, -List.map_tail, run_guard, run_guardD, resultsA, resA, Nat.add_assoc, wldV, ht])
      | ((first | (with_reducible refine guardD_split ?_ ?_) | (with_reducible refine guardS_split ?_ ?_) | (with_reducible refine condS_split ?_ ?_)) <;> intro qb <;> (have qp := qb; try simp only [psq] at qp) <;> simp [-List.map_take, -List.map_drop, -List.map_tail, run_guard, run_guardD, resultsA, resA, Nat.add_assoc, wldV, ht, qb])
    refine go_upP [2, 3, 4, 9, 10, 11, 12, 13, 14, 15, 16, 17, 18, 19, 20, 21, 22, 23, 24, 25, 26, 27, 28, 29, 30, 31, 32, 33, 34, 35, 36, 37, 38, 39, 40, 41, 42, 43, 44, 45, 46, 47, 48, 49, 50, 51, 52, 53, 54, 55, 56, 57, 58, 59, 60, 61, 62, 63, 64, 65, 66, 67, 68, 69, 70, 71, 72, 73, 74, 75, 76, 77, 78] (w.tasks.length) (fun (i : Nat) a => [(3, .int .i64 i)]) (fun i_ a_ h_ _ => (fun i (_ : Unit) _ => all1 (isTask w) (w.tasks.drop i) = all1 (isTask w) w.tasks) i_ a_ h_) (()) (by simp) ?_ keep_rfl (Nat.le_refl _) ?_
    · simp
    · intro i a tm h' n' hle hJ hE hn' next hnx
      try dsimp only at hJ
      have hK : KeepB nx h' h := KeepB.sub hE (by repeat' first | exact hE2 | exact hK2 | exact hE | exact hK | exact keep_rfl | refine keep_upd_of (by omega) ?_ | refine KeepB.sub hE2 ?_ (by omega)) (by omega)
      simp [-List.map_take, -List.map_drop, -List.map_tail]
      have e1 : h' (nx) = some (.obj (wldV F w)) := by have := hE (nx) (by omega); simpa [wldV] using this
      have e1n : ∀ k, ((nx) = n' + k) = False := fun k => by simp only [eq_iff_iff, iff_false]; omega
      have e1m : ((nx) = n') = False := by simp only [eq_iff_iff, iff_false]; omega
      by_cases hi : i < w.tasks.length
      · have hf := tskOk_facts (tasksOk_at ht (show (0 : Int) ≤ (i : Int) by omega) (by omega))
        try simp [-List.map_take, -List.map_drop, -List.map_tail, run_guard, run_guardD, resultsA, resA, Nat.add_assoc, wldV, tskC, prgV, e1, e1n, e1m]
        repeat'
          first
          | done
          | ((first
              | ((with_reducible show lenS _ _ _ _ _ _); refine lenS_slice rfl fun _ => ?_)
              | ((with_reducible show iaddrS _ _ _ _ _ _ _); refine iaddr_map rfl (by first | omega | (simp; done) | (simp; omega) | (simp [inR, isIn] at *; done) | (simp [inR, isIn] at *; omega)) (by first | omega | (simp; done) | (simp; omega) | (simp [inR, isIn] at *; done) | (simp [inR, isIn] at *; omega)) ?_)
              | ((with_reducible show doCall _ _ _ 253 _ _); refine call_pc (s_Node (w := w) (F := F)) ?_)
              | ((with_reducible show doCall _ _ _ 255 _ _); refine call_pc (s_Group (w := w) (F := F)) ?_)
              | (with_reducible refine go_draw (i := 7) [(0, [], []), (1, [], []), (2, [], []), (3, [], []), (4, [], []), (5, [], []), (6, [], []), (7, [], []), (8, [], []), (9, [], []), (10, [], []), (11, [], []), (12, [], []), (13, [], []), (14, [], []), (15, [], []), (16, [], []), (17, [], []), (18, [], []), (19, [], []), (20, [], []), (21, [], []), (22, [], []), (23, [], []), (24, [], []), (25, [], [])] (by kernel_rfl) ?_)) <;> simp [-List.map_take, -List.map_drop, -List.map_tail, run_guard, run_guardD, resultsA, resA, Nat.add_assoc, wldV, tskC, prgV, e1, e1n, e1m])
          | ((first | (with_reducible refine guardD_split ?_ ?_) | (with_reducible refine guardS_split ?_ ?_) | (with_reducible refine condS_split ?_ ?_)) <;> intro qb <;> (have qp := qb; try simp only [psq] at qp) <;> simp [-List.map_take, -List.map_drop, -List.map_tail, run_guard, run_guardD, resultsA, resA, Nat.add_assoc, wldV, tskC, prgV, e1, e1n, e1m, qb])
        all_goals
          first
          | (have hlt : i < w.tasks.length := (by first | omega | (simp at *; omega))
             rw [drop_gt hlt] at hJ
             first
             | (refine hnx.go (()) ?_ ?_ ?_ ?_ ?_ ?_; omega; (simp [wrap_succ hlt hlim]); (simp); exact (by repeat' first | exact hE2 | exact hK2 | exact hE | exact hK | exact keep_rfl | refine keep_upd_of (by omega) ?_ | refine KeepB.sub hE2 ?_ (by omega)); (first | omega | (simp; omega)); (try dsimp only); clear hnx; first | ((try simp only [List.drop_length, Int.toNat_natCast, all1_cons, all1_nil, isTask, isIn, inR] at hJ ⊢); grind) | (simp_all [all1_cons, all1_nil, isTask, isIn, inR]; done) | (simp_all; omega))
             | (refine ⟨?_, (by repeat' first | exact hE2 | exact hK2 | exact hE | exact hK | exact keep_rfl | refine keep_upd_of (by omega) ?_ | refine KeepB.sub hE2 ?_ (by omega))⟩; clear hnx; first | ((try simp only [List.drop_length, Int.toNat_natCast, all1_cons, all1_nil, isTask, isIn, inR] at hJ ⊢); grind) | (simp_all [all1_cons, all1_nil, isTask, isIn, inR]; done) | (simp_all; omega)))
          | (obtain rfl : i = w.tasks.length := (by first | omega | (simp at *; omega))
             refine ⟨?_, (by repeat' first | exact hE2 | exact hK2 | exact hE | exact hK | exact keep_rfl | refine keep_upd_of (by omega) ?_ | refine KeepB.sub hE2 ?_ (by omega))⟩; clear hnx; first | ((try simp only [List.drop_length, Int.toNat_natCast, all1_cons, all1_nil, isTask, isIn, inR] at hJ ⊢); grind) | (simp_all [all1_cons, all1_nil, isTask, isIn, inR]; done) | (simp_all; omega))
      · try simp [-List.map_take, -List.map_drop, -List.map_tail, run_guard, run_guardD, resultsA, resA, Nat.add_assoc, wldV, tskC, prgV, e1, e1n, e1m]
        repeat'
          first
          | done
          | ((first
              | ((with_reducible show lenS _ _ _ _ _ _); refine lenS_slice rfl fun _ => ?_)
              | ((with_reducible show iaddrS _ _ _ _ _ _ _); refine iaddr_map rfl (by first | omega | (simp; done) | (simp; omega) | (simp [inR, isIn] at *; done) | (simp [inR, isIn] at *; omega)) (by first | omega | (simp; done) | (simp; omega) | (simp [inR, isIn] at *; done) | (simp [inR, isIn] at *; omega)) ?_)
              | ((with_reducible show doCall _ _ _ 253 _ _); refine call_pc (s_Node (w := w) (F := F)) ?_)
              | ((with_reducible show doCall _ _ _ 255 _ _); refine call_pc (s_Group (w := w) (F := F)) ?_)
              | (with_reducible refine go_draw (i := 7) [(0, [], []), (1, [], []), (2, [], []), (3, [], []), (4, [], []), (5, [], []), (6, [], []), (7, [], []), (8, [], []), (9, [], []), (10, [], []), (11, [], []), (12, [], []), (13, [], []), (14, [], []), (15, [], []), (16, [], []), (17, [], []), (18, [], []), (19, [], []), (20, [], []), (21, [], []), (22, [], []), (23, [], []), (24, [], []), (25, [], [])] (by kernel_rfl) ?_)) <;> simp [-List.map_take, -List.map_drop, -List.map_tail, run_guard, run_guardD, resultsA, resA, Nat.add_assoc, wldV, tskC, prgV, e1, e1n, e1m])
          | ((first | (with_reducible refine guardD_split ?_ ?_) | (with_reducible refine guardS_split ?_ ?_) | (with_reducible refine condS_split ?_ ?_)) <;> intro qb <;> (have qp := qb; try simp only [psq] at qp) <;> simp [-List.map_take, -List.map_drop, -List.map_tail, run_guard, run_guardD, resultsA, resA, Nat.add_assoc, wldV, tskC, prgV, e1, e1n, e1m, qb])
        all_goals
          first
          | (have hlt : i < w.tasks.length := (by first | omega | (simp at *; omega))
             rw [drop_gt hlt] at hJ
             first
             | (refine hnx.go (()) ?_ ?_ ?_ ?_ ?_ ?_; omega; (simp [wrap_succ hlt hlim]); (simp); exact (by repeat' first | exact hE2 | exact hK2 | exact hE | exact hK | exact keep_rfl | refine keep_upd_of (by omega) ?_ | refine KeepB.sub hE2 ?_ (by omega)); (first | omega | (simp; omega)); (try dsimp only); clear hnx; first | ((try simp only [List.drop_length, Int.toNat_natCast, all1_cons, all1_nil] at hJ ⊢); grind) | (simp_all [all1_cons, all1_nil]; done) | (simp_all; omega))
             | (refine ⟨?_, (by repeat' first | exact hE2 | exact hK2 | exact hE | exact hK | exact keep_rfl | refine keep_upd_of (by omega) ?_ | refine KeepB.sub hE2 ?_ (by omega))⟩; clear hnx; first | ((try simp only [List.drop_length, Int.toNat_natCast, all1_cons, all1_nil] at hJ ⊢); grind) | (simp_all [all1_cons, all1_nil]; done) | (simp_all; omega)))
          | (obtain rfl : i = w.tasks.length := (by first | omega | (simp at *; omega))
             refine ⟨?_, (by repeat' first | exact hE2 | exact hK2 | exact hE | exact hK | exact keep_rfl | refine keep_upd_of (by omega) ?_ | refine KeepB.sub hE2 ?_ (by omega))⟩; clear hnx; first | ((try simp only [List.drop_length, Int.toNat_natCast, all1_cons, all1_nil] at hJ ⊢); grind) | (simp_all [all1_cons, all1_nil]; done) | (simp_all; omega))
  · refine PC.of okC Tryz.func145 rfl rfl (by kernel_rfl) (Nat.le_of_ble_eq_true rfl) (.bool _) fun h nx hnx => ?_
    show goC ctx _ _ (.fin (RetP _ _ _ _ _))
    try simp [-List.map_take, -List.map_drop, -List.map_tail, run_guard, run_guardD, resultsA, resA, Nat.add_assoc, wldV, ht]
    repeat'
      first
      | done
      | ((first
          | ((with_reducible show lenS _ _ _ _ _ _); refine lenS_slice rfl fun _ => ?_)
          | ((with_reducible show iaddrS _ _ _ _ _ _ _); refine iaddr_map rfl (by first | omega | (simp; done) | (simp; omega) | (simp [inR, isIn] at *; done) | (simp [inR, isIn] at *; omega)) (by first | omega | (simp; done) | (simp; omega) | (simp [inR, isIn] at *; done) | (simp [inR, isIn] at *; omega)) ?_)
          | ((with_reducible show doCall _ _ _ 207 _ _); refine call_pc (s_TasksOk) ?_)
          | (with_reducible refine go_draw (i := 7) [(0, [], []), (1, [], []), (2, [], []), (3, [], []), (4, [], []), (5, [], []), (6, [], []), (7, [], []), (8, [], []), (9, [], []), (10, [], []), (11, [], []), (12, [], []), (13, [], []), (14, [], []), (15, [], []), (16, [], []), (17, [], []), (18, [], []), (19, [], []), (20, [], []), (21, [], []), (22, [], []), (23, [], []), (24, [], []), (25, [], [])] (by kernel_rfl) ?_)) <;> simp [-List.map_take, -List.map_drop, -List.map_tail, run_guard, run_guardD, resultsA, resA, Nat.add_assoc, wldV, ht])
      | ((first | (with_reducible refine guardD_split ?_ ?_) | (with_reducible refine guardS_split ?_ ?_) | (with_reducible refine condS_split ?_ ?_)) <;> intro qb <;> (have qp := qb; try simp only [psq] at qp) <;> simp [-List.map_take, -List.map_drop, -List.map_tail, run_guard, run_guardD, resultsA, resA, Nat.add_assoc, wldV, ht, qb])
    all_goals (try clear hnx)
    all_goals first | (simp_all []; done) | (simp_all []; omega) | (rw [Bool.eq_iff_iff]; simp_all []; done) | (rw [Bool.eq_iff_iff]; simp_all []; omega) | omega | (simp only []; grind) | grind
end Go.AE.Tryz
end

section
/- Contracts of the reference's readers: worlds. -/
set_option linter.unusedSimpArgs false
set_option linter.unusedVariables false
set_option maxRecDepth 8000
set_option maxHeartbeats 4000000
namespace Go.AE.Tryz
open Go.Proofs

-- spec.WorldOk
theorem s_WorldOk {F : Nat → Bool} {w : Wld} : PC ctx.P 57 [.agg (wldV F w)] (.bool (wldOk w)) := by
  refine PC.of okC Tryz.func57 rfl rfl (by kernel_rfl) (Nat.le_of_ble_eq_true rfl) (.bool _) fun h nx hnx => ?_
  show goC ctx _ _ (.fin (RetP _ _ _ _ _))
  try simp [-List.map_take, -List.map_drop, -List.map_tail, run_guard, run_guardD, resultsA, resA, Nat.add_assoc, wldV]
  repeat'
    first
    | done
    | ((first
        | ((with_reducible show doCall _ _ _ 140 _ _); refine call_pc (s_Progs) ?_)
        | ((with_reducible show doCall _ _ _ 141 _ _); refine call_pc (s_Events (w := w) (F := F)) ?_)
        | ((with_reducible show doCall _ _ _ 142 _ _); refine call_pc (s_SpreadOk (s := w.spread) (F := F)) ?_)
        | ((with_reducible show doCall _ _ _ 143 _ _); refine call_pc (s_Timers (w := w) (F := F)) ?_)
        | ((with_reducible show doCall _ _ _ 144 _ _); refine call_pc (s_Afters (w := w) (F := F)) ?_)
        | ((with_reducible show doCall _ _ _ 145 _ _); refine call_pc (s_Tasks (w := w) (F := F)) ?_)
        | ((with_reducible show doCall _ _ _ 146 _ _); refine call_pc (s_Groups (w := w) (F := F)) ?_)
        | ((with_reducible show doCall _ _ _ 147 _ _); refine call_pc (s_Sights (w := w) (F := F)) ?_)
        | ((with_reducible show doCall _ _ _ 148 _ _); refine call_pc (s_Numbers) ?_)) <;> simp [-List.map_take, -List.map_drop, -List.map_tail, run_guard, run_guardD, resultsA, resA, Nat.add_assoc, wldV])
    | ((first | (with_reducible refine guardS_split ?_ ?_)) <;> intro qb <;> (have qp := qb; try simp only [psq] at qp) <;> simp [-List.map_take, -List.map_drop, -List.map_tail, run_guard, run_guardD, resultsA, resA, Nat.add_assoc, wldV, qb])
  all_goals (clear hnx; have ht : eventsOk w.tree w.events = true → treeOk w.tree = true := eventsOk_tree; simp only [wldOk]; (try simp only [all1] at *); grind)
end Go.AE.Tryz
end

section
/- Contracts of the reference's conditions: explained, timely. -/
set_option linter.unusedSimpArgs false
set_option linter.unusedVariables false
set_option maxRecDepth 8000
set_option maxHeartbeats 4000000
namespace Go.AE.Tryz
open Go.Proofs

-- spec.ExplainedIn
theorem s_ExplainedIn {F : Nat → Bool} {w : Wld} : PC ctx.P 26 [.agg (wldV F w)] (.bool (explained w)) := by
  refine PC.lim (n := w.sights.length) (x := .agg (wldV F w)) (by simp) (.agg (x := .view (F 14) 4 (w.sights.map sgtC)) (by simp [wldV]) (.here (by simp))) ⟨_, Tryz.func26, by kernel_rfl, by kernel_rfl⟩ fun hlim => ?_
  by_cases hw : wldOk w = true
  · have hev := wldOk_ev hw
    refine PC.of okC Tryz.func26 rfl rfl (by kernel_rfl) (Nat.le_of_ble_eq_true rfl) (.bool _) fun h nx hnx => ?_
    show goC ctx _ _ (.fin (RetP _ _ _ _ _))
    try simp [-List.map_take, -List.map_drop, -List.map_tail, run_guard, run_guardD, resultsA, resA, Nat.add_assoc, wldV, hw]
    repeat'
      first
      | done
      | ((first
          | ((with_reducible show lenS _ _ _ _ _ _); refine lenS_slice rfl fun _ => ?_)
          | ((with_reducible show iaddrS _ _ _ _ _ _ _); refine iaddr_map rfl (by first | omega | (simp; done) | (simp; omega) | (simp [inR, isIn] at *; done) | (simp [inR, isIn] at *; omega)) (by first | omega | (simp; done) | (simp; omega) | (simp [inR, isIn] at *; done) | (simp [inR, isIn] at *; omega)) ?_)
          | ((with_reducible show sliceS _ _ _ _ _ _ _ _); refine slice_to rfl (by first | omega | (simp; done) | (simp; omega) | (simp [inR, isIn] at *; done) | (simp [inR, isIn] at *; omega)) (by first | omega | (simp; done) | (simp; omega) | (simp [inR, isIn] at *; done) | (simp [inR, isIn] at *; omega)) ?_)
          | ((with_reducible show sliceS _ _ _ _ _ _ _ _); refine slice_from rfl (by first | omega | (simp; done) | (simp; omega) | (simp [inR, isIn] at *; done) | (simp [inR, isIn] at *; omega)) (by first | omega | (simp; done) | (simp; omega) | (simp [inR, isIn] at *; done) | (simp [inR, isIn] at *; omega)) ?_)
          | ((with_reducible show sliceS _ _ _ _ _ _ _ _); refine slice_mid rfl (by first | omega | (simp; done) | (simp; omega) | (simp [inR, isIn] at *; done) | (simp [inR, isIn] at *; omega)) (by first | omega | (simp; done) | (simp; omega) | (simp [inR, isIn] at *; done) | (simp [inR, isIn] at *; omega)) (by first | omega | (simp; done) | (simp; omega) | (simp [inR, isIn] at *; done) | (simp [inR, isIn] at *; omega)) ?_)
          | ((with_reducible show sliceI _ _ _ _ _ _ _ _ _ _ _); refine sliceI_to rfl (by first | omega | (simp; done) | (simp; omega) | (simp [inR, isIn] at *; done) | (simp [inR, isIn] at *; omega)) (by first | omega | (simp; done) | (simp; omega) | (simp [inR, isIn] at *; done) | (simp [inR, isIn] at *; omega)) ?_)
          | ((with_reducible show sliceI _ _ _ _ _ _ _ _ _ _ _); refine sliceI_from rfl (by first | omega | (simp; done) | (simp; omega) | (simp [inR, isIn] at *; done) | (simp [inR, isIn] at *; omega)) (by first | omega | (simp; done) | (simp; omega) | (simp [inR, isIn] at *; done) | (simp [inR, isIn] at *; omega)) ?_)
          | ((with_reducible show sliceI _ _ _ _ _ _ _ _ _ _ _); refine sliceI_mid rfl (by first | omega | (simp; done) | (simp; omega) | (simp [inR, isIn] at *; done) | (simp [inR, isIn] at *; omega)) (by first | omega | (simp; done) | (simp; omega) | (simp [inR, isIn] at *; done) | (simp [inR, isIn] at *; omega)) (by first | omega | (simp; done) | (simp; omega) | (simp [inR, isIn] at *; done) | (simp [inR, isIn] at *; omega)) ?_)
          | ((with_reducible show doCall _ _ _ 57 _ _); refine call_pc (s_WorldOk (w := w) (F := F)) ?_)
          | (with_reducible refine go_draw (i := 7) [(0, [], []), (1, [], []), (2, [], []), (3, [], []), (4, [], []), (5, [], []), (6, [], []), (7, [], []), (8, [], []), (9, [], []), (10, [], []), (11, [], []), (12, [], []), (13, [], []), (14, [], []), (15, [], []), (16, [], []), (17, [], []), (18, [], []), (19, [], []), (20, [], []), (21, [], []), (22, [], []), (23, [], []), (25, [], []), (26, [], []), (24, [.tmp 45], []), (27, [], []), (28, [], []), (29, [], []), (30, [], []), (31, [], []), (32, [], []), (33, [], []), (34, [], []), (35, [], []), (36, [], []), (37, [], []), (38, [], []), (40, [], []), (41, [], []), (39, [.tmp 60], []), (42, [], []), (43, [], [])] (by kernel_rfl) ?_)) <;> simp [-List.map_take, -List.map_drop, -List.map_tail, run_guard, run_guardD, resultsA, resA, Nat.add_assoc, wldV, hw])
      | ((first | (with_reducible refine guardD_split ?_ ?_) | (with_reducible refine condS_split ?_ ?_)) <;> intro qb <;> (have qp := qb; try simp only [psq] at qp) <;> simp [-List.map_take, -List.map_drop, -List.map_tail, run_guard, run_guardD, resultsA, resA, Nat.add_assoc, wldV, hw, qb])
    refine go_upP [2, 3, 4, 8, 9, 10, 11, 12, 13, 14, 15, 16, 17, 18, 19, 20, 21, 22, 23, 24, 25, 26, 27, 28, 29, 30, 31, 32, 33, 34, 35, 36, 37, 38, 39, 40, 41, 42, 43, 44, 45, 46, 47, 48, 49, 50, 51, 52, 53, 54, 55, 56, 57, 58, 59, 60, 61, 62, 63] (w.sights.length) (fun (i : Nat) a => [(3, .int .i64 i)]) (fun (i : Nat) (_ : Unit) h' n' => explN w.tree w.events (w.sights.drop i) (if i = 0 then 0 else (gt w.sights ((i : Int) - 1)).pos) = explN w.tree w.events w.sights 0 ∧ Fr n' h') (()) (by simp) ?_ keep_rfl (Nat.le_refl _) ?_
    · exact ⟨by simp, (by repeat' first | exact Fr.start hnx (by omega) | exact Fr.mono hF (by omega) | refine Fr.upd (by first | omega | (simp; omega)) ?_)⟩
    · intro i a tm h' n' hle hJ hE hn' next hnx
      try dsimp only at hJ
      have hK : KeepB nx h' h := KeepB.sub hE (by repeat' first | exact hE2 | exact hK2 | exact hE | exact hK | exact keep_rfl | refine keep_upd_of (by omega) ?_ | refine KeepB.sub hE2 ?_ (by omega)) (by omega)
      simp [-List.map_take, -List.map_drop, -List.map_tail]
      obtain ⟨hJ, hF⟩ := hJ
      have hFa := hF.at
      have e1 : h' (nx) = some (.obj (wldV F w)) := by have := hE (nx) (by omega); simpa [wldV] using this
      have e1n : ∀ k, ((nx) = n' + k) = False := fun k => by simp only [eq_iff_iff, iff_false]; omega
      have e1m : ((nx) = n') = False := by simp only [eq_iff_iff, iff_false]; omega
      by_cases hi : i < w.sights.length
      · have hsg := wldOk_sight hw (show (0 : Int) ≤ (i : Int) by omega) (by omega)
        have hev2 := eventsOk_take hev (gt w.sights (i : Int)).pos.toNat
        have hlim' := hlim
        simp only [LIM] at hlim'
        try simp [-List.map_take, -List.map_drop, -List.map_tail, run_guard, run_guardD, resultsA, resA, Nat.add_assoc, wldV, sgtC, evtC, e1, e1n, e1m, hFa, i64_ok (x := (i : Int) - 1) (by omega)]
        repeat'
          first
          | done
          | ((first
              | ((with_reducible show lenS _ _ _ _ _ _); refine lenS_slice rfl fun _ => ?_)
              | ((with_reducible show iaddrS _ _ _ _ _ _ _); refine iaddr_map rfl (by first | omega | (simp; done) | (simp; omega) | (simp [inR, isIn] at *; done) | (simp [inR, isIn] at *; omega)) (by first | omega | (simp; done) | (simp; omega) | (simp [inR, isIn] at *; done) | (simp [inR, isIn] at *; omega)) ?_)
              | ((with_reducible show sliceS _ _ _ _ _ _ _ _); refine slice_to rfl (by first | omega | (simp; done) | (simp; omega) | (simp [inR, isIn] at *; done) | (simp [inR, isIn] at *; omega)) (by first | omega | (simp; done) | (simp; omega) | (simp [inR, isIn] at *; done) | (simp [inR, isIn] at *; omega)) ?_)
              | ((with_reducible show sliceS _ _ _ _ _ _ _ _); refine slice_from rfl (by first | omega | (simp; done) | (simp; omega) | (simp [inR, isIn] at *; done) | (simp [inR, isIn] at *; omega)) (by first | omega | (simp; done) | (simp; omega) | (simp [inR, isIn] at *; done) | (simp [inR, isIn] at *; omega)) ?_)
              | ((with_reducible show sliceS _ _ _ _ _ _ _ _); refine slice_mid rfl (by first | omega | (simp; done) | (simp; omega) | (simp [inR, isIn] at *; done) | (simp [inR, isIn] at *; omega)) (by first | omega | (simp; done) | (simp; omega) | (simp [inR, isIn] at *; done) | (simp [inR, isIn] at *; omega)) (by first | omega | (simp; done) | (simp; omega) | (simp [inR, isIn] at *; done) | (simp [inR, isIn] at *; omega)) ?_)
              | ((with_reducible show sliceI _ _ _ _ _ _ _ _ _ _ _); refine sliceI_to rfl (by first | omega | (simp; done) | (simp; omega) | (simp [inR, isIn] at *; done) | (simp [inR, isIn] at *; omega)) (by first | omega | (simp; done) | (simp; omega) | (simp [inR, isIn] at *; done) | (simp [inR, isIn] at *; omega)) ?_)
              | ((with_reducible show sliceI _ _ _ _ _ _ _ _ _ _ _); refine sliceI_from rfl (by first | omega | (simp; done) | (simp; omega) | (simp [inR, isIn] at *; done) | (simp [inR, isIn] at *; omega)) (by first | omega | (simp; done) | (simp; omega) | (simp [inR, isIn] at *; done) | (simp [inR, isIn] at *; omega)) ?_)
              | ((with_reducible show sliceI _ _ _ _ _ _ _ _ _ _ _); refine sliceI_mid rfl (by first | omega | (simp; done) | (simp; omega) | (simp [inR, isIn] at *; done) | (simp [inR, isIn] at *; omega)) (by first | omega | (simp; done) | (simp; omega) | (simp [inR, isIn] at *; done) | (simp [inR, isIn] at *; omega)) (by first | omega | (simp; done) | (simp; omega) | (simp [inR, isIn] at *; done) | (simp [inR, isIn] at *; omega)) ?_)
              | ((with_reducible show doCall _ _ _ 89 _ _); refine call_pc (s_ErrOf hev2 hsg.1 hsg.2.1) ?_)
              | ((with_reducible show doCall _ _ _ 90 _ _); refine call_pc (s_CauseOf hev2 hsg.1 hsg.2.1) ?_)
              | (with_reducible refine go_draw (i := 7) [(0, [], []), (1, [], []), (2, [], []), (3, [], []), (4, [], []), (5, [], []), (6, [], []), (7, [], []), (8, [], []), (9, [], []), (10, [], []), (11, [], []), (12, [], []), (13, [], []), (14, [], []), (15, [], []), (16, [], []), (17, [], []), (18, [], []), (19, [], []), (20, [], []), (21, [], []), (22, [], []), (23, [], []), (25, [], []), (26, [], []), (24, [.tmp 45], []), (27, [], []), (28, [], []), (29, [], []), (30, [], []), (31, [], []), (32, [], []), (33, [], []), (34, [], []), (35, [], []), (36, [], []), (37, [], []), (38, [], []), (40, [], []), (41, [], []), (39, [.tmp 60], []), (42, [], []), (43, [], [])] (by kernel_rfl) ?_)) <;> simp [-List.map_take, -List.map_drop, -List.map_tail, run_guard, run_guardD, resultsA, resA, Nat.add_assoc, wldV, sgtC, evtC, e1, e1n, e1m, hFa, i64_ok (x := (i : Int) - 1) (by omega)])
          | ((first | (with_reducible refine guardD_split ?_ ?_) | (with_reducible refine condS_split ?_ ?_)) <;> intro qb <;> (have qp := qb; try simp only [psq] at qp) <;> simp [-List.map_take, -List.map_drop, -List.map_tail, run_guard, run_guardD, resultsA, resA, Nat.add_assoc, wldV, sgtC, evtC, e1, e1n, e1m, hFa, i64_ok (x := (i : Int) - 1) (by omega), qb])
        all_goals
          rw [drop_gt hi] at hJ
          simp only [explN, ev0] at hJ
          have e9 : (((i + 1 : Nat) : Int) - 1) = (i : Int) := by omega
          first
          | omega
          | (refine ⟨?_, (by repeat' first | exact hE2 | exact hK2 | exact hE | exact hK | exact keep_rfl | refine keep_upd_of (by omega) ?_ | refine KeepB.sub hE2 ?_ (by omega))⟩; clear hnx hFa hF; simp only [explained]; grind)
          | (refine hnx.go () ?_ ?_ ?_ ?_ ?_ ?_; omega; (simp [wrap_succ hi hlim]); simp; exact (by repeat' first | exact hE2 | exact hK2 | exact hE | exact hK | exact keep_rfl | refine keep_upd_of (by omega) ?_ | refine KeepB.sub hE2 ?_ (by omega)); (first | omega | (simp; omega)); (refine ⟨?_, (by repeat' first | exact Fr.start hnx (by omega) | exact Fr.mono hF (by omega) | refine Fr.upd (by first | omega | (simp; omega)) ?_)⟩; clear hnx hFa hF; rw [if_neg (by omega), e9]; grind))
      · have hi2 : ¬ ((i : Int) < w.sights.length) := by omega
        try simp [-List.map_take, -List.map_drop, -List.map_tail, run_guard, run_guardD, resultsA, resA, Nat.add_assoc, wldV, e1, e1n, e1m, hi, hi2]
        repeat'
          first
          | done
          | ((first
              | ((with_reducible show lenS _ _ _ _ _ _); refine lenS_slice rfl fun _ => ?_)
              | ((with_reducible show iaddrS _ _ _ _ _ _ _); refine iaddr_map rfl (by first | omega | (simp; done) | (simp; omega) | (simp [inR, isIn] at *; done) | (simp [inR, isIn] at *; omega)) (by first | omega | (simp; done) | (simp; omega) | (simp [inR, isIn] at *; done) | (simp [inR, isIn] at *; omega)) ?_)
              | ((with_reducible show sliceS _ _ _ _ _ _ _ _); refine slice_to rfl (by first | omega | (simp; done) | (simp; omega) | (simp [inR, isIn] at *; done) | (simp [inR, isIn] at *; omega)) (by first | omega | (simp; done) | (simp; omega) | (simp [inR, isIn] at *; done) | (simp [inR, isIn] at *; omega)) ?_)
              | ((with_reducible show sliceS _ _ _ _ _ _ _ _); refine slice_from rfl (by first | omega | (simp; done) | (simp; omega) | (simp [inR, isIn] at *; done) | (simp [inR, isIn] at *; omega)) (by first | omega | (simp; done) | (simp; omega) | (simp [inR, isIn] at *; done) | (simp [inR, isIn] at *; omega)) ?_)
              | ((with_reducible show sliceS _ _ _ _ _ _ _ _); refine slice_mid rfl (by first | omega | (simp; done) | (simp; omega) | (simp [inR, isIn] at *; done) | (simp [inR, isIn] at *; omega)) (by first | omega | (simp; done) | (simp; omega) | (simp [inR, isIn] at *; done) | (simp [inR, isIn] at *; omega)) (by first | omega | (simp; done) | (simp; omega) | (simp [inR, isIn] at *; done) | (simp [inR, isIn] at *; omega)) ?_)
              | ((with_reducible show sliceI _ _ _ _ _ _ _ _ _ _ _); refine sliceI_to rfl (by first | omega | (simp; done) | (simp; omega) | (simp [inR, isIn] at *; done) | (simp [inR, isIn] at *; omega)) (by first | omega | (simp; done) | (simp; omega) | (simp [inR, isIn] at *; done) | (simp [inR, isIn] at *; omega)) ?_)
              | ((with_reducible show sliceI _ _ _ _ _ _ _ _ _ _ _); refine sliceI_from rfl (by first | omega | (simp; done) | (simp; omega) | (simp [inR, isIn] at *; done) | (simp [inR, isIn] at *; omega)) (by first | omega | (simp; done) | (simp; omega) | (simp [inR, isIn] at *; done) | (simp [inR, isIn] at *; omega)) ?_)
              | ((with_reducible show sliceI _ _ _ _ _ _ _ _ _ _ _); refine sliceI_mid rfl (by first | omega | (simp; done) | (simp; omega) | (simp [inR, isIn] at *; done) | (simp [inR, isIn] at *; omega)) (by first | omega | (simp; done) | (simp; omega) | (simp [inR, isIn] at *; done) | (simp [inR, isIn] at *; omega)) (by first | omega | (simp; done) | (simp; omega) | (simp [inR, isIn] at *; done) | (simp [inR, isIn] at *; omega)) ?_)
              | (with_reducible refine go_draw (i := 7) [(0, [], []), (1, [], []), (2, [], []), (3, [], []), (4, [], []), (5, [], []), (6, [], []), (7, [], []), (8, [], []), (9, [], []), (10, [], []), (11, [], []), (12, [], []), (13, [], []), (14, [], []), (15, [], []), (16, [], []), (17, [], []), (18, [], []), (19, [], []), (20, [], []), (21, [], []), (22, [], []), (23, [], []), (25, [], []), (26, [], []), (24, [.tmp 45], []), (27, [], []), (28, [], []), (29, [], []), (30, [], []), (31, [], []), (32, [], []), (33, [], []), (34, [], []), (35, [], []), (36, [], []), (37, [], []), (38, [], []), (40, [], []), (41, [], []), (39, [.tmp 60], []), (42, [], []), (43, [], [])] (by kernel_rfl) ?_)) <;> simp [-List.map_take, -List.map_drop, -List.map_tail, run_guard, run_guardD, resultsA, resA, Nat.add_assoc, wldV, e1, e1n, e1m, hi, hi2])
          | ((first | (with_reducible refine guardD_split ?_ ?_) | (with_reducible refine condS_split ?_ ?_)) <;> intro qb <;> (have qp := qb; try simp only [psq] at qp) <;> simp [-List.map_take, -List.map_drop, -List.map_tail, run_guard, run_guardD, resultsA, resA, Nat.add_assoc, wldV, e1, e1n, e1m, hi, hi2, qb])
        refine ⟨?_, (by repeat' first | exact hE2 | exact hK2 | exact hE | exact hK | exact keep_rfl | refine keep_upd_of (by omega) ?_ | refine KeepB.sub hE2 ?_ (by omega))⟩
        rw [List.drop_eq_nil_of_le (by omega)] at hJ
        simp only [explN] at hJ
        clear hnx; simp only [explained]; grind
  · refine PC.of okC Tryz.func26 rfl rfl (by kernel_rfl) (Nat.le_of_ble_eq_true rfl) (.bool _) fun h nx hnx => ?_
    show goC ctx _ _ (.fin (RetP _ _ _ _ _))
    try simp [-List.map_take, -List.map_drop, -List.map_tail, run_guard, run_guardD, resultsA, resA, Nat.add_assoc, hw]
    repeat'
      first
      | done
      | ((first
          | ((with_reducible show lenS _ _ _ _ _ _); refine lenS_slice rfl fun _ => ?_)
          | ((with_reducible show iaddrS _ _ _ _ _ _ _); refine iaddr_map rfl (by first | omega | (simp; done) | (simp; omega) | (simp [inR, isIn] at *; done) | (simp [inR, isIn] at *; omega)) (by first | omega | (simp; done) | (simp; omega) | (simp [inR, isIn] at *; done) | (simp [inR, isIn] at *; omega)) ?_)
          | ((with_reducible show sliceS _ _ _ _ _ _ _ _); refine slice_to rfl (by first | omega | (simp; done) | (simp; omega) | (simp [inR, isIn] at *; done) | (simp [inR, isIn] at *; omega)) (by first | omega | (simp; done) | (simp; omega) | (simp [inR, isIn] at *; done) | (simp [inR, isIn] at *; omega)) ?_)
          | ((with_reducible show sliceS _ _ _ _ _ _ _ _); refine slice_from rfl (by first | omega | (simp; done) | (simp; omega) | (simp [inR, isIn] at *; done) | (simp [inR, isIn] at *; omega)) (by first | omega | (simp; done) | (simp; omega) | (simp [inR, isIn] at *; done) | (simp [inR, isIn] at *; omega)) ?_)
          | ((with_reducible show sliceS _ _ _ _ _ _ _ _); refine slice_mid rfl (by first | omega | (simp; done) | (simp; omega) | (simp [inR, isIn] at *; done) | (simp [inR, isIn] at *; omega)) (by first | omega | (simp; done) | (simp; omega) | (simp [inR, isIn] at *; done) | (simp [inR, isIn] at *; omega)) (by first | omega | (simp; done) | (simp; omega) | (simp [inR, isIn] at *; done) | (simp [inR, isIn] at *; omega)) ?_)
          | ((with_reducible show sliceI _ _ _ _ _ _ _ _ _ _ _); refine sliceI_to rfl (by first | omega | (simp; done) | (simp; omega) | (simp [inR, isIn] at *; done) | (simp [inR, isIn] at *; omega)) (by first | omega | (simp; done) | (simp; omega) | (simp [inR, isIn] at *; done) | (simp [inR, isIn] at *; omega)) ?_)
          | ((with_reducible show sliceI _ _ _ _ _ _ _ _ _ _ _); refine sliceI_from rfl (by first | omega | (simp; done) | (simp; omega) | (simp [inR, isIn] at *; done) | (simp [inR, isIn] at *; omega)) (by first | omega | (simp; done) | (simp; omega) | (simp [inR, isIn] at *; done) | (simp [inR, isIn] at *; omega)) ?_)
          | ((with_reducible show sliceI _ _ _ _ _ _ _ _ _ _ _); refine sliceI_mid rfl (by first | omega | (simp; done) | (simp; omega) | (simp [inR, isIn] at *; done) | (simp [inR, isIn] at *; omega)) (by first | omega | (simp; done) | (simp; omega) | (simp [inR, isIn] at *; done) | (simp [inR, isIn] at *; omega)) (by first | omega | (simp; done) | (simp; omega) | (simp [inR, isIn] at *; done) | (simp [inR, isIn] at *; omega)) ?_)
          | ((with_reducible show doCall _ _ _ 57 _ _); refine call_pc (s_WorldOk (w := w) (F := F)) ?_)
          | (with_reducible refine go_draw (i := 7) [(0, [], []), (1, [], []), (2, [], []), (3, [], []), (4, [], []), (5, [], []), (6, [], []), (7, [], []), (8, [], []), (9, [], []), (10, [], []), (11, [], []), (12, [], []), (13, [], []), (14, [], []), (15, [], []), (16, [], []), (17, [], []), (18, [], []), (19, [], []), (20, [], []), (21, [], []), (22, [], []), (23, [], []), (25, [], []), (26, [], []), (24, [.tmp 45], []), (27, [], []), (28, [], []), (29, [], []), (30, [], []), (31, [], []), (32, [], []), (33, [], []), (34, [], []), (35, [], []), (36, [], []), (37, [], []), (38, [], []), (40, [], []), (41, [], []), (39, [.tmp 60], []), (42, [], []), (43, [], [])] (by kernel_rfl) ?_)) <;> simp [-List.map_take, -List.map_drop, -List.map_tail, run_guard, run_guardD, resultsA, resA, Nat.add_assoc, hw])
      | ((first | (with_reducible refine guardD_split ?_ ?_) | (with_reducible refine condS_split ?_ ?_)) <;> intro qb <;> (have qp := qb; try simp only [psq] at qp) <;> simp [-List.map_take, -List.map_drop, -List.map_tail, run_guard, run_guardD, resultsA, resA, Nat.add_assoc, hw, qb])
    all_goals (try clear hnx)
    all_goals first | (simp_all [explained]; done) | (simp_all [explained]; omega) | (rw [Bool.eq_iff_iff]; simp_all [explained]; done) | (rw [Bool.eq_iff_iff]; simp_all [explained]; omega) | omega | (simp only [explained]; grind) | grind
-- spec.l1Min
theorem s_l1Min {a b : Int} : PC ctx.P 195 [.int .i64 a, .int .i64 b] (.int .i64 (if a < b then a else b)) := by
  refine PC.of okC Tryz.func195 rfl rfl (by kernel_rfl) (Nat.le_of_ble_eq_true rfl) (.int _ _) fun h nx hnx => ?_
  show goC ctx _ _ (.fin (RetP _ _ _ _ _))
  try simp [-List.map_take, -List.map_drop, -List.map_tail, run_guard, run_guardD, resultsA, resA, Nat.add_assoc]
  repeat'
    first
    | done
    | ((first | (with_reducible refine condS_split ?_ ?_)) <;> intro qb <;> (have qp := qb; try simp only [psq] at qp) <;> simp [-List.map_take, -List.map_drop, -List.map_tail, run_guard, run_guardD, resultsA, resA, Nat.add_assoc, qb])
  all_goals (clear hnx; simp_all <;> omega)
-- spec.DueOf
theorem s_DueOf {p : Bool} {t : List Nod} {n : Int} (ht : treeOk t = true) (h0 : 0 ≤ n) (h1 : n < t.length) : PC ctx.P 81 [.view p 5 (t.map nodC), .int .i64 n] (.int .i64 (dueOf t n)) := by
  have hin := chain_in ht h0 h1
  have hlc : (chain t n).length ≤ LIM := by
    have := chain_len (t := t) (n := n)
    have := treeOk_len ht
    simp only [LIM]; omega
  refine PC.of okC Tryz.func81 rfl rfl (by kernel_rfl) (Nat.le_of_ble_eq_true rfl) (.int _ _) fun h nx hnx => ?_
  show goC ctx _ _ (.fin (RetP _ _ _ _ _))
  try simp [-List.map_take, -List.map_drop, -List.map_tail, run_guard, run_guardD, resultsA, resA, Nat.add_assoc]
  repeat'
    first
    | done
    | ((first
        | ((with_reducible show lenS _ _ _ _ _ _); refine lenS_slice rfl fun _ => ?_)
        | ((with_reducible show iaddrS _ _ _ _ _ _ _); refine iaddr_map rfl (by first | omega | (simp; done) | (simp; omega) | (simp [inR, isIn] at *; done) | (simp [inR, isIn] at *; omega)) (by first | omega | (simp; done) | (simp; omega) | (simp [inR, isIn] at *; done) | (simp [inR, isIn] at *; omega)) ?_)
        | ((with_reducible show doCall _ _ _ 194 _ _); refine call_pc (s_ChainOf ht h0 h1) ?_)) <;> simp [-List.map_take, -List.map_drop, -List.map_tail, run_guard, run_guardD, resultsA, resA, Nat.add_assoc])
    | ((first | (with_reducible refine condS_split ?_ ?_)) <;> intro qb <;> (have qp := qb; try simp only [psq] at qp) <;> simp [-List.map_take, -List.map_drop, -List.map_tail, run_guard, run_guardD, resultsA, resA, Nat.add_assoc, qb])
  refine go_upP [5, 7, 11, 12, 13, 14, 15, 16, 17, 18, 19, 20, 21, 22, 23, 24, 25, 26] ((chain t n).length) (fun (i : Nat) a => [(7, .int .i64 i), (5, .int .i64 a)]) (fun i_ a_ h_ _ => (fun (i : Nat) (a : Int) _ => ((chain t n).drop i).foldl (fun o i => if (gt t i).due < o then (gt t i).due else o) a = dueOf t n) i_ a_ h_) (9223372036854775807) (by simp) ?_ keep_rfl (Nat.le_refl _) ?_
  · simp [never, dueOf]
  · intro i a tm h' n' hle hJ hE hn' next hnx
    try dsimp only at hJ
    have hK : KeepB nx h' h := KeepB.sub hE (by repeat' first | exact hE2 | exact hK2 | exact hE | exact hK | exact keep_rfl | refine keep_upd_of (by omega) ?_ | refine KeepB.sub hE2 ?_ (by omega)) (by omega)
    simp [-List.map_take, -List.map_drop, -List.map_tail]
    by_cases hi : i < (chain t n).length
    · have hg := hin _ (gt_mem (z := (i : Int)) (by omega) (by omega))
      try simp [-List.map_take, -List.map_drop, -List.map_tail, run_guard, run_guardD, resultsA, resA, Nat.add_assoc, iv, nodC]
      repeat'
        first
        | done
        | ((first
            | ((with_reducible show lenS _ _ _ _ _ _); refine lenS_slice rfl fun _ => ?_)
            | ((with_reducible show iaddrS _ _ _ _ _ _ _); refine iaddr_map rfl (by first | omega | (simp; done) | (simp; omega) | (simp [inR, isIn] at *; done) | (simp [inR, isIn] at *; omega)) (by first | omega | (simp; done) | (simp; omega) | (simp [inR, isIn] at *; done) | (simp [inR, isIn] at *; omega)) ?_)
            | ((with_reducible show doCall _ _ _ 195 _ _); refine call_pc (s_l1Min) ?_)) <;> simp [-List.map_take, -List.map_drop, -List.map_tail, run_guard, run_guardD, resultsA, resA, Nat.add_assoc, iv, nodC])
        | ((first | (with_reducible refine condS_split ?_ ?_)) <;> intro qb <;> (have qp := qb; try simp only [psq] at qp) <;> simp [-List.map_take, -List.map_drop, -List.map_tail, run_guard, run_guardD, resultsA, resA, Nat.add_assoc, iv, nodC, qb])
      all_goals first
      | omega
      | (rw [drop_gt hi, List.foldl_cons] at hJ
         refine hnx.go (if (gt t (gt (chain t n) (i : Int))).due < a then (gt t (gt (chain t n) (i : Int))).due else a) ?_ ?_ ?_ ?_ ?_ ?_
         · omega
         · simp [wrap_succ hi hlc]; split <;> split <;> omega
         · simp
         · exact (by repeat' first | exact hE2 | exact hK2 | exact hE | exact hK | exact keep_rfl | refine keep_upd_of (by omega) ?_ | refine KeepB.sub hE2 ?_ (by omega))
         · first | omega | (simp; omega)
         · exact hJ)
    · have hi2 : ¬ ((i : Int) < (chain t n).length) := by omega
      try simp [-List.map_take, -List.map_drop, -List.map_tail, run_guard, run_guardD, resultsA, resA, Nat.add_assoc, hi, hi2]
      repeat'
        first
        | done
        | ((first
            | ((with_reducible show lenS _ _ _ _ _ _); refine lenS_slice rfl fun _ => ?_)
            | ((with_reducible show iaddrS _ _ _ _ _ _ _); refine iaddr_map rfl (by first | omega | (simp; done) | (simp; omega) | (simp [inR, isIn] at *; done) | (simp [inR, isIn] at *; omega)) (by first | omega | (simp; done) | (simp; omega) | (simp [inR, isIn] at *; done) | (simp [inR, isIn] at *; omega)) ?_)) <;> simp [-List.map_take, -List.map_drop, -List.map_tail, run_guard, run_guardD, resultsA, resA, Nat.add_assoc, hi, hi2])
        | ((first | (with_reducible refine condS_split ?_ ?_)) <;> intro qb <;> (have qp := qb; try simp only [psq] at qp) <;> simp [-List.map_take, -List.map_drop, -List.map_tail, run_guard, run_guardD, resultsA, resA, Nat.add_assoc, hi, hi2, qb])
      refine ⟨?_, (by repeat' first | exact hE2 | exact hK2 | exact hE | exact hK | exact keep_rfl | refine keep_upd_of (by omega) ?_ | refine KeepB.sub hE2 ?_ (by omega))⟩
      rw [List.drop_eq_nil_of_le (by omega)] at hJ
      exact hJ
theorem timely_eq (w : Wld) : timely w = (wldOk w && all1 (fun e => decide (e.time ≤ w.now) && (e.err != 2 || isDue e.time (dueOf w.tree e.node))) w.events) := rfl
-- spec.TimelyIn
theorem s_TimelyIn {F : Nat → Bool} {w : Wld} : PC ctx.P 22 [.agg (wldV F w)] (.bool (timely w)) := by
  refine PC.lim (n := w.events.length) (x := .agg (wldV F w)) (by simp) (.agg (x := .view (F 3) 4 (w.events.map evtC)) (by simp [wldV]) (.here (by simp))) ⟨_, Tryz.func22, by kernel_rfl, by kernel_rfl⟩ fun hlim => ?_
  by_cases hw : wldOk w = true
  · have ht := wldOk_tree hw
    refine PC.of okC Tryz.func22 rfl rfl (by kernel_rfl) (Nat.le_of_ble_eq_true rfl) (.bool _) fun h nx hnx => ?_
    show goC ctx _ _ (.fin (RetP _ _ _ _ _))
    try simp [-List.map_take, -List.map_drop, -List.map_tail, run_guard, run_guardD, resultsA, resA, Nat.add_assoc, wldV, hw]
    repeat'
      first
      | done
      | ((first
          | ((with_reducible show lenS _ _ _ _ _ _); refine lenS_slice rfl fun _ => ?_)
          | ((with_reducible show iaddrS _ _ _ _ _ _ _); refine iaddr_map rfl (by first | omega | (simp; done) | (simp; omega) | (simp [inR, isIn] at *; done) | (simp [inR, isIn] at *; omega)) (by first | omega | (simp; done) | (simp; omega) | (simp [inR, isIn] at *; done) | (simp [inR, isIn] at *; omega)) ?_)
          | ((with_reducible show doCall _ _ _ 57 _ _); refine call_pc (s_WorldOk (w := w) (F := F)) ?_)
          | (with_reducible refine go_draw (i := 7) [(0, [], []), (1, [], []), (2, [], []), (3, [], []), (4, [], []), (5, [], []), (6, [], []), (7, [], []), (8, [], []), (9, [], []), (10, [], []), (11, [], []), (12, [], []), (13, [], []), (14, [], []), (15, [], []), (16, [.tmp 30], []), (17, [], []), (18, [], []), (19, [], []), (20, [], [])] (by kernel_rfl) ?_)) <;> simp [-List.map_take, -List.map_drop, -List.map_tail, run_guard, run_guardD, resultsA, resA, Nat.add_assoc, wldV, hw])
      | ((first | (with_reducible refine guardD_split ?_ ?_) | (with_reducible refine condS_split ?_ ?_)) <;> intro qb <;> (have qp := qb; try simp only [psq] at qp) <;> simp [-List.map_take, -List.map_drop, -List.map_tail, run_guard, run_guardD, resultsA, resA, Nat.add_assoc, wldV, hw, qb])
    refine go_upP [2, 3, 4, 8, 9, 10, 11, 12, 13, 14, 15, 16, 17, 18, 19, 20, 21, 22, 23, 24, 25, 26, 27, 28, 29, 30, 31, 32, 33, 34, 35, 36, 37, 38, 39, 40] (w.events.length) (fun (i : Nat) a => [(3, .int .i64 i)]) (fun i_ a_ h_ _ => (fun (i : Nat) (_ : Unit) _ => all1 (fun e => decide (e.time ≤ w.now) && (e.err != 2 || isDue e.time (dueOf w.tree e.node))) (w.events.drop i) = all1 (fun e => decide (e.time ≤ w.now) && (e.err != 2 || isDue e.time (dueOf w.tree e.node))) w.events) i_ a_ h_) (()) (by simp) ?_ keep_rfl (Nat.le_refl _) ?_
    · simp
    · intro i a tm h' n' hle hJ hE hn' next hnx
      try dsimp only at hJ
      have hK : KeepB nx h' h := KeepB.sub hE (by repeat' first | exact hE2 | exact hK2 | exact hE | exact hK | exact keep_rfl | refine keep_upd_of (by omega) ?_ | refine KeepB.sub hE2 ?_ (by omega)) (by omega)
      simp [-List.map_take, -List.map_drop, -List.map_tail]
      have e1 : h' (nx) = some (.obj (wldV F w)) := by have := hE (nx) (by omega); simpa [wldV] using this
      have e1n : ∀ k, ((nx) = n' + k) = False := fun k => by simp only [eq_iff_iff, iff_false]; omega
      have e1m : ((nx) = n') = False := by simp only [eq_iff_iff, iff_false]; omega
      by_cases hi : i < w.events.length
      · have hn := wldOk_evn hw _ (gt_mem (z := (i : Int)) (by omega) (by omega))
        rw [isIn_true] at hn
        try simp [-List.map_take, -List.map_drop, -List.map_tail, run_guard, run_guardD, resultsA, resA, Nat.add_assoc, wldV, evtC, e1, e1n, e1m]
        repeat'
          first
          | done
          | ((first
              | ((with_reducible show lenS _ _ _ _ _ _); refine lenS_slice rfl fun _ => ?_)
              | ((with_reducible show iaddrS _ _ _ _ _ _ _); refine iaddr_map rfl (by first | omega | (simp; done) | (simp; omega) | (simp [inR, isIn] at *; done) | (simp [inR, isIn] at *; omega)) (by first | omega | (simp; done) | (simp; omega) | (simp [inR, isIn] at *; done) | (simp [inR, isIn] at *; omega)) ?_)
              | ((with_reducible show doCall _ _ _ 81 _ _); refine call_pc (s_DueOf ht hn.1 hn.2) ?_)
              | ((with_reducible show doCall _ _ _ 80 _ _); refine call_pc (s_IsDue) ?_)
              | (with_reducible refine go_draw (i := 7) [(0, [], []), (1, [], []), (2, [], []), (3, [], []), (4, [], []), (5, [], []), (6, [], []), (7, [], []), (8, [], []), (9, [], []), (10, [], []), (11, [], []), (12, [], []), (13, [], []), (14, [], []), (15, [], []), (16, [.tmp 30], []), (17, [], []), (18, [], []), (19, [], []), (20, [], [])] (by kernel_rfl) ?_)) <;> simp [-List.map_take, -List.map_drop, -List.map_tail, run_guard, run_guardD, resultsA, resA, Nat.add_assoc, wldV, evtC, e1, e1n, e1m])
          | ((first | (with_reducible refine guardD_split ?_ ?_) | (with_reducible refine condS_split ?_ ?_)) <;> intro qb <;> (have qp := qb; try simp only [psq] at qp) <;> simp [-List.map_take, -List.map_drop, -List.map_tail, run_guard, run_guardD, resultsA, resA, Nat.add_assoc, wldV, evtC, e1, e1n, e1m, qb])
        all_goals
          first
          | (have hlt : i < w.events.length := (by first | omega | (simp at *; omega))
             rw [drop_gt hlt] at hJ
             first
             | (refine hnx.go (()) ?_ ?_ ?_ ?_ ?_ ?_; omega; (simp [wrap_succ hlt hlim]); (simp); exact (by repeat' first | exact hE2 | exact hK2 | exact hE | exact hK | exact keep_rfl | refine keep_upd_of (by omega) ?_ | refine KeepB.sub hE2 ?_ (by omega)); (first | omega | (simp; omega)); (try dsimp only); clear hnx; first | ((try simp only [List.drop_length, Int.toNat_natCast, all1_cons, all1_nil, timely_eq] at hJ ⊢); grind) | (simp_all [all1_cons, all1_nil, timely_eq]; done) | (simp_all; omega))
             | (refine ⟨?_, (by repeat' first | exact hE2 | exact hK2 | exact hE | exact hK | exact keep_rfl | refine keep_upd_of (by omega) ?_ | refine KeepB.sub hE2 ?_ (by omega))⟩; clear hnx; first | ((try simp only [List.drop_length, Int.toNat_natCast, all1_cons, all1_nil, timely_eq] at hJ ⊢); grind) | (simp_all [all1_cons, all1_nil, timely_eq]; done) | (simp_all; omega)))
          | (obtain rfl : i = w.events.length := (by first | omega | (simp at *; omega))
             refine ⟨?_, (by repeat' first | exact hE2 | exact hK2 | exact hE | exact hK | exact keep_rfl | refine keep_upd_of (by omega) ?_ | refine KeepB.sub hE2 ?_ (by omega))⟩; clear hnx; first | ((try simp only [List.drop_length, Int.toNat_natCast, all1_cons, all1_nil, timely_eq] at hJ ⊢); grind) | (simp_all [all1_cons, all1_nil, timely_eq]; done) | (simp_all; omega))
      · have hi2 : ¬ ((i : Int) < w.events.length) := by omega
        try simp [-List.map_take, -List.map_drop, -List.map_tail, run_guard, run_guardD, resultsA, resA, Nat.add_assoc, wldV, e1, e1n, e1m, hi, hi2]
        repeat'
          first
          | done
          | ((first
              | ((with_reducible show lenS _ _ _ _ _ _); refine lenS_slice rfl fun _ => ?_)
              | ((with_reducible show iaddrS _ _ _ _ _ _ _); refine iaddr_map rfl (by first | omega | (simp; done) | (simp; omega) | (simp [inR, isIn] at *; done) | (simp [inR, isIn] at *; omega)) (by first | omega | (simp; done) | (simp; omega) | (simp [inR, isIn] at *; done) | (simp [inR, isIn] at *; omega)) ?_)
              | (with_reducible refine go_draw (i := 7) [(0, [], []), (1, [], []), (2, [], []), (3, [], []), (4, [], []), (5, [], []), (6, [], []), (7, [], []), (8, [], []), (9, [], []), (10, [], []), (11, [], []), (12, [], []), (13, [], []), (14, [], []), (15, [], []), (16, [.tmp 30], []), (17, [], []), (18, [], []), (19, [], []), (20, [], [])] (by kernel_rfl) ?_)) <;> simp [-List.map_take, -List.map_drop, -List.map_tail, run_guard, run_guardD, resultsA, resA, Nat.add_assoc, wldV, e1, e1n, e1m, hi, hi2])
          | ((first | (with_reducible refine guardD_split ?_ ?_) | (with_reducible refine condS_split ?_ ?_)) <;> intro qb <;> (have qp := qb; try simp only [psq] at qp) <;> simp [-List.map_take, -List.map_drop, -List.map_tail, run_guard, run_guardD, resultsA, resA, Nat.add_assoc, wldV, e1, e1n, e1m, hi, hi2, qb])
        refine ⟨?_, (by repeat' first | exact hE2 | exact hK2 | exact hE | exact hK | exact keep_rfl | refine keep_upd_of (by omega) ?_ | refine KeepB.sub hE2 ?_ (by omega))⟩
        rw [List.drop_eq_nil_of_le (by omega)] at hJ
        simp only [all1_nil] at hJ
        clear hnx; rw [timely_eq]; grind
  · refine PC.of okC Tryz.func22 rfl rfl (by kernel_rfl) (Nat.le_of_ble_eq_true rfl) (.bool _) fun h nx hnx => ?_
    show goC ctx _ _ (.fin (RetP _ _ _ _ _))
    try simp [-List.map_take, -List.map_drop, -List.map_tail, run_guard, run_guardD, resultsA, resA, Nat.add_assoc, hw]
    repeat'
      first
      | done
      | ((first
          | ((with_reducible show lenS _ _ _ _ _ _); refine lenS_slice rfl fun _ => ?_)
          | ((with_reducible show iaddrS _ _ _ _ _ _ _); refine iaddr_map rfl (by first | omega | (simp; done) | (simp; omega) | (simp [inR, isIn] at *; done) | (simp [inR, isIn] at *; omega)) (by first | omega | (simp; done) | (simp; omega) | (simp [inR, isIn] at *; done) | (simp [inR, isIn] at *; omega)) ?_)
          | ((with_reducible show doCall _ _ _ 57 _ _); refine call_pc (s_WorldOk (w := w) (F := F)) ?_)
          | (with_reducible refine go_draw (i := 7) [(0, [], []), (1, [], []), (2, [], []), (3, [], []), (4, [], []), (5, [], []), (6, [], []), (7, [], []), (8, [], []), (9, [], []), (10, [], []), (11, [], []), (12, [], []), (13, [], []), (14, [], []), (15, [], []), (16, [.tmp 30], []), (17, [], []), (18, [], []), (19, [], []), (20, [], [])] (by kernel_rfl) ?_)) <;> simp [-List.map_take, -List.map_drop, -List.map_tail, run_guard, run_guardD, resultsA, resA, Nat.add_assoc, hw])
      | ((first | (with_reducible refine guardD_split ?_ ?_) | (with_reducible refine condS_split ?_ ?_)) <;> intro qb <;> (have qp := qb; try simp only [psq] at qp) <;> simp [-List.map_take, -List.map_drop, -List.map_tail, run_guard, run_guardD, resultsA, resA, Nat.add_assoc, hw, qb])
    all_goals (try clear hnx)
    all_goals first | (simp_all [timely]; done) | (simp_all [timely]; omega) | (rw [Bool.eq_iff_iff]; simp_all [timely]; done) | (rw [Bool.eq_iff_iff]; simp_all [timely]; omega) | omega | (simp only [timely]; grind) | grind
end Go.AE.Tryz
end

section
/- Contracts of the reference's conditions: below, heard, steps. -/
set_option linter.unusedSimpArgs false
set_option linter.unusedVariables false
set_option maxRecDepth 8000
set_option maxHeartbeats 4000000
namespace Go.AE.Tryz
open Go.Proofs

-- spec.l19Done
theorem s_Done {F : Nat → Bool} {w : Wld} {n : Int} (ht : treeOk w.tree = true) (h0 : 0 ≤ n) (h1 : n < w.tree.length) : PC ctx.P 86 [.agg (wldV F w), .int .i64 n] (.bool (doneN w.tree w.events n)) := by
  have hin : isIn n w.tree = true := by rw [isIn_true]; omega
  rw [doneN_idx hin]
  refine PC.of okC Tryz.func86 rfl rfl (by kernel_rfl) (Nat.le_of_ble_eq_true rfl) (.bool _) fun h nx hnx => ?_
  show goC ctx _ _ (.fin (RetP _ _ _ _ _))
  try simp [-List.map_take, -List.map_drop, -List.map_tail, run_guard, run_guardD, resultsA, resA, Nat.add_assoc, wldV]
  repeat'
    first
    | done
    | ((first
        | ((with_reducible show doCall _ _ _ 199 _ _); refine call_pc (s_l6First ht h0 h1) ?_)) <;> simp [-List.map_take, -List.map_drop, -List.map_tail, run_guard, run_guardD, resultsA, resA, Nat.add_assoc, wldV])
-- spec.BelowIn
theorem s_BelowIn {F : Nat → Bool} {w : Wld} : PC ctx.P 24 [.agg (wldV F w)] (.bool (below w)) := by
  refine PC.lim (n := w.tree.length) (x := .agg (wldV F w)) (by simp) (.agg (x := .view (F 2) 5 (w.tree.map nodC)) (by simp [wldV]) (.here (by simp))) ⟨_, Tryz.func24, by kernel_rfl, by kernel_rfl⟩ fun hlim => ?_
  by_cases hw : wldOk w = true
  · have ht := wldOk_tree hw
    have hlim' := hlim
    simp only [LIM] at hlim'
    refine PC.of okC Tryz.func24 rfl rfl (by kernel_rfl) (Nat.le_of_ble_eq_true rfl) (.bool _) fun h nx hnx => ?_
    show goC ctx _ _ (.fin (RetP _ _ _ _ _))
    try simp [-List.map_take, -List.map_drop, -List.map_tail, run_guard, run_guardD, resultsA, resA, Nat.add_assoc, wldV, hw]
    repeat'
      first
      | done
      | ((first
          | ((with_reducible show lenS _ _ _ _ _ _); refine lenS_slice rfl fun _ => ?_)
          | ((with_reducible show iaddrS _ _ _ _ _ _ _); refine iaddr_map rfl (by first | omega | (simp; done) | (simp; omega) | (simp [inR, isIn] at *; done) | (simp [inR, isIn] at *; omega)) (by first | omega | (simp; done) | (simp; omega) | (simp [inR, isIn] at *; done) | (simp [inR, isIn] at *; omega)) ?_)
          | ((with_reducible show doCall _ _ _ 57 _ _); refine call_pc (s_WorldOk (w := w) (F := F)) ?_)) <;> simp [-List.map_take, -List.map_drop, -List.map_tail, run_guard, run_guardD, resultsA, resA, Nat.add_assoc, wldV, hw])
      | ((first | (with_reducible refine guardS_split ?_ ?_) | (with_reducible refine condS_split ?_ ?_)) <;> intro qb <;> (have qp := qb; try simp only [psq] at qp) <;> simp [-List.map_take, -List.map_drop, -List.map_tail, run_guard, run_guardD, resultsA, resA, Nat.add_assoc, wldV, hw, qb])
    refine go_upP [2, 3, 4, 8, 9, 10, 11, 12, 13, 14, 15, 16, 17, 18, 19, 20, 21, 22, 23, 24, 25, 26, 27, 28, 29, 30, 31, 32, 33, 34, 35, 36, 37, 38, 39, 40] (w.tree.length) (fun (i : Nat) a => [(3, .int .i64 i)]) (fun i_ a_ h_ _ => (fun (i : Nat) (_ : Unit) _ => allI (belowB w.tree w.events) (w.tree.drop i) i = allI (belowB w.tree w.events) w.tree 0) i_ a_ h_) (()) (by simp) ?_ keep_rfl (Nat.le_refl _) ?_
    · simp
    · intro i a tm h' n' hle hJ hE hn' next hnx
      try dsimp only at hJ
      have hK : KeepB nx h' h := KeepB.sub hE (by repeat' first | exact hE2 | exact hK2 | exact hE | exact hK | exact keep_rfl | refine keep_upd_of (by omega) ?_ | refine KeepB.sub hE2 ?_ (by omega)) (by omega)
      simp [-List.map_take, -List.map_drop, -List.map_tail]
      have e1 : h' (nx) = some (.obj (wldV F w)) := by have := hE (nx) (by omega); simpa [wldV] using this
      have e1n : ∀ k, ((nx) = n' + k) = False := fun k => by simp only [eq_iff_iff, iff_false]; omega
      have e1m : ((nx) = n') = False := by simp only [eq_iff_iff, iff_false]; omega
      by_cases hi : i < w.tree.length
      · have hb := belowS_eq (l := w.events) ht (show (0 : Int) ≤ (i : Int) by omega) (by omega)
        have hu := treeOk_up ht (show (0 : Int) ≤ (i : Int) by omega) (by omega)
        rw [drop_gt hi] at hJ
        simp only [allI, hb, belowS] at hJ
        try simp [-List.map_take, -List.map_drop, -List.map_tail, run_guard, run_guardD, resultsA, resA, Nat.add_assoc, wldV, nodC, e1, e1n, e1m, i64_ok (x := (w.tree.length : Int)) (by omega)]
        repeat'
          first
          | done
          | ((first
              | ((with_reducible show lenS _ _ _ _ _ _); refine lenS_slice rfl fun _ => ?_)
              | ((with_reducible show iaddrS _ _ _ _ _ _ _); refine iaddr_map rfl (by first | omega | (simp; done) | (simp; omega) | (simp [inR, isIn] at *; done) | (simp [inR, isIn] at *; omega)) (by first | omega | (simp; done) | (simp; omega) | (simp [inR, isIn] at *; done) | (simp [inR, isIn] at *; omega)) ?_)
              | ((with_reducible show doCall _ _ _ 86 _ _); refine call_pc (s_Done (w := w) (F := F) (n := (i : Int)) ht (by omega) (by omega)) ?_)
              | ((with_reducible show doCall _ _ _ 86 _ _); refine call_pc (s_Done (w := w) (F := F) (n := (gt w.tree (i : Int)).up) ht (hu (by assumption)).1 (by have := hu (by assumption); omega)) ?_)) <;> simp [-List.map_take, -List.map_drop, -List.map_tail, run_guard, run_guardD, resultsA, resA, Nat.add_assoc, wldV, nodC, e1, e1n, e1m, i64_ok (x := (w.tree.length : Int)) (by omega)])
          | ((first | (with_reducible refine guardS_split ?_ ?_) | (with_reducible refine condS_split ?_ ?_)) <;> intro qb <;> (have qp := qb; try simp only [psq] at qp) <;> simp [-List.map_take, -List.map_drop, -List.map_tail, run_guard, run_guardD, resultsA, resA, Nat.add_assoc, wldV, nodC, e1, e1n, e1m, i64_ok (x := (w.tree.length : Int)) (by omega), qb])
        all_goals first
          | omega
          | (refine ⟨?_, (by repeat' first | exact hE2 | exact hK2 | exact hE | exact hK | exact keep_rfl | refine keep_upd_of (by omega) ?_ | refine KeepB.sub hE2 ?_ (by omega))⟩; clear hnx; simp only [below]; grind)
          | (refine hnx.go () ?_ ?_ ?_ ?_ ?_ ?_; omega; (simp [wrap_succ hi hlim]); simp; exact (by repeat' first | exact hE2 | exact hK2 | exact hE | exact hK | exact keep_rfl | refine keep_upd_of (by omega) ?_ | refine KeepB.sub hE2 ?_ (by omega)); (first | omega | (simp; omega)); (clear hnx; dsimp only; grind))
      · have hi2 : ¬ ((i : Int) < w.tree.length) := by omega
        try simp [-List.map_take, -List.map_drop, -List.map_tail, run_guard, run_guardD, resultsA, resA, Nat.add_assoc, wldV, e1, e1n, e1m, hi, hi2, i64_ok (x := (w.tree.length : Int)) (by omega)]
        repeat'
          first
          | done
          | ((first
              | ((with_reducible show lenS _ _ _ _ _ _); refine lenS_slice rfl fun _ => ?_)
              | ((with_reducible show iaddrS _ _ _ _ _ _ _); refine iaddr_map rfl (by first | omega | (simp; done) | (simp; omega) | (simp [inR, isIn] at *; done) | (simp [inR, isIn] at *; omega)) (by first | omega | (simp; done) | (simp; omega) | (simp [inR, isIn] at *; done) | (simp [inR, isIn] at *; omega)) ?_)) <;> simp [-List.map_take, -List.map_drop, -List.map_tail, run_guard, run_guardD, resultsA, resA, Nat.add_assoc, wldV, e1, e1n, e1m, hi, hi2, i64_ok (x := (w.tree.length : Int)) (by omega)])
          | ((first | (with_reducible refine guardS_split ?_ ?_) | (with_reducible refine condS_split ?_ ?_)) <;> intro qb <;> (have qp := qb; try simp only [psq] at qp) <;> simp [-List.map_take, -List.map_drop, -List.map_tail, run_guard, run_guardD, resultsA, resA, Nat.add_assoc, wldV, e1, e1n, e1m, hi, hi2, i64_ok (x := (w.tree.length : Int)) (by omega), qb])
        refine ⟨?_, (by repeat' first | exact hE2 | exact hK2 | exact hE | exact hK | exact keep_rfl | refine keep_upd_of (by omega) ?_ | refine KeepB.sub hE2 ?_ (by omega))⟩
        rw [List.drop_eq_nil_of_le (by omega)] at hJ
        simp only [allI] at hJ
        clear hnx; simp only [below]; grind
  · refine PC.of okC Tryz.func24 rfl rfl (by kernel_rfl) (Nat.le_of_ble_eq_true rfl) (.bool _) fun h nx hnx => ?_
    show goC ctx _ _ (.fin (RetP _ _ _ _ _))
    try simp [-List.map_take, -List.map_drop, -List.map_tail, run_guard, run_guardD, resultsA, resA, Nat.add_assoc, hw]
    repeat'
      first
      | done
      | ((first
          | ((with_reducible show lenS _ _ _ _ _ _); refine lenS_slice rfl fun _ => ?_)
          | ((with_reducible show iaddrS _ _ _ _ _ _ _); refine iaddr_map rfl (by first | omega | (simp; done) | (simp; omega) | (simp [inR, isIn] at *; done) | (simp [inR, isIn] at *; omega)) (by first | omega | (simp; done) | (simp; omega) | (simp [inR, isIn] at *; done) | (simp [inR, isIn] at *; omega)) ?_)
          | ((with_reducible show doCall _ _ _ 57 _ _); refine call_pc (s_WorldOk (w := w) (F := F)) ?_)) <;> simp [-List.map_take, -List.map_drop, -List.map_tail, run_guard, run_guardD, resultsA, resA, Nat.add_assoc, hw])
      | ((first | (with_reducible refine guardS_split ?_ ?_) | (with_reducible refine condS_split ?_ ?_)) <;> intro qb <;> (have qp := qb; try simp only [psq] at qp) <;> simp [-List.map_take, -List.map_drop, -List.map_tail, run_guard, run_guardD, resultsA, resA, Nat.add_assoc, hw, qb])
    all_goals (try clear hnx)
    all_goals first | (simp_all [below]; done) | (simp_all [below]; omega) | (rw [Bool.eq_iff_iff]; simp_all [below]; done) | (rw [Bool.eq_iff_iff]; simp_all [below]; omega) | omega | (simp only [below]; grind) | grind
-- spec.HeardIn
theorem s_HeardIn {F : Nat → Bool} {w : Wld} : PC ctx.P 28 [.agg (wldV F w)] (.bool (heard w)) := by
  refine PC.lim (n := w.tree.length) (x := .agg (wldV F w)) (by simp) (.agg (x := .view (F 2) 5 (w.tree.map nodC)) (by simp [wldV]) (.here (by simp))) ⟨_, Tryz.func28, by kernel_rfl, by kernel_rfl⟩ fun hlim => ?_
  by_cases hw : wldOk w = true
  · have ht := wldOk_tree hw
    have htl := wldOk_told hw
    have he := heard_eq (l := w.events) htl
    have hlim' := hlim
    simp only [LIM] at hlim'
    refine PC.of okC Tryz.func28 rfl rfl (by kernel_rfl) (Nat.le_of_ble_eq_true rfl) (.bool _) fun h nx hnx => ?_
    show goC ctx _ _ (.fin (RetP _ _ _ _ _))
    try simp [-List.map_take, -List.map_drop, -List.map_tail, run_guard, run_guardD, resultsA, resA, Nat.add_assoc, wldV, hw]
    repeat'
      first
      | done
      | ((first
          | ((with_reducible show lenS _ _ _ _ _ _); refine lenS_slice rfl fun _ => ?_)
          | ((with_reducible show iaddrS _ _ _ _ _ _ _); refine iaddr_map rfl (by first | omega | (simp; done) | (simp; omega) | (simp [inR, isIn] at *; done) | (simp [inR, isIn] at *; omega)) (by first | omega | (simp; done) | (simp; omega) | (simp [inR, isIn] at *; done) | (simp [inR, isIn] at *; omega)) ?_)
          | ((with_reducible show doCall _ _ _ 57 _ _); refine call_pc (s_WorldOk (w := w) (F := F)) ?_)
          | (with_reducible refine go_draw (i := 6) [(0, [], []), (1, [], []), (2, [], []), (3, [], []), (4, [], []), (5, [], []), (6, [], []), (7, [], []), (8, [.tmp 15, .tmp 18], []), (9, [], [])] (by kernel_rfl) ?_)) <;> simp [-List.map_take, -List.map_drop, -List.map_tail, run_guard, run_guardD, resultsA, resA, Nat.add_assoc, wldV, hw])
      | ((first | (with_reducible refine condS_split ?_ ?_)) <;> intro qb <;> (have qp := qb; try simp only [psq] at qp) <;> simp [-List.map_take, -List.map_drop, -List.map_tail, run_guard, run_guardD, resultsA, resA, Nat.add_assoc, wldV, hw, qb])
    refine go_upP [2, 3, 7, 8, 9, 10, 11, 12, 13, 14, 15, 16, 17, 18, 19, 20, 21, 22, 23] (w.tree.length) (fun (i : Nat) a => [(3, .int .i64 i)]) (fun i_ a_ h_ _ => (fun (i : Nat) (_ : Unit) _ => allI (fun i _ => gt w.spread.told i == doneN w.tree w.events i) (w.tree.drop i) i = (toldOf w.spread.told == doneBy w.tree w.events)) i_ a_ h_) (()) (by simp) ?_ keep_rfl (Nat.le_refl _) ?_
    · simp [he]
    · intro i a tm h' n' hle hJ hE hn' next hnx
      try dsimp only at hJ
      have hK : KeepB nx h' h := KeepB.sub hE (by repeat' first | exact hE2 | exact hK2 | exact hE | exact hK | exact keep_rfl | refine keep_upd_of (by omega) ?_ | refine KeepB.sub hE2 ?_ (by omega)) (by omega)
      simp [-List.map_take, -List.map_drop, -List.map_tail]
      have e1 : h' (nx) = some (.obj (wldV F w)) := by have := hE (nx) (by omega); simpa [wldV] using this
      have e1n : ∀ k, ((nx) = n' + k) = False := fun k => by simp only [eq_iff_iff, iff_false]; omega
      have e1m : ((nx) = n') = False := by simp only [eq_iff_iff, iff_false]; omega
      by_cases hi : i < w.tree.length
      · rw [drop_gt hi] at hJ
        simp only [allI] at hJ
        try simp [-List.map_take, -List.map_drop, -List.map_tail, run_guard, run_guardD, resultsA, resA, Nat.add_assoc, wldV, bv, e1, e1n, e1m, i64_ok (x := (w.tree.length : Int)) (by omega)]
        repeat'
          first
          | done
          | ((first
              | ((with_reducible show lenS _ _ _ _ _ _); refine lenS_slice rfl fun _ => ?_)
              | ((with_reducible show iaddrS _ _ _ _ _ _ _); refine iaddr_map rfl (by first | omega | (simp; done) | (simp; omega) | (simp [inR, isIn] at *; done) | (simp [inR, isIn] at *; omega)) (by first | omega | (simp; done) | (simp; omega) | (simp [inR, isIn] at *; done) | (simp [inR, isIn] at *; omega)) ?_)
              | ((with_reducible show doCall _ _ _ 86 _ _); refine call_pc (s_Done (w := w) (F := F) (n := (i : Int)) ht (by omega) (by omega)) ?_)
              | (with_reducible refine go_draw (i := 6) [(0, [], []), (1, [], []), (2, [], []), (3, [], []), (4, [], []), (5, [], []), (6, [], []), (7, [], []), (8, [.tmp 15, .tmp 18], []), (9, [], [])] (by kernel_rfl) ?_)) <;> simp [-List.map_take, -List.map_drop, -List.map_tail, run_guard, run_guardD, resultsA, resA, Nat.add_assoc, wldV, bv, e1, e1n, e1m, i64_ok (x := (w.tree.length : Int)) (by omega)])
          | ((first | (with_reducible refine condS_split ?_ ?_)) <;> intro qb <;> (have qp := qb; try simp only [psq] at qp) <;> simp [-List.map_take, -List.map_drop, -List.map_tail, run_guard, run_guardD, resultsA, resA, Nat.add_assoc, wldV, bv, e1, e1n, e1m, i64_ok (x := (w.tree.length : Int)) (by omega), qb])
        all_goals first
          | omega
          | (refine ⟨?_, (by repeat' first | exact hE2 | exact hK2 | exact hE | exact hK | exact keep_rfl | refine keep_upd_of (by omega) ?_ | refine KeepB.sub hE2 ?_ (by omega))⟩; clear hnx; simp only [heard]; grind)
          | (refine hnx.go () ?_ ?_ ?_ ?_ ?_ ?_; omega; (simp [wrap_succ hi hlim]); simp; exact (by repeat' first | exact hE2 | exact hK2 | exact hE | exact hK | exact keep_rfl | refine keep_upd_of (by omega) ?_ | refine KeepB.sub hE2 ?_ (by omega)); (first | omega | (simp; omega)); (clear hnx; dsimp only; grind))
      · have hi2 : ¬ ((i : Int) < w.tree.length) := by omega
        try simp [-List.map_take, -List.map_drop, -List.map_tail, run_guard, run_guardD, resultsA, resA, Nat.add_assoc, wldV, e1, e1n, e1m, hi, hi2, i64_ok (x := (w.tree.length : Int)) (by omega)]
        repeat'
          first
          | done
          | ((first
              | ((with_reducible show lenS _ _ _ _ _ _); refine lenS_slice rfl fun _ => ?_)
              | ((with_reducible show iaddrS _ _ _ _ _ _ _); refine iaddr_map rfl (by first | omega | (simp; done) | (simp; omega) | (simp [inR, isIn] at *; done) | (simp [inR, isIn] at *; omega)) (by first | omega | (simp; done) | (simp; omega) | (simp [inR, isIn] at *; done) | (simp [inR, isIn] at *; omega)) ?_)
              | (with_reducible refine go_draw (i := 6) [(0, [], []), (1, [], []), (2, [], []), (3, [], []), (4, [], []), (5, [], []), (6, [], []), (7, [], []), (8, [.tmp 15, .tmp 18], []), (9, [], [])] (by kernel_rfl) ?_)) <;> simp [-List.map_take, -List.map_drop, -List.map_tail, run_guard, run_guardD, resultsA, resA, Nat.add_assoc, wldV, e1, e1n, e1m, hi, hi2, i64_ok (x := (w.tree.length : Int)) (by omega)])
          | ((first | (with_reducible refine condS_split ?_ ?_)) <;> intro qb <;> (have qp := qb; try simp only [psq] at qp) <;> simp [-List.map_take, -List.map_drop, -List.map_tail, run_guard, run_guardD, resultsA, resA, Nat.add_assoc, wldV, e1, e1n, e1m, hi, hi2, i64_ok (x := (w.tree.length : Int)) (by omega), qb])
        refine ⟨?_, (by repeat' first | exact hE2 | exact hK2 | exact hE | exact hK | exact keep_rfl | refine keep_upd_of (by omega) ?_ | refine KeepB.sub hE2 ?_ (by omega))⟩
        rw [List.drop_eq_nil_of_le (by omega)] at hJ
        simp only [allI] at hJ
        clear hnx; simp only [heard]; grind
  · refine PC.of okC Tryz.func28 rfl rfl (by kernel_rfl) (Nat.le_of_ble_eq_true rfl) (.bool _) fun h nx hnx => ?_
    show goC ctx _ _ (.fin (RetP _ _ _ _ _))
    try simp [-List.map_take, -List.map_drop, -List.map_tail, run_guard, run_guardD, resultsA, resA, Nat.add_assoc, hw]
    repeat'
      first
      | done
      | ((first
          | ((with_reducible show lenS _ _ _ _ _ _); refine lenS_slice rfl fun _ => ?_)
          | ((with_reducible show iaddrS _ _ _ _ _ _ _); refine iaddr_map rfl (by first | omega | (simp; done) | (simp; omega) | (simp [inR, isIn] at *; done) | (simp [inR, isIn] at *; omega)) (by first | omega | (simp; done) | (simp; omega) | (simp [inR, isIn] at *; done) | (simp [inR, isIn] at *; omega)) ?_)
          | ((with_reducible show doCall _ _ _ 57 _ _); refine call_pc (s_WorldOk (w := w) (F := F)) ?_)
          | (with_reducible refine go_draw (i := 6) [(0, [], []), (1, [], []), (2, [], []), (3, [], []), (4, [], []), (5, [], []), (6, [], []), (7, [], []), (8, [.tmp 15, .tmp 18], []), (9, [], [])] (by kernel_rfl) ?_)) <;> simp [-List.map_take, -List.map_drop, -List.map_tail, run_guard, run_guardD, resultsA, resA, Nat.add_assoc, hw])
      | ((first | (with_reducible refine condS_split ?_ ?_)) <;> intro qb <;> (have qp := qb; try simp only [psq] at qp) <;> simp [-List.map_take, -List.map_drop, -List.map_tail, run_guard, run_guardD, resultsA, resA, Nat.add_assoc, hw, qb])
    all_goals (try clear hnx)
    all_goals first | (simp_all [heard]; done) | (simp_all [heard]; omega) | (rw [Bool.eq_iff_iff]; simp_all [heard]; done) | (rw [Bool.eq_iff_iff]; simp_all [heard]; omega) | omega | (simp only [heard]; grind) | grind
-- spec.StepsLeft
theorem s_StepsLeft {F : Nat → Bool} {w : Wld} : PC ctx.P 20 [.agg (wldV F w)] (.int .i64 (stepsLeft w)) := by
  refine PC.lim (n := w.tasks.length) (x := .agg (wldV F w)) (by simp) (.agg (x := .view (F 11) 9 (w.tasks.map tskC)) (by simp [wldV]) (.here (by simp))) ⟨_, Tryz.func20, by kernel_rfl, by kernel_rfl⟩ fun hlim => ?_
  by_cases hw : wldOk w = true
  · have hl60 := tasksOk_len (wldOk_tasks hw)
    refine PC.of okC Tryz.func20 rfl rfl (by kernel_rfl) (Nat.le_of_ble_eq_true rfl) (.int _ _) fun h nx hnx => ?_
    show goC ctx _ _ (.fin (RetP _ _ _ _ _))
    try simp [-List.map_take, -List.map_drop, -List.map_tail, run_guard, run_guardD, resultsA, resA, Nat.add_assoc, wldV, hw]
    repeat'
      first
      | done
      | ((first
          | ((with_reducible show lenS _ _ _ _ _ _); refine lenS_slice rfl fun _ => ?_)
          | ((with_reducible show iaddrS _ _ _ _ _ _ _); refine iaddr_map rfl (by first | omega | (simp; done) | (simp; omega) | (simp [inR, isIn] at *; done) | (simp [inR, isIn] at *; omega)) (by first | omega | (simp; done) | (simp; omega) | (simp [inR, isIn] at *; done) | (simp [inR, isIn] at *; omega)) ?_)
          | ((with_reducible show doCall _ _ _ 57 _ _); refine call_pc (s_WorldOk (w := w) (F := F)) ?_)
          | (with_reducible refine go_draw (i := 9) [(0, [], []), (1, [], []), (2, [], []), (3, [], []), (4, [], []), (5, [], []), (6, [], []), (7, [], []), (8, [], []), (9, [], []), (10, [], []), (11, [], []), (12, [], []), (13, [], []), (14, [], [])] (by kernel_rfl) ?_)) <;> simp [-List.map_take, -List.map_drop, -List.map_tail, run_guard, run_guardD, resultsA, resA, Nat.add_assoc, wldV, hw])
      | ((first | (with_reducible refine condS_split ?_ ?_)) <;> intro qb <;> (have qp := qb; try simp only [psq] at qp) <;> simp [-List.map_take, -List.map_drop, -List.map_tail, run_guard, run_guardD, resultsA, resA, Nat.add_assoc, wldV, hw, qb])
    refine go_upP [3, 4, 5, 9, 10, 11, 12, 13, 14, 15, 16, 17, 18, 19, 20, 21, 22, 23, 24, 25, 26, 27, 28, 29, 30, 31, 32, 33, 34, 35, 36, 37, 38, 39, 40, 41, 42] (w.tasks.length) (fun (i : Nat) a => [(4, .int .i64 i), (3, .int .i64 a)]) (fun i_ a_ h_ _ => (fun (i : Nat) (a : Int) _ => a + lsumI (left1 w) (w.tasks.drop i) = lsumI (left1 w) w.tasks ∧ 0 ≤ a ∧ a ≤ 30 * i) i_ a_ h_) (0) (by simp) ?_ keep_rfl (Nat.le_refl _) ?_
    · simp
    · intro i a tm h' n' hle hJ hE hn' next hnx
      try dsimp only at hJ
      have hK : KeepB nx h' h := KeepB.sub hE (by repeat' first | exact hE2 | exact hK2 | exact hE | exact hK | exact keep_rfl | refine keep_upd_of (by omega) ?_ | refine KeepB.sub hE2 ?_ (by omega)) (by omega)
      simp [-List.map_take, -List.map_drop, -List.map_tail]
      have e1 : h' (nx) = some (.obj (wldV F w)) := by have := hE (nx) (by omega); simpa [wldV] using this
      have e1n : ∀ k, ((nx) = n' + k) = False := fun k => by simp only [eq_iff_iff, iff_false]; omega
      have e1m : ((nx) = n') = False := by simp only [eq_iff_iff, iff_false]; omega
      obtain ⟨hJ, j0, j1⟩ := hJ
      by_cases hi : i < w.tasks.length
      · have hf := left1_in hw (show (0 : Int) ≤ (i : Int) by omega) (by omega)
        rw [drop_gt hi] at hJ
        try simp [-List.map_take, -List.map_drop, -List.map_tail, run_guard, run_guardD, resultsA, resA, Nat.add_assoc, wldV, tskC, prgV, e1, e1n, e1m, i64_ok (x := ((gt w.progs (gt w.tasks (i : Int)).prog).length : Int)) (by omega), i64_ok (x := ((gt w.progs (gt w.tasks (i : Int)).prog).length : Int) - (gt w.tasks (i : Int)).pc) (by omega), i64_ok (x := 2 * (((gt w.progs (gt w.tasks (i : Int)).prog).length : Int) - (gt w.tasks (i : Int)).pc)) (by omega), i64_ok (x := a + 2 * (((gt w.progs (gt w.tasks (i : Int)).prog).length : Int) - (gt w.tasks (i : Int)).pc)) (by omega), i64_ok (x := a + 2 * (((gt w.progs (gt w.tasks (i : Int)).prog).length : Int) - (gt w.tasks (i : Int)).pc) + 2) (by omega), i64_ok (x := a + 2 * (((gt w.progs (gt w.tasks (i : Int)).prog).length : Int) - (gt w.tasks (i : Int)).pc) + 2 - 1) (by omega), i64_ok (x := a - 1) (by omega)]
        repeat'
          first
          | done
          | ((first
              | ((with_reducible show lenS _ _ _ _ _ _); refine lenS_slice rfl fun _ => ?_)
              | ((with_reducible show iaddrS _ _ _ _ _ _ _); refine iaddr_map rfl (by first | omega | (simp; done) | (simp; omega) | (simp [inR, isIn] at *; done) | (simp [inR, isIn] at *; omega)) (by first | omega | (simp; done) | (simp; omega) | (simp [inR, isIn] at *; done) | (simp [inR, isIn] at *; omega)) ?_)
              | (with_reducible refine go_draw (i := 9) [(0, [], []), (1, [], []), (2, [], []), (3, [], []), (4, [], []), (5, [], []), (6, [], []), (7, [], []), (8, [], []), (9, [], []), (10, [], []), (11, [], []), (12, [], []), (13, [], []), (14, [], [])] (by kernel_rfl) ?_)) <;> simp [-List.map_take, -List.map_drop, -List.map_tail, run_guard, run_guardD, resultsA, resA, Nat.add_assoc, wldV, tskC, prgV, e1, e1n, e1m, i64_ok (x := ((gt w.progs (gt w.tasks (i : Int)).prog).length : Int)) (by omega), i64_ok (x := ((gt w.progs (gt w.tasks (i : Int)).prog).length : Int) - (gt w.tasks (i : Int)).pc) (by omega), i64_ok (x := 2 * (((gt w.progs (gt w.tasks (i : Int)).prog).length : Int) - (gt w.tasks (i : Int)).pc)) (by omega), i64_ok (x := a + 2 * (((gt w.progs (gt w.tasks (i : Int)).prog).length : Int) - (gt w.tasks (i : Int)).pc)) (by omega), i64_ok (x := a + 2 * (((gt w.progs (gt w.tasks (i : Int)).prog).length : Int) - (gt w.tasks (i : Int)).pc) + 2) (by omega), i64_ok (x := a + 2 * (((gt w.progs (gt w.tasks (i : Int)).prog).length : Int) - (gt w.tasks (i : Int)).pc) + 2 - 1) (by omega), i64_ok (x := a - 1) (by omega)])
          | ((first | (with_reducible refine condS_split ?_ ?_)) <;> intro qb <;> (have qp := qb; try simp only [psq] at qp) <;> simp [-List.map_take, -List.map_drop, -List.map_tail, run_guard, run_guardD, resultsA, resA, Nat.add_assoc, wldV, tskC, prgV, e1, e1n, e1m, i64_ok (x := ((gt w.progs (gt w.tasks (i : Int)).prog).length : Int)) (by omega), i64_ok (x := ((gt w.progs (gt w.tasks (i : Int)).prog).length : Int) - (gt w.tasks (i : Int)).pc) (by omega), i64_ok (x := 2 * (((gt w.progs (gt w.tasks (i : Int)).prog).length : Int) - (gt w.tasks (i : Int)).pc)) (by omega), i64_ok (x := a + 2 * (((gt w.progs (gt w.tasks (i : Int)).prog).length : Int) - (gt w.tasks (i : Int)).pc)) (by omega), i64_ok (x := a + 2 * (((gt w.progs (gt w.tasks (i : Int)).prog).length : Int) - (gt w.tasks (i : Int)).pc) + 2) (by omega), i64_ok (x := a + 2 * (((gt w.progs (gt w.tasks (i : Int)).prog).length : Int) - (gt w.tasks (i : Int)).pc) + 2 - 1) (by omega), i64_ok (x := a - 1) (by omega), qb])
        all_goals
          simp only [lsumI, left1] at hJ
          first
          | omega
          | (refine hnx.go a ?_ ?_ ?_ ?_ ?_ ?_; omega; (simp [wrap_succ hi hlim]); simp; exact (by repeat' first | exact hE2 | exact hK2 | exact hE | exact hK | exact keep_rfl | refine keep_upd_of (by omega) ?_ | refine KeepB.sub hE2 ?_ (by omega)); (first | omega | (simp; omega)); (clear hnx; refine ⟨?_, by omega, by omega⟩; simp_all; done))
          | (refine hnx.go (a + 2 * (((gt w.progs (gt w.tasks (i : Int)).prog).length : Int) - (gt w.tasks (i : Int)).pc) + 2 - 1) ?_ ?_ ?_ ?_ ?_ ?_; omega; (simp [wrap_succ hi hlim]); simp; exact (by repeat' first | exact hE2 | exact hK2 | exact hE | exact hK | exact keep_rfl | refine keep_upd_of (by omega) ?_ | refine KeepB.sub hE2 ?_ (by omega)); (first | omega | (simp; omega)); (clear hnx; refine ⟨?_, by omega, by omega⟩; rw [← hJ]; simp_all; omega))
          | (refine hnx.go (a + 2 * (((gt w.progs (gt w.tasks (i : Int)).prog).length : Int) - (gt w.tasks (i : Int)).pc) + 2) ?_ ?_ ?_ ?_ ?_ ?_; omega; (simp [wrap_succ hi hlim]); simp; exact (by repeat' first | exact hE2 | exact hK2 | exact hE | exact hK | exact keep_rfl | refine keep_upd_of (by omega) ?_ | refine KeepB.sub hE2 ?_ (by omega)); (first | omega | (simp; omega)); (clear hnx; refine ⟨?_, by omega, by omega⟩; rw [← hJ]; simp_all; omega))
      · have hi2 : ¬ ((i : Int) < w.tasks.length) := by omega
        rw [List.drop_eq_nil_of_le (by omega)] at hJ
        try simp [-List.map_take, -List.map_drop, -List.map_tail, run_guard, run_guardD, resultsA, resA, Nat.add_assoc, wldV, e1, e1n, e1m, hi, hi2]
        repeat'
          first
          | done
          | ((first
              | ((with_reducible show lenS _ _ _ _ _ _); refine lenS_slice rfl fun _ => ?_)
              | ((with_reducible show iaddrS _ _ _ _ _ _ _); refine iaddr_map rfl (by first | omega | (simp; done) | (simp; omega) | (simp [inR, isIn] at *; done) | (simp [inR, isIn] at *; omega)) (by first | omega | (simp; done) | (simp; omega) | (simp [inR, isIn] at *; done) | (simp [inR, isIn] at *; omega)) ?_)
              | (with_reducible refine go_draw (i := 9) [(0, [], []), (1, [], []), (2, [], []), (3, [], []), (4, [], []), (5, [], []), (6, [], []), (7, [], []), (8, [], []), (9, [], []), (10, [], []), (11, [], []), (12, [], []), (13, [], []), (14, [], [])] (by kernel_rfl) ?_)) <;> simp [-List.map_take, -List.map_drop, -List.map_tail, run_guard, run_guardD, resultsA, resA, Nat.add_assoc, wldV, e1, e1n, e1m, hi, hi2])
          | ((first | (with_reducible refine condS_split ?_ ?_)) <;> intro qb <;> (have qp := qb; try simp only [psq] at qp) <;> simp [-List.map_take, -List.map_drop, -List.map_tail, run_guard, run_guardD, resultsA, resA, Nat.add_assoc, wldV, e1, e1n, e1m, hi, hi2, qb])
        refine ⟨?_, (by repeat' first | exact hE2 | exact hK2 | exact hE | exact hK | exact keep_rfl | refine keep_upd_of (by omega) ?_ | refine KeepB.sub hE2 ?_ (by omega))⟩
        simp [lsumI, stepsLeft, hw] at hJ ⊢
        exact hJ
  · refine PC.of okC Tryz.func20 rfl rfl (by kernel_rfl) (Nat.le_of_ble_eq_true rfl) (.int _ _) fun h nx hnx => ?_
    show goC ctx _ _ (.fin (RetP _ _ _ _ _))
    try simp [-List.map_take, -List.map_drop, -List.map_tail, run_guard, run_guardD, resultsA, resA, Nat.add_assoc, wldV, hw]
    repeat'
      first
      | done
      | ((first
          | ((with_reducible show lenS _ _ _ _ _ _); refine lenS_slice rfl fun _ => ?_)
          | ((with_reducible show iaddrS _ _ _ _ _ _ _); refine iaddr_map rfl (by first | omega | (simp; done) | (simp; omega) | (simp [inR, isIn] at *; done) | (simp [inR, isIn] at *; omega)) (by first | omega | (simp; done) | (simp; omega) | (simp [inR, isIn] at *; done) | (simp [inR, isIn] at *; omega)) ?_)
          | ((with_reducible show doCall _ _ _ 57 _ _); refine call_pc (s_WorldOk (w := w) (F := F)) ?_)
          | (with_reducible refine go_draw (i := 9) [(0, [], []), (1, [], []), (2, [], []), (3, [], []), (4, [], []), (5, [], []), (6, [], []), (7, [], []), (8, [], []), (9, [], []), (10, [], []), (11, [], []), (12, [], []), (13, [], []), (14, [], [])] (by kernel_rfl) ?_)) <;> simp [-List.map_take, -List.map_drop, -List.map_tail, run_guard, run_guardD, resultsA, resA, Nat.add_assoc, wldV, hw])
      | ((first | (with_reducible refine condS_split ?_ ?_)) <;> intro qb <;> (have qp := qb; try simp only [psq] at qp) <;> simp [-List.map_take, -List.map_drop, -List.map_tail, run_guard, run_guardD, resultsA, resA, Nat.add_assoc, wldV, hw, qb])
    all_goals (try clear hnx)
    all_goals first | (simp_all [stepsLeft]; done) | (simp_all [stepsLeft]; omega) | (rw [Bool.eq_iff_iff]; simp_all [stepsLeft]; done) | (rw [Bool.eq_iff_iff]; simp_all [stepsLeft]; omega) | omega | (simp only [stepsLeft]; grind) | grind
end Go.AE.Tryz
end

section
/- The laws of the readers: what the program's and the reference's conditions answer is the same. -/
set_option linter.unusedSimpArgs false
set_option linter.unusedVariables false
set_option maxRecDepth 8000
set_option maxHeartbeats 4000000
namespace Go.AE.Tryz
open Go.Proofs
theorem wldV_ones {F : Nat → Bool} {w : Wld} : ∀ x ∈ wldV F w, x.one = true := by simp [wldV]

-- laws.FnExactStepsLeft
theorem law_StepsLeft {w : Wld} : PC ctx.P 4 [.agg (wldV (fun _ => true) w)] (.bool true) := by
  by_cases hs : wldsz w ≤ 1048576
  · have e : szR (wldsz w) 1048576 = 1048576 - wldsz w := by rcases szR_or (wldsz w) 1048576 with q | q <;> omega
    refine PC.of okC Tryz.func4 rfl rfl (by kernel_rfl) (Nat.le_of_ble_eq_true rfl) (.bool _) fun h nx hnx => ?_
    show goC ctx _ _ (.fin (RetP _ _ _ _ _))
    have hones : (∀ x ∈ wldV (fun _ => true) w, x.one = true) = True := by simp only [eq_iff_iff, iff_true]; exact wldV_ones
    try simp [-List.map_take, -List.map_drop, -List.map_tail, run_guard, run_guardD, resultsA, resA, Nat.add_assoc, e, hones]
    repeat'
      first
      | done
      | ((first
          | ((with_reducible show doCall _ _ _ 15 _ _); refine call_pc (c_szWorld (s := w) (F := fun _ => true) (by omega) (by omega)) ?_)
          | ((with_reducible show doCall _ _ _ 17 _ _); refine call_pc (c_toWorld (s := w) (F := fun _ => true) hs) ?_)
          | ((with_reducible show doCall _ _ _ 20 _ _); refine call_pc (s_StepsLeft (w := w) (F := fun _ => true)) ?_)
          | ((with_reducible show doCall _ _ _ 21 _ _); refine call_pc (c_StepsLeft (w := w) (F := fun _ => true)) ?_)
          | ((with_reducible show doCall _ _ _ 19 _ _); refine call_pc (c_eqWorld (x := w) (y := w) (F1 := fun _ => true) (F2 := fun _ => true)) ?_)
          | (with_reducible refine go_draw (i := 10) [(0, [], []), (1, [], []), (2, [.tmp 5], []), (3, [], []), (4, [], [])] (by kernel_rfl) ?_)) <;> simp [-List.map_take, -List.map_drop, -List.map_tail, run_guard, run_guardD, resultsA, resA, Nat.add_assoc, e, hones])
      | ((first | (with_reducible refine condS_split ?_ ?_)) <;> intro qb <;> (have qp := qb; try simp only [psq] at qp) <;> simp [-List.map_take, -List.map_drop, -List.map_tail, run_guard, run_guardD, resultsA, resA, Nat.add_assoc, e, hones, qb])
    all_goals (clear hnx; first | omega | simp_all)
  · have e : szR (wldsz w) 1048576 = -1 := by rcases szR_or (wldsz w) 1048576 with q | q <;> omega
    refine PC.of okC Tryz.func4 rfl rfl (by kernel_rfl) (Nat.le_of_ble_eq_true rfl) (.bool _) fun h nx hnx => ?_
    show goC ctx _ _ (.fin (RetP _ _ _ _ _))
    try simp [-List.map_take, -List.map_drop, -List.map_tail, run_guard, run_guardD, resultsA, resA, Nat.add_assoc, e]
    repeat'
      first
      | done
      | ((first
          | ((with_reducible show doCall _ _ _ 15 _ _); refine call_pc (c_szWorld (s := w) (F := fun _ => true) (by omega) (by omega)) ?_)
          | (with_reducible refine go_draw (i := 10) [(0, [], []), (1, [], []), (2, [.tmp 5], []), (3, [], []), (4, [], [])] (by kernel_rfl) ?_)) <;> simp [-List.map_take, -List.map_drop, -List.map_tail, run_guard, run_guardD, resultsA, resA, Nat.add_assoc, e])
      | ((first | (with_reducible refine condS_split ?_ ?_)) <;> intro qb <;> (have qp := qb; try simp only [psq] at qp) <;> simp [-List.map_take, -List.map_drop, -List.map_tail, run_guard, run_guardD, resultsA, resA, Nat.add_assoc, e, qb])

-- laws.FnExactTimelyIn
theorem law_TimelyIn {w : Wld} : PC ctx.P 5 [.agg (wldV (fun _ => true) w)] (.bool true) := by
  by_cases hs : wldsz w ≤ 1048576
  · have e : szR (wldsz w) 1048576 = 1048576 - wldsz w := by rcases szR_or (wldsz w) 1048576 with q | q <;> omega
    refine PC.of okC Tryz.func5 rfl rfl (by kernel_rfl) (Nat.le_of_ble_eq_true rfl) (.bool _) fun h nx hnx => ?_
    show goC ctx _ _ (.fin (RetP _ _ _ _ _))
    have hones : (∀ x ∈ wldV (fun _ => true) w, x.one = true) = True := by simp only [eq_iff_iff, iff_true]; exact wldV_ones
    try simp [-List.map_take, -List.map_drop, -List.map_tail, run_guard, run_guardD, resultsA, resA, Nat.add_assoc, e, hones]
    repeat'
      first
      | done
      | ((first
          | ((with_reducible show doCall _ _ _ 15 _ _); refine call_pc (c_szWorld (s := w) (F := fun _ => true) (by omega) (by omega)) ?_)
          | ((with_reducible show doCall _ _ _ 17 _ _); refine call_pc (c_toWorld (s := w) (F := fun _ => true) hs) ?_)
          | ((with_reducible show doCall _ _ _ 22 _ _); refine call_pc (s_TimelyIn (w := w) (F := fun _ => true)) ?_)
          | ((with_reducible show doCall _ _ _ 23 _ _); refine call_pc (c_TimelyIn (w := w) (F := fun _ => true)) ?_)
          | ((with_reducible show doCall _ _ _ 19 _ _); refine call_pc (c_eqWorld (x := w) (y := w) (F1 := fun _ => true) (F2 := fun _ => true)) ?_)
          | (with_reducible refine go_draw (i := 10) [(0, [], []), (1, [], []), (2, [.tmp 5], []), (3, [], []), (4, [], [])] (by kernel_rfl) ?_)) <;> simp [-List.map_take, -List.map_drop, -List.map_tail, run_guard, run_guardD, resultsA, resA, Nat.add_assoc, e, hones])
      | ((first | (with_reducible refine condS_split ?_ ?_)) <;> intro qb <;> (have qp := qb; try simp only [psq] at qp) <;> simp [-List.map_take, -List.map_drop, -List.map_tail, run_guard, run_guardD, resultsA, resA, Nat.add_assoc, e, hones, qb])
    all_goals (clear hnx; first | omega | simp_all)
  · have e : szR (wldsz w) 1048576 = -1 := by rcases szR_or (wldsz w) 1048576 with q | q <;> omega
    refine PC.of okC Tryz.func5 rfl rfl (by kernel_rfl) (Nat.le_of_ble_eq_true rfl) (.bool _) fun h nx hnx => ?_
    show goC ctx _ _ (.fin (RetP _ _ _ _ _))
    try simp [-List.map_take, -List.map_drop, -List.map_tail, run_guard, run_guardD, resultsA, resA, Nat.add_assoc, e]
    repeat'
      first
      | done
      | ((first
          | ((with_reducible show doCall _ _ _ 15 _ _); refine call_pc (c_szWorld (s := w) (F := fun _ => true) (by omega) (by omega)) ?_)
          | (with_reducible refine go_draw (i := 10) [(0, [], []), (1, [], []), (2, [.tmp 5], []), (3, [], []), (4, [], [])] (by kernel_rfl) ?_)) <;> simp [-List.map_take, -List.map_drop, -List.map_tail, run_guard, run_guardD, resultsA, resA, Nat.add_assoc, e])
      | ((first | (with_reducible refine condS_split ?_ ?_)) <;> intro qb <;> (have qp := qb; try simp only [psq] at qp) <;> simp [-List.map_take, -List.map_drop, -List.map_tail, run_guard, run_guardD, resultsA, resA, Nat.add_assoc, e, qb])

-- laws.FnExactBelowIn
theorem law_BelowIn {w : Wld} : PC ctx.P 6 [.agg (wldV (fun _ => true) w)] (.bool true) := by
  by_cases hs : wldsz w ≤ 1048576
  · have e : szR (wldsz w) 1048576 = 1048576 - wldsz w := by rcases szR_or (wldsz w) 1048576 with q | q <;> omega
    refine PC.of okC Tryz.func6 rfl rfl (by kernel_rfl) (Nat.le_of_ble_eq_true rfl) (.bool _) fun h nx hnx => ?_
    show goC ctx _ _ (.fin (RetP _ _ _ _ _))
    have hones : (∀ x ∈ wldV (fun _ => true) w, x.one = true) = True := by simp only [eq_iff_iff, iff_true]; exact wldV_ones
    try simp [-List.map_take, -List.map_drop, -List.map_tail, run_guard, run_guardD, resultsA, resA, Nat.add_assoc, e, hones]
    repeat'
      first
      | done
      | ((first
          | ((with_reducible show doCall _ _ _ 15 _ _); refine call_pc (c_szWorld (s := w) (F := fun _ => true) (by omega) (by omega)) ?_)
          | ((with_reducible show doCall _ _ _ 17 _ _); refine call_pc (c_toWorld (s := w) (F := fun _ => true) hs) ?_)
          | ((with_reducible show doCall _ _ _ 24 _ _); refine call_pc (s_BelowIn (w := w) (F := fun _ => true)) ?_)
          | ((with_reducible show doCall _ _ _ 25 _ _); refine call_pc (c_BelowIn (w := w) (F := fun _ => true)) ?_)
          | ((with_reducible show doCall _ _ _ 19 _ _); refine call_pc (c_eqWorld (x := w) (y := w) (F1 := fun _ => true) (F2 := fun _ => true)) ?_)
          | (with_reducible refine go_draw (i := 10) [(0, [], []), (1, [], []), (2, [.tmp 5], []), (3, [], []), (4, [], [])] (by kernel_rfl) ?_)) <;> simp [-List.map_take, -List.map_drop, -List.map_tail, run_guard, run_guardD, resultsA, resA, Nat.add_assoc, e, hones])
      | ((first | (with_reducible refine condS_split ?_ ?_)) <;> intro qb <;> (have qp := qb; try simp only [psq] at qp) <;> simp [-List.map_take, -List.map_drop, -List.map_tail, run_guard, run_guardD, resultsA, resA, Nat.add_assoc, e, hones, qb])
    all_goals (clear hnx; first | omega | simp_all)
  · have e : szR (wldsz w) 1048576 = -1 := by rcases szR_or (wldsz w) 1048576 with q | q <;> omega
    refine PC.of okC Tryz.func6 rfl rfl (by kernel_rfl) (Nat.le_of_ble_eq_true rfl) (.bool _) fun h nx hnx => ?_
    show goC ctx _ _ (.fin (RetP _ _ _ _ _))
    try simp [-List.map_take, -List.map_drop, -List.map_tail, run_guard, run_guardD, resultsA, resA, Nat.add_assoc, e]
    repeat'
      first
      | done
      | ((first
          | ((with_reducible show doCall _ _ _ 15 _ _); refine call_pc (c_szWorld (s := w) (F := fun _ => true) (by omega) (by omega)) ?_)
          | (with_reducible refine go_draw (i := 10) [(0, [], []), (1, [], []), (2, [.tmp 5], []), (3, [], []), (4, [], [])] (by kernel_rfl) ?_)) <;> simp [-List.map_take, -List.map_drop, -List.map_tail, run_guard, run_guardD, resultsA, resA, Nat.add_assoc, e])
      | ((first | (with_reducible refine condS_split ?_ ?_)) <;> intro qb <;> (have qp := qb; try simp only [psq] at qp) <;> simp [-List.map_take, -List.map_drop, -List.map_tail, run_guard, run_guardD, resultsA, resA, Nat.add_assoc, e, qb])

-- laws.FnExactExplainedIn
theorem law_ExplainedIn {w : Wld} : PC ctx.P 7 [.agg (wldV (fun _ => true) w)] (.bool true) := by
  by_cases hs : wldsz w ≤ 1048576
  · have e : szR (wldsz w) 1048576 = 1048576 - wldsz w := by rcases szR_or (wldsz w) 1048576 with q | q <;> omega
    refine PC.of okC Tryz.func7 rfl rfl (by kernel_rfl) (Nat.le_of_ble_eq_true rfl) (.bool _) fun h nx hnx => ?_
    show goC ctx _ _ (.fin (RetP _ _ _ _ _))
    have hones : (∀ x ∈ wldV (fun _ => true) w, x.one = true) = True := by simp only [eq_iff_iff, iff_true]; exact wldV_ones
    try simp [-List.map_take, -List.map_drop, -List.map_tail, run_guard, run_guardD, resultsA, resA, Nat.add_assoc, e, hones]
    repeat'
      first
      | done
      | ((first
          | ((with_reducible show doCall _ _ _ 15 _ _); refine call_pc (c_szWorld (s := w) (F := fun _ => true) (by omega) (by omega)) ?_)
          | ((with_reducible show doCall _ _ _ 17 _ _); refine call_pc (c_toWorld (s := w) (F := fun _ => true) hs) ?_)
          | ((with_reducible show doCall _ _ _ 26 _ _); refine call_pc (s_ExplainedIn (w := w) (F := fun _ => true)) ?_)
          | ((with_reducible show doCall _ _ _ 27 _ _); refine call_pc (c_ExplainedIn (w := w) (F := fun _ => true)) ?_)
          | ((with_reducible show doCall _ _ _ 19 _ _); refine call_pc (c_eqWorld (x := w) (y := w) (F1 := fun _ => true) (F2 := fun _ => true)) ?_)
          | (with_reducible refine go_draw (i := 10) [(0, [], []), (1, [], []), (2, [.tmp 5], []), (3, [], []), (4, [], [])] (by kernel_rfl) ?_)) <;> simp [-List.map_take, -List.map_drop, -List.map_tail, run_guard, run_guardD, resultsA, resA, Nat.add_assoc, e, hones])
      | ((first | (with_reducible refine condS_split ?_ ?_)) <;> intro qb <;> (have qp := qb; try simp only [psq] at qp) <;> simp [-List.map_take, -List.map_drop, -List.map_tail, run_guard, run_guardD, resultsA, resA, Nat.add_assoc, e, hones, qb])
    all_goals (clear hnx; first | omega | simp_all)
  · have e : szR (wldsz w) 1048576 = -1 := by rcases szR_or (wldsz w) 1048576 with q | q <;> omega
    refine PC.of okC Tryz.func7 rfl rfl (by kernel_rfl) (Nat.le_of_ble_eq_true rfl) (.bool _) fun h nx hnx => ?_
    show goC ctx _ _ (.fin (RetP _ _ _ _ _))
    try simp [-List.map_take, -List.map_drop, -List.map_tail, run_guard, run_guardD, resultsA, resA, Nat.add_assoc, e]
    repeat'
      first
      | done
      | ((first
          | ((with_reducible show doCall _ _ _ 15 _ _); refine call_pc (c_szWorld (s := w) (F := fun _ => true) (by omega) (by omega)) ?_)
          | (with_reducible refine go_draw (i := 10) [(0, [], []), (1, [], []), (2, [.tmp 5], []), (3, [], []), (4, [], [])] (by kernel_rfl) ?_)) <;> simp [-List.map_take, -List.map_drop, -List.map_tail, run_guard, run_guardD, resultsA, resA, Nat.add_assoc, e])
      | ((first | (with_reducible refine condS_split ?_ ?_)) <;> intro qb <;> (have qp := qb; try simp only [psq] at qp) <;> simp [-List.map_take, -List.map_drop, -List.map_tail, run_guard, run_guardD, resultsA, resA, Nat.add_assoc, e, qb])

-- laws.FnExactHeardIn
theorem law_HeardIn {w : Wld} : PC ctx.P 8 [.agg (wldV (fun _ => true) w)] (.bool true) := by
  by_cases hs : wldsz w ≤ 1048576
  · have e : szR (wldsz w) 1048576 = 1048576 - wldsz w := by rcases szR_or (wldsz w) 1048576 with q | q <;> omega
    refine PC.of okC Tryz.func8 rfl rfl (by kernel_rfl) (Nat.le_of_ble_eq_true rfl) (.bool _) fun h nx hnx => ?_
    show goC ctx _ _ (.fin (RetP _ _ _ _ _))
    have hones : (∀ x ∈ wldV (fun _ => true) w, x.one = true) = True := by simp only [eq_iff_iff, iff_true]; exact wldV_ones
    try simp [-List.map_take, -List.map_drop, -List.map_tail, run_guard, run_guardD, resultsA, resA, Nat.add_assoc, e, hones]
    repeat'
      first
      | done
      | ((first
          | ((with_reducible show doCall _ _ _ 15 _ _); refine call_pc (c_szWorld (s := w) (F := fun _ => true) (by omega) (by omega)) ?_)
          | ((with_reducible show doCall _ _ _ 17 _ _); refine call_pc (c_toWorld (s := w) (F := fun _ => true) hs) ?_)
          | ((with_reducible show doCall _ _ _ 28 _ _); refine call_pc (s_HeardIn (w := w) (F := fun _ => true)) ?_)
          | ((with_reducible show doCall _ _ _ 29 _ _); refine call_pc (c_HeardIn (w := w) (F := fun _ => true)) ?_)
          | ((with_reducible show doCall _ _ _ 19 _ _); refine call_pc (c_eqWorld (x := w) (y := w) (F1 := fun _ => true) (F2 := fun _ => true)) ?_)
          | (with_reducible refine go_draw (i := 10) [(0, [], []), (1, [], []), (2, [.tmp 5], []), (3, [], []), (4, [], [])] (by kernel_rfl) ?_)) <;> simp [-List.map_take, -List.map_drop, -List.map_tail, run_guard, run_guardD, resultsA, resA, Nat.add_assoc, e, hones])
      | ((first | (with_reducible refine condS_split ?_ ?_)) <;> intro qb <;> (have qp := qb; try simp only [psq] at qp) <;> simp [-List.map_take, -List.map_drop, -List.map_tail, run_guard, run_guardD, resultsA, resA, Nat.add_assoc, e, hones, qb])
    all_goals (clear hnx; first | omega | simp_all)
  · have e : szR (wldsz w) 1048576 = -1 := by rcases szR_or (wldsz w) 1048576 with q | q <;> omega
    refine PC.of okC Tryz.func8 rfl rfl (by kernel_rfl) (Nat.le_of_ble_eq_true rfl) (.bool _) fun h nx hnx => ?_
    show goC ctx _ _ (.fin (RetP _ _ _ _ _))
    try simp [-List.map_take, -List.map_drop, -List.map_tail, run_guard, run_guardD, resultsA, resA, Nat.add_assoc, e]
    repeat'
      first
      | done
      | ((first
          | ((with_reducible show doCall _ _ _ 15 _ _); refine call_pc (c_szWorld (s := w) (F := fun _ => true) (by omega) (by omega)) ?_)
          | (with_reducible refine go_draw (i := 10) [(0, [], []), (1, [], []), (2, [.tmp 5], []), (3, [], []), (4, [], [])] (by kernel_rfl) ?_)) <;> simp [-List.map_take, -List.map_drop, -List.map_tail, run_guard, run_guardD, resultsA, resA, Nat.add_assoc, e])
      | ((first | (with_reducible refine condS_split ?_ ?_)) <;> intro qb <;> (have qp := qb; try simp only [psq] at qp) <;> simp [-List.map_take, -List.map_drop, -List.map_tail, run_guard, run_guardD, resultsA, resA, Nat.add_assoc, e, qb])
end Go.AE.Tryz
end
