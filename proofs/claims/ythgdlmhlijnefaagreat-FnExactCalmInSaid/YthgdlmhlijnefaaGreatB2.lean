/- Contracts of the seat's functions: what each answers, for all arguments. -/
import Derived.Test.YthgdlmhlijnefaaGreatB1
import Derived.Test.YthgdlmhlijnefaaGreatA2
import Derived.Test.YthgdlmhlijnefaaGreatA3
section
/- Contracts of the laws' helpers: worlds. -/
set_option linter.unusedSimpArgs false
set_option linter.unusedVariables false
set_option maxRecDepth 8000
set_option maxHeartbeats 4000000
namespace Go.AE.Tryz
open Go.Proofs
-- laws.toSlots
theorem c_toSlots {F : Nat → Bool} {s : Slt} (hs : sltsz s ≤ 1048576) : PC ctx.P 155 [.agg (sltV F s)] (.agg (sltV (fun _ => true) s)) := by
  simp only [wldsz, afssz, tmssz, sprsz, sltsz] at hs
  refine PC.of okC Tryz.func155 rfl rfl (by kernel_rfl) (Nat.le_of_ble_eq_true rfl) (.agg _ (sltV_fz s)) fun h nx hnx => ?_
  show goC ctx _ _ (.fin (RetP _ _ _ _ _))
  try simp [-List.map_take, -List.map_drop, -List.map_tail, run_guard, run_guardD, resultsA, resA, Nat.add_assoc, sltV]
  repeat'
    first
    | done
    | ((first
        | ((with_reducible show doCall _ _ _ 67 _ _); refine call_pc (c_toInt64S (by simp only [MLIM]; omega)) ?_)
        | ((with_reducible show doCall _ _ _ 152 _ _); refine call_pc (c_toBoolS (by simp only [MLIM]; omega)) ?_)) <;> simp [-List.map_take, -List.map_drop, -List.map_tail, run_guard, run_guardD, resultsA, resA, Nat.add_assoc, sltV])
-- laws.eqSlots
theorem c_eqSlots {F1 F2 : Nat → Bool} {x y : Slt} : PC ctx.P 189 [.agg (sltV F1 x), .agg (sltV F2 y)] (.bool (x == y)) := by
  rw [slt_beq]
  refine PC.of okC Tryz.func189 rfl rfl (by kernel_rfl) (Nat.le_of_ble_eq_true rfl) (.bool _) fun h nx hnx => ?_
  show goC ctx _ _ (.fin (RetP _ _ _ _ _))
  try simp [-List.map_take, -List.map_drop, -List.map_tail, run_guard, run_guardD, resultsA, resA, Nat.add_assoc, sltV]
  repeat'
    first
    | done
    | ((first
        | ((with_reducible show doCall _ _ _ 78 _ _); refine call_pc (c_eqInt64S) ?_)
        | ((with_reducible show doCall _ _ _ 186 _ _); refine call_pc (c_eqBoolS) ?_)) <;> simp [-List.map_take, -List.map_drop, -List.map_tail, run_guard, run_guardD, resultsA, resA, Nat.add_assoc, sltV])
    | ((first | (with_reducible refine condS_split ?_ ?_)) <;> intro qb <;> (have qp := qb; try simp only [psq] at qp) <;> simp [-List.map_take, -List.map_drop, -List.map_tail, run_guard, run_guardD, resultsA, resA, Nat.add_assoc, sltV, qb])
  all_goals (try clear hnx)
  all_goals first | (simp_all []; done) | (simp_all []; omega) | (rw [Bool.eq_iff_iff]; simp_all []; done) | (rw [Bool.eq_iff_iff]; simp_all []; omega) | omega | (simp only []; grind) | grind
-- laws.szSlots
theorem c_szSlots {F : Nat → Bool} {s : Slt} {k : Int} (h0 : 0 ≤ k) (h1 : k ≤ 1048576) : PC ctx.P 137 [.agg (sltV F s), .int .i64 k] (.int .i64 (szR (sltsz s) k)) := by
  rw [slt_szN s h0]
  refine PC.of okC Tryz.func137 rfl rfl (by kernel_rfl) (Nat.le_of_ble_eq_true rfl) (.int _ _) fun h nx hnx => ?_
  show goC ctx _ _ (.fin (RetP _ _ _ _ _))
  try simp [-List.map_take, -List.map_drop, -List.map_tail, run_guard, run_guardD, resultsA, resA, Nat.add_assoc, sltV]
  repeat'
    first
    | done
    | ((first
        | ((with_reducible show doCall _ _ _ 56 _ _); refine call_pc (c_szInt64S (by first | assumption | omega) (by repeat (first | assumption | apply szR_hi))) ?_)
        | ((with_reducible show doCall _ _ _ 134 _ _); refine call_pc (c_szBoolS (by first | assumption | omega) (by repeat (first | assumption | apply szR_hi))) ?_)) <;> simp [-List.map_take, -List.map_drop, -List.map_tail, run_guard, run_guardD, resultsA, resA, Nat.add_assoc, sltV])
    | ((first | (with_reducible refine condS_split ?_ ?_)) <;> intro qb <;> (have qp := qb; try simp only [psq] at qp) <;> simp [-List.map_take, -List.map_drop, -List.map_tail, run_guard, run_guardD, resultsA, resA, Nat.add_assoc, sltV, qb])
  all_goals (clear hnx; simp only [szN]; repeat (first | rw [if_pos (by omega)] | rw [if_neg (by omega)]))

-- laws.toSpread
theorem c_toSpread {F : Nat → Bool} {s : Spr} (hs : sprsz s ≤ 1048576) : PC ctx.P 61 [.agg (sprV F s)] (.agg (sprV (fun _ => true) s)) := by
  simp only [wldsz, afssz, tmssz, sprsz, sltsz] at hs
  refine PC.of okC Tryz.func61 rfl rfl (by kernel_rfl) (Nat.le_of_ble_eq_true rfl) (.agg _ (sprV_fz s)) fun h nx hnx => ?_
  show goC ctx _ _ (.fin (RetP _ _ _ _ _))
  try simp [-List.map_take, -List.map_drop, -List.map_tail, run_guard, run_guardD, resultsA, resA, Nat.add_assoc, sprV]
  repeat'
    first
    | done
    | ((first
        | ((with_reducible show doCall _ _ _ 152 _ _); refine call_pc (c_toBoolS (by simp only [MLIM]; omega)) ?_)
        | ((with_reducible show doCall _ _ _ 67 _ _); refine call_pc (c_toInt64S (by simp only [MLIM]; omega)) ?_)) <;> simp [-List.map_take, -List.map_drop, -List.map_tail, run_guard, run_guardD, resultsA, resA, Nat.add_assoc, sprV])
-- laws.eqSpread
theorem c_eqSpread {F1 F2 : Nat → Bool} {x y : Spr} : PC ctx.P 72 [.agg (sprV F1 x), .agg (sprV F2 y)] (.bool (x == y)) := by
  rw [spr_beq]
  refine PC.of okC Tryz.func72 rfl rfl (by kernel_rfl) (Nat.le_of_ble_eq_true rfl) (.bool _) fun h nx hnx => ?_
  show goC ctx _ _ (.fin (RetP _ _ _ _ _))
  try simp [-List.map_take, -List.map_drop, -List.map_tail, run_guard, run_guardD, resultsA, resA, Nat.add_assoc, sprV]
  repeat'
    first
    | done
    | ((first
        | ((with_reducible show doCall _ _ _ 186 _ _); refine call_pc (c_eqBoolS) ?_)
        | ((with_reducible show doCall _ _ _ 78 _ _); refine call_pc (c_eqInt64S) ?_)) <;> simp [-List.map_take, -List.map_drop, -List.map_tail, run_guard, run_guardD, resultsA, resA, Nat.add_assoc, sprV])
    | ((first | (with_reducible refine condS_split ?_ ?_)) <;> intro qb <;> (have qp := qb; try simp only [psq] at qp) <;> simp [-List.map_take, -List.map_drop, -List.map_tail, run_guard, run_guardD, resultsA, resA, Nat.add_assoc, sprV, qb])
  all_goals (try clear hnx)
  all_goals first | (simp_all []; done) | (simp_all []; omega) | (rw [Bool.eq_iff_iff]; simp_all []; done) | (rw [Bool.eq_iff_iff]; simp_all []; omega) | omega | (simp only []; grind) | grind
-- laws.szSpread
theorem c_szSpread {F : Nat → Bool} {s : Spr} {k : Int} (h0 : 0 ≤ k) (h1 : k ≤ 1048576) : PC ctx.P 50 [.agg (sprV F s), .int .i64 k] (.int .i64 (szR (sprsz s) k)) := by
  rw [spr_szN s h0]
  refine PC.of okC Tryz.func50 rfl rfl (by kernel_rfl) (Nat.le_of_ble_eq_true rfl) (.int _ _) fun h nx hnx => ?_
  show goC ctx _ _ (.fin (RetP _ _ _ _ _))
  try simp [-List.map_take, -List.map_drop, -List.map_tail, run_guard, run_guardD, resultsA, resA, Nat.add_assoc, sprV]
  repeat'
    first
    | done
    | ((first
        | ((with_reducible show doCall _ _ _ 134 _ _); refine call_pc (c_szBoolS (by first | assumption | omega) (by repeat (first | assumption | apply szR_hi))) ?_)
        | ((with_reducible show doCall _ _ _ 56 _ _); refine call_pc (c_szInt64S (by first | assumption | omega) (by repeat (first | assumption | apply szR_hi))) ?_)) <;> simp [-List.map_take, -List.map_drop, -List.map_tail, run_guard, run_guardD, resultsA, resA, Nat.add_assoc, sprV])
    | ((first | (with_reducible refine condS_split ?_ ?_)) <;> intro qb <;> (have qp := qb; try simp only [psq] at qp) <;> simp [-List.map_take, -List.map_drop, -List.map_tail, run_guard, run_guardD, resultsA, resA, Nat.add_assoc, sprV, qb])
  all_goals (clear hnx; simp only [szN]; repeat (first | rw [if_pos (by omega)] | rw [if_neg (by omega)]))

-- laws.toTimers
theorem c_toTimers {F : Nat → Bool} {s : Tms} (hs : tmssz s ≤ 1048576) : PC ctx.P 62 [.agg (tmsV F s)] (.agg (tmsV (fun _ => true) s)) := by
  simp only [wldsz, afssz, tmssz, sprsz, sltsz] at hs
  refine PC.of okC Tryz.func62 rfl rfl (by kernel_rfl) (Nat.le_of_ble_eq_true rfl) (.agg _ (tmsV_fz s)) fun h nx hnx => ?_
  show goC ctx _ _ (.fin (RetP _ _ _ _ _))
  try simp [-List.map_take, -List.map_drop, -List.map_tail, run_guard, run_guardD, resultsA, resA, Nat.add_assoc, tmsV]
  repeat'
    first
    | done
    | ((first
        | ((with_reducible show doCall _ _ _ 153 _ _); refine call_pc (c_toTwigS (by simp only [MLIM]; omega)) ?_)
        | ((with_reducible show doCall _ _ _ 154 _ _); refine call_pc (c_toTimerS (by simp only [MLIM]; omega)) ?_)) <;> simp [-List.map_take, -List.map_drop, -List.map_tail, run_guard, run_guardD, resultsA, resA, Nat.add_assoc, tmsV])
-- laws.eqTimers
theorem c_eqTimers {F1 F2 : Nat → Bool} {x y : Tms} : PC ctx.P 73 [.agg (tmsV F1 x), .agg (tmsV F2 y)] (.bool (x == y)) := by
  rw [tms_beq]
  refine PC.of okC Tryz.func73 rfl rfl (by kernel_rfl) (Nat.le_of_ble_eq_true rfl) (.bool _) fun h nx hnx => ?_
  show goC ctx _ _ (.fin (RetP _ _ _ _ _))
  try simp [-List.map_take, -List.map_drop, -List.map_tail, run_guard, run_guardD, resultsA, resA, Nat.add_assoc, tmsV]
  repeat'
    first
    | done
    | ((first
        | ((with_reducible show doCall _ _ _ 187 _ _); refine call_pc (c_eqTwigS) ?_)
        | ((with_reducible show doCall _ _ _ 188 _ _); refine call_pc (c_eqTimerS) ?_)) <;> simp [-List.map_take, -List.map_drop, -List.map_tail, run_guard, run_guardD, resultsA, resA, Nat.add_assoc, tmsV])
    | ((first | (with_reducible refine condS_split ?_ ?_)) <;> intro qb <;> (have qp := qb; try simp only [psq] at qp) <;> simp [-List.map_take, -List.map_drop, -List.map_tail, run_guard, run_guardD, resultsA, resA, Nat.add_assoc, tmsV, qb])
  all_goals (try clear hnx)
  all_goals first | (simp_all []; done) | (simp_all []; omega) | (rw [Bool.eq_iff_iff]; simp_all []; done) | (rw [Bool.eq_iff_iff]; simp_all []; omega) | omega | (simp only []; grind) | grind
-- laws.szTimers
theorem c_szTimers {F : Nat → Bool} {s : Tms} {k : Int} (h0 : 0 ≤ k) (h1 : k ≤ 1048576) : PC ctx.P 51 [.agg (tmsV F s), .int .i64 k] (.int .i64 (szR (tmssz s) k)) := by
  rw [tms_szN s h0]
  refine PC.of okC Tryz.func51 rfl rfl (by kernel_rfl) (Nat.le_of_ble_eq_true rfl) (.int _ _) fun h nx hnx => ?_
  show goC ctx _ _ (.fin (RetP _ _ _ _ _))
  try simp [-List.map_take, -List.map_drop, -List.map_tail, run_guard, run_guardD, resultsA, resA, Nat.add_assoc, tmsV]
  repeat'
    first
    | done
    | ((first
        | ((with_reducible show doCall _ _ _ 135 _ _); refine call_pc (c_szTwigS (by first | assumption | omega) (by repeat (first | assumption | apply szR_hi))) ?_)
        | ((with_reducible show doCall _ _ _ 136 _ _); refine call_pc (c_szTimerS (by first | assumption | omega) (by repeat (first | assumption | apply szR_hi))) ?_)) <;> simp [-List.map_take, -List.map_drop, -List.map_tail, run_guard, run_guardD, resultsA, resA, Nat.add_assoc, tmsV])
    | ((first | (with_reducible refine condS_split ?_ ?_)) <;> intro qb <;> (have qp := qb; try simp only [psq] at qp) <;> simp [-List.map_take, -List.map_drop, -List.map_tail, run_guard, run_guardD, resultsA, resA, Nat.add_assoc, tmsV, qb])
  all_goals (clear hnx; simp only [szN]; repeat (first | rw [if_pos (by omega)] | rw [if_neg (by omega)]))

-- laws.toAfters
theorem c_toAfters {F : Nat → Bool} {s : Afs} (hs : afssz s ≤ 1048576) : PC ctx.P 63 [.agg (afsV F s)] (.agg (afsV (fun _ => true) s)) := by
  simp only [wldsz, afssz, tmssz, sprsz, sltsz] at hs
  refine PC.of okC Tryz.func63 rfl rfl (by kernel_rfl) (Nat.le_of_ble_eq_true rfl) (.agg _ (afsV_fz s)) fun h nx hnx => ?_
  show goC ctx _ _ (.fin (RetP _ _ _ _ _))
  try simp [-List.map_take, -List.map_drop, -List.map_tail, run_guard, run_guardD, resultsA, resA, Nat.add_assoc, afsV, sltV]
  repeat'
    first
    | done
    | ((first
        | ((with_reducible show doCall _ _ _ 155 _ _); refine call_pc (c_toSlots (s := s.slots) (F := F) (by simp only [afssz, tmssz, sprsz, sltsz]; omega)) ?_)
        | ((with_reducible show doCall _ _ _ 156 _ _); refine call_pc (c_toAfterS (by simp only [MLIM]; omega)) ?_)) <;> simp [-List.map_take, -List.map_drop, -List.map_tail, run_guard, run_guardD, resultsA, resA, Nat.add_assoc, afsV, sltV])
-- laws.eqAfters
theorem c_eqAfters {F1 F2 : Nat → Bool} {x y : Afs} : PC ctx.P 74 [.agg (afsV F1 x), .agg (afsV F2 y)] (.bool (x == y)) := by
  rw [afs_beq]
  refine PC.of okC Tryz.func74 rfl rfl (by kernel_rfl) (Nat.le_of_ble_eq_true rfl) (.bool _) fun h nx hnx => ?_
  show goC ctx _ _ (.fin (RetP _ _ _ _ _))
  try simp [-List.map_take, -List.map_drop, -List.map_tail, run_guard, run_guardD, resultsA, resA, Nat.add_assoc, afsV, sltV]
  repeat'
    first
    | done
    | ((first
        | ((with_reducible show doCall _ _ _ 189 _ _); refine call_pc (c_eqSlots (x := x.slots) (y := y.slots) (F1 := F1) (F2 := F2)) ?_)
        | ((with_reducible show doCall _ _ _ 190 _ _); refine call_pc (c_eqAfterS) ?_)) <;> simp [-List.map_take, -List.map_drop, -List.map_tail, run_guard, run_guardD, resultsA, resA, Nat.add_assoc, afsV, sltV])
    | ((first | (with_reducible refine condS_split ?_ ?_)) <;> intro qb <;> (have qp := qb; try simp only [psq] at qp) <;> simp [-List.map_take, -List.map_drop, -List.map_tail, run_guard, run_guardD, resultsA, resA, Nat.add_assoc, afsV, sltV, qb])
  all_goals (try clear hnx)
  all_goals first | (simp_all []; done) | (simp_all []; omega) | (rw [Bool.eq_iff_iff]; simp_all []; done) | (rw [Bool.eq_iff_iff]; simp_all []; omega) | omega | (simp only []; grind) | grind
-- laws.szAfters
theorem c_szAfters {F : Nat → Bool} {s : Afs} {k : Int} (h0 : 0 ≤ k) (h1 : k ≤ 1048576) : PC ctx.P 52 [.agg (afsV F s), .int .i64 k] (.int .i64 (szR (afssz s) k)) := by
  rw [afs_szN s h0]
  refine PC.of okC Tryz.func52 rfl rfl (by kernel_rfl) (Nat.le_of_ble_eq_true rfl) (.int _ _) fun h nx hnx => ?_
  show goC ctx _ _ (.fin (RetP _ _ _ _ _))
  try simp [-List.map_take, -List.map_drop, -List.map_tail, run_guard, run_guardD, resultsA, resA, Nat.add_assoc, afsV, sltV]
  repeat'
    first
    | done
    | ((first
        | ((with_reducible show doCall _ _ _ 137 _ _); refine call_pc (c_szSlots (s := s.slots) (F := F) (by first | assumption | omega) (by repeat (first | assumption | apply szR_hi))) ?_)
        | ((with_reducible show doCall _ _ _ 138 _ _); refine call_pc (c_szAfterS (by first | assumption | omega) (by repeat (first | assumption | apply szR_hi))) ?_)) <;> simp [-List.map_take, -List.map_drop, -List.map_tail, run_guard, run_guardD, resultsA, resA, Nat.add_assoc, afsV, sltV])
    | ((first | (with_reducible refine condS_split ?_ ?_)) <;> intro qb <;> (have qp := qb; try simp only [psq] at qp) <;> simp [-List.map_take, -List.map_drop, -List.map_tail, run_guard, run_guardD, resultsA, resA, Nat.add_assoc, afsV, sltV, qb])
  all_goals (clear hnx; simp only [szN]; repeat (first | rw [if_pos (by omega)] | rw [if_neg (by omega)]))

-- laws.toWorld
theorem c_toWorld {F : Nat → Bool} {s : Wld} (hs : wldsz s ≤ 1048576) : PC ctx.P 17 [.agg (wldV F s)] (.agg (wldV (fun _ => true) s)) := by
  simp only [wldsz, afssz, tmssz, sprsz, sltsz] at hs
  refine PC.of okC Tryz.func17 rfl rfl (by kernel_rfl) (Nat.le_of_ble_eq_true rfl) (.agg _ (wldV_fz s)) fun h nx hnx => ?_
  show goC ctx _ _ (.fin (RetP _ _ _ _ _))
  try simp [-List.map_take, -List.map_drop, -List.map_tail, run_guard, run_guardD, resultsA, resA, Nat.add_assoc, wldV, sltV, sprV, tmsV, afsV]
  repeat'
    first
    | done
    | ((first
        | ((with_reducible show doCall _ _ _ 58 _ _); refine call_pc (c_toInsSS (by simp only [MLIM]; omega) (fun x hx => by have := lsum_mem (·.length) hx; simp only [MLIM]; omega)) ?_)
        | ((with_reducible show doCall _ _ _ 59 _ _); refine call_pc (c_toNodeS (by simp only [MLIM]; omega)) ?_)
        | ((with_reducible show doCall _ _ _ 60 _ _); refine call_pc (c_toEventS (by simp only [MLIM]; omega)) ?_)
        | ((with_reducible show doCall _ _ _ 61 _ _); refine call_pc (c_toSpread (s := s.spread) (F := F) (by simp only [afssz, tmssz, sprsz, sltsz]; omega)) ?_)
        | ((with_reducible show doCall _ _ _ 62 _ _); refine call_pc (c_toTimers (s := s.timers) (F := F) (by simp only [afssz, tmssz, sprsz, sltsz]; omega)) ?_)
        | ((with_reducible show doCall _ _ _ 63 _ _); refine call_pc (c_toAfters (s := s.afters) (F := F) (by simp only [afssz, tmssz, sprsz, sltsz]; omega)) ?_)
        | ((with_reducible show doCall _ _ _ 64 _ _); refine call_pc (c_toTaskS (by simp only [MLIM]; omega)) ?_)
        | ((with_reducible show doCall _ _ _ 65 _ _); refine call_pc (c_toGroupS (by simp only [MLIM]; omega) (fun x hx => by have := lsum_mem (·.waits.length) hx; simp only [MLIM]; omega)) ?_)
        | ((with_reducible show doCall _ _ _ 66 _ _); refine call_pc (c_toSightS (by simp only [MLIM]; omega)) ?_)
        | ((with_reducible show doCall _ _ _ 67 _ _); refine call_pc (c_toInt64S (by simp only [MLIM]; omega)) ?_)) <;> simp [-List.map_take, -List.map_drop, -List.map_tail, run_guard, run_guardD, resultsA, resA, Nat.add_assoc, wldV, sltV, sprV, tmsV, afsV])
-- laws.eqWorld
theorem c_eqWorld {F1 F2 : Nat → Bool} {x y : Wld} : PC ctx.P 19 [.agg (wldV F1 x), .agg (wldV F2 y)] (.bool (x == y)) := by
  rw [wld_beq]
  refine PC.of okC Tryz.func19 rfl rfl (by kernel_rfl) (Nat.le_of_ble_eq_true rfl) (.bool _) fun h nx hnx => ?_
  show goC ctx _ _ (.fin (RetP _ _ _ _ _))
  try simp [-List.map_take, -List.map_drop, -List.map_tail, run_guard, run_guardD, resultsA, resA, Nat.add_assoc, wldV, sltV, sprV, tmsV, afsV]
  repeat'
    first
    | done
    | ((first
        | ((with_reducible show doCall _ _ _ 69 _ _); refine call_pc (c_eqInsSS) ?_)
        | ((with_reducible show doCall _ _ _ 70 _ _); refine call_pc (c_eqNodeS) ?_)
        | ((with_reducible show doCall _ _ _ 71 _ _); refine call_pc (c_eqEventS) ?_)
        | ((with_reducible show doCall _ _ _ 72 _ _); refine call_pc (c_eqSpread (x := x.spread) (y := y.spread) (F1 := F1) (F2 := F2)) ?_)
        | ((with_reducible show doCall _ _ _ 73 _ _); refine call_pc (c_eqTimers (x := x.timers) (y := y.timers) (F1 := F1) (F2 := F2)) ?_)
        | ((with_reducible show doCall _ _ _ 74 _ _); refine call_pc (c_eqAfters (x := x.afters) (y := y.afters) (F1 := F1) (F2 := F2)) ?_)
        | ((with_reducible show doCall _ _ _ 75 _ _); refine call_pc (c_eqTaskS) ?_)
        | ((with_reducible show doCall _ _ _ 76 _ _); refine call_pc (c_eqGroupS) ?_)
        | ((with_reducible show doCall _ _ _ 77 _ _); refine call_pc (c_eqSightS) ?_)
        | ((with_reducible show doCall _ _ _ 78 _ _); refine call_pc (c_eqInt64S) ?_)) <;> simp [-List.map_take, -List.map_drop, -List.map_tail, run_guard, run_guardD, resultsA, resA, Nat.add_assoc, wldV, sltV, sprV, tmsV, afsV])
    | ((first | (with_reducible refine condS_split ?_ ?_)) <;> intro qb <;> (have qp := qb; try simp only [psq] at qp) <;> simp [-List.map_take, -List.map_drop, -List.map_tail, run_guard, run_guardD, resultsA, resA, Nat.add_assoc, wldV, sltV, sprV, tmsV, afsV, qb])
  all_goals (try clear hnx)
  all_goals first | (simp_all []; done) | (simp_all []; omega) | (rw [Bool.eq_iff_iff]; simp_all []; done) | (rw [Bool.eq_iff_iff]; simp_all []; omega) | omega | (simp only []; grind) | grind
-- laws.szWorld
theorem c_szWorld {F : Nat → Bool} {s : Wld} {k : Int} (h0 : 0 ≤ k) (h1 : k ≤ 1048576) : PC ctx.P 15 [.agg (wldV F s), .int .i64 k] (.int .i64 (szR (wldsz s) k)) := by
  rw [wld_szN s h0]
  refine PC.of okC Tryz.func15 rfl rfl (by kernel_rfl) (Nat.le_of_ble_eq_true rfl) (.int _ _) fun h nx hnx => ?_
  show goC ctx _ _ (.fin (RetP _ _ _ _ _))
  try simp [-List.map_take, -List.map_drop, -List.map_tail, run_guard, run_guardD, resultsA, resA, Nat.add_assoc, wldV, sltV, sprV, tmsV, afsV]
  repeat'
    first
    | done
    | ((first
        | ((with_reducible show doCall _ _ _ 47 _ _); refine call_pc (c_szInsSS (by first | assumption | omega) (by repeat (first | assumption | apply szR_hi))) ?_)
        | ((with_reducible show doCall _ _ _ 48 _ _); refine call_pc (c_szNodeS (by first | assumption | omega) (by repeat (first | assumption | apply szR_hi))) ?_)
        | ((with_reducible show doCall _ _ _ 49 _ _); refine call_pc (c_szEventS (by first | assumption | omega) (by repeat (first | assumption | apply szR_hi))) ?_)
        | ((with_reducible show doCall _ _ _ 50 _ _); refine call_pc (c_szSpread (s := s.spread) (F := F) (by first | assumption | omega) (by repeat (first | assumption | apply szR_hi))) ?_)
        | ((with_reducible show doCall _ _ _ 51 _ _); refine call_pc (c_szTimers (s := s.timers) (F := F) (by first | assumption | omega) (by repeat (first | assumption | apply szR_hi))) ?_)
        | ((with_reducible show doCall _ _ _ 52 _ _); refine call_pc (c_szAfters (s := s.afters) (F := F) (by first | assumption | omega) (by repeat (first | assumption | apply szR_hi))) ?_)
        | ((with_reducible show doCall _ _ _ 53 _ _); refine call_pc (c_szTaskS (by first | assumption | omega) (by repeat (first | assumption | apply szR_hi))) ?_)
        | ((with_reducible show doCall _ _ _ 54 _ _); refine call_pc (c_szGroupS (by first | assumption | omega) (by repeat (first | assumption | apply szR_hi))) ?_)
        | ((with_reducible show doCall _ _ _ 55 _ _); refine call_pc (c_szSightS (by first | assumption | omega) (by repeat (first | assumption | apply szR_hi))) ?_)
        | ((with_reducible show doCall _ _ _ 56 _ _); refine call_pc (c_szInt64S (by first | assumption | omega) (by repeat (first | assumption | apply szR_hi))) ?_)) <;> simp [-List.map_take, -List.map_drop, -List.map_tail, run_guard, run_guardD, resultsA, resA, Nat.add_assoc, wldV, sltV, sprV, tmsV, afsV])
    | ((first | (with_reducible refine condS_split ?_ ?_)) <;> intro qb <;> (have qp := qb; try simp only [psq] at qp) <;> simp [-List.map_take, -List.map_drop, -List.map_tail, run_guard, run_guardD, resultsA, resA, Nat.add_assoc, wldV, sltV, sprV, tmsV, afsV, qb])
  all_goals (clear hnx; simp only [szN]; repeat (first | rw [if_pos (by omega)] | rw [if_neg (by omega)]))

end Go.AE.Tryz
end

section
/- Contracts of what is generic. -/
set_option linter.unusedSimpArgs false
set_option linter.unusedVariables false
set_option maxRecDepth 8000
set_option maxHeartbeats 2000000
namespace Go.AE.Tryz
open Go.Proofs

-- impl.size[impl.Ins]
theorem c_size_Ins {p : Bool} {xs : List Inn} : PC ctx.P 79 [.view p 3 (xs.map innC)] (.int .i64 xs.length) := by
  refine PC.of okC Tryz.func79 rfl rfl (by kernel_rfl) (Nat.le_of_ble_eq_true rfl) (.int _ _) fun h nx hnx => ?_
  show goC ctx _ _ (.fin (RetP _ _ _ _ _))
  try simp [-List.map_take, -List.map_drop, -List.map_tail, run_guard, run_guardD, resultsA, resA, Nat.add_assoc]
  repeat'
    first
    | done
    | ((first
        | ((with_reducible show lenS _ _ _ _ _ _); refine lenS_slice rfl fun _ => ?_)) <;> simp [-List.map_take, -List.map_drop, -List.map_tail, run_guard, run_guardD, resultsA, resA, Nat.add_assoc])


-- slices.IndexFunc[[]impl.Ins,impl.Ins]
theorem c_IndexFunc_Ins {p : Bool} {xs : List Inn} {q : Inn → Bool} {fv : AV} (hq : ∀ x ∈ xs, FV ctx.P fv [.agg (innC x)] (.bool (q x))) :
    PC ctx.P 339 [.view p 3 (xs.map innC), fv] (.int .i64 (idxI q xs 0)) := by
  refine PC.lim (n := xs.length) (x := .view p 3 (xs.map innC)) (by simp) (.here (by simp)) ⟨_, Tryz.func339, by kernel_rfl, by kernel_rfl⟩ fun hlim => ?_
  refine PC.of okC Tryz.func339 rfl rfl (by kernel_rfl) (Nat.le_of_ble_eq_true rfl) (.int _ _) fun h nx hnx => ?_
  show goC ctx _ _ (.fin (RetP _ _ _ _ _))
  try simp [-List.map_take, -List.map_drop, -List.map_tail, run_guard, run_guardD, resultsA, resA, Nat.add_assoc]
  repeat'
    first
    | done
    | ((first
        | ((with_reducible show lenS _ _ _ _ _ _); refine lenS_slice rfl fun _ => ?_)
        | ((with_reducible show iaddrS _ _ _ _ _ _ _); refine iaddr_map rfl (by first | omega | (simp; done) | (simp; omega) | (simp [inR, isIn] at *; done) | (simp [inR, isIn] at *; omega)) (by first | omega | (simp; done) | (simp; omega) | (simp [inR, isIn] at *; done) | (simp [inR, isIn] at *; omega)) ?_)) <;> simp [-List.map_take, -List.map_drop, -List.map_tail, run_guard, run_guardD, resultsA, resA, Nat.add_assoc])
    | ((first | (with_reducible refine condS_split ?_ ?_)) <;> intro qb <;> (have qp := qb; try simp only [psq] at qp) <;> simp [-List.map_take, -List.map_drop, -List.map_tail, run_guard, run_guardD, resultsA, resA, Nat.add_assoc, qb])
  refine go_upP [4, 5, 8, 9, 10, 11, 12, 13, 14, 15, 16, 17, 18] (xs.length) (fun (i : Nat) a => [(8, .int .i64 i)]) (fun i_ a_ h_ _ => (fun i (_ : Unit) _ => idxI q (xs.drop i) i = idxI q xs 0) i_ a_ h_) (()) (by simp) ?_ keep_rfl (Nat.le_refl _) ?_
  · simp
  · intro i a tm h' n' hle hJ hE hn' next hnx
    try dsimp only at hJ
    have hK : KeepB nx h' h := KeepB.sub hE (by repeat' first | exact hE2 | exact hK2 | exact hE | exact hK | exact keep_rfl | refine keep_upd_of (by omega) ?_ | refine KeepB.sub hE2 ?_ (by omega)) (by omega)
    simp [-List.map_take, -List.map_drop, -List.map_tail]
    try simp [-List.map_take, -List.map_drop, -List.map_tail, run_guard, run_guardD, resultsA, resA, Nat.add_assoc, innC]
    repeat'
      first
      | done
      | ((first
          | ((with_reducible show lenS _ _ _ _ _ _); refine lenS_slice rfl fun _ => ?_)
          | ((with_reducible show iaddrS _ _ _ _ _ _ _); refine iaddr_map rfl (by first | omega | (simp; done) | (simp; omega) | (simp [inR, isIn] at *; done) | (simp [inR, isIn] at *; omega)) (by first | omega | (simp; done) | (simp; omega) | (simp [inR, isIn] at *; done) | (simp [inR, isIn] at *; omega)) ?_)
          | (refine call_fv (hq _ (gt_mem (by omega) (by omega))) ?_)) <;> simp [-List.map_take, -List.map_drop, -List.map_tail, run_guard, run_guardD, resultsA, resA, Nat.add_assoc, innC])
      | ((first | (with_reducible refine condS_split ?_ ?_)) <;> intro qb <;> (have qp := qb; try simp only [psq] at qp) <;> simp [-List.map_take, -List.map_drop, -List.map_tail, run_guard, run_guardD, resultsA, resA, Nat.add_assoc, innC, qb])
    all_goals
      first
      | (have hlt : i < xs.length := (by first | omega | (simp at *; omega))
         rw [drop_gt hlt] at hJ
         first
         | (refine hnx.go (()) ?_ ?_ ?_ ?_ ?_ ?_; omega; (simp [wrap_succ hlt hlim]); (simp); exact (by repeat' first | exact hE2 | exact hK2 | exact hE | exact hK | exact keep_rfl | refine keep_upd_of (by omega) ?_ | refine KeepB.sub hE2 ?_ (by omega)); (first | omega | (simp; omega)); (try dsimp only); clear hnx; first | ((try simp only [List.drop_length, Int.toNat_natCast, idxI] at hJ ⊢); grind) | (simp_all [idxI]; done) | (simp_all; omega))
         | (refine ⟨?_, (by repeat' first | exact hE2 | exact hK2 | exact hE | exact hK | exact keep_rfl | refine keep_upd_of (by omega) ?_ | refine KeepB.sub hE2 ?_ (by omega))⟩; clear hnx; first | ((try simp only [List.drop_length, Int.toNat_natCast, idxI] at hJ ⊢); grind) | (simp_all [idxI]; done) | (simp_all; omega)))
      | (obtain rfl : i = xs.length := (by first | omega | (simp at *; omega))
         refine ⟨?_, (by repeat' first | exact hE2 | exact hK2 | exact hE | exact hK | exact keep_rfl | refine keep_upd_of (by omega) ?_ | refine KeepB.sub hE2 ?_ (by omega))⟩; clear hnx; first | ((try simp only [List.drop_length, Int.toNat_natCast, idxI] at hJ ⊢); grind) | (simp_all [idxI]; done) | (simp_all; omega))

-- slices.ContainsFunc[[]impl.Ins,impl.Ins]
theorem c_ContainsFunc_Ins {p : Bool} {xs : List Inn} {q : Inn → Bool} {fv : AV} (hq : ∀ x ∈ xs, FV ctx.P fv [.agg (innC x)] (.bool (q x))) :
    PC ctx.P 263 [.view p 3 (xs.map innC), fv] (.bool (xs.any q)) := by
  refine PC.of okC Tryz.func263 rfl rfl (by kernel_rfl) (Nat.le_of_ble_eq_true rfl) (.bool _) fun h nx hnx => ?_
  show goC ctx _ _ (.fin (RetP _ _ _ _ _))
  try simp [-List.map_take, -List.map_drop, -List.map_tail, run_guard, run_guardD, resultsA, resA, Nat.add_assoc, idxI_any q xs 0 (Int.le_refl 0)]
  repeat'
    first
    | done
    | ((first
        | ((with_reducible show doCall _ _ _ 339 _ _); refine call_pc (c_IndexFunc_Ins hq) ?_)) <;> simp [-List.map_take, -List.map_drop, -List.map_tail, run_guard, run_guardD, resultsA, resA, Nat.add_assoc, idxI_any q xs 0 (Int.le_refl 0)])


-- impl.size[impl.Node]
theorem c_size_Node {p : Bool} {xs : List Nod} : PC ctx.P 200 [.view p 5 (xs.map nodC)] (.int .i64 xs.length) := by
  refine PC.of okC Tryz.func200 rfl rfl (by kernel_rfl) (Nat.le_of_ble_eq_true rfl) (.int _ _) fun h nx hnx => ?_
  show goC ctx _ _ (.fin (RetP _ _ _ _ _))
  try simp [-List.map_take, -List.map_drop, -List.map_tail, run_guard, run_guardD, resultsA, resA, Nat.add_assoc]
  repeat'
    first
    | done
    | ((first
        | ((with_reducible show lenS _ _ _ _ _ _); refine lenS_slice rfl fun _ => ?_)) <;> simp [-List.map_take, -List.map_drop, -List.map_tail, run_guard, run_guardD, resultsA, resA, Nat.add_assoc])

-- impl.isIn[impl.Node]
theorem c_isIn_Node {p : Bool} {n : Int} {xs : List Nod} : PC ctx.P 172 [.int .i64 n, .view p 5 (xs.map nodC)] (.bool (isIn n xs)) := by
  refine PC.lim (n := xs.length) (x := .view p 5 (xs.map nodC)) (by simp) (.here (by simp)) ⟨_, Tryz.func172, by kernel_rfl, by kernel_rfl⟩ fun hlim => ?_
  refine PC.of okC Tryz.func172 rfl rfl (by kernel_rfl) (Nat.le_of_ble_eq_true rfl) (.bool _) fun h nx hnx => ?_
  show goC ctx _ _ (.fin (RetP _ _ _ _ _))
  try simp [-List.map_take, -List.map_drop, -List.map_tail, run_guard, run_guardD, resultsA, resA, Nat.add_assoc, wrap_pred hlim, isIn]
  repeat'
    first
    | done
    | ((first
        | ((with_reducible show doCall _ _ _ 200 _ _); refine call_pc (c_size_Node) ?_)
        | ((with_reducible show doCall _ _ _ 165 _ _); refine call_pc (c_within) ?_)) <;> simp [-List.map_take, -List.map_drop, -List.map_tail, run_guard, run_guardD, resultsA, resA, Nat.add_assoc, wrap_pred hlim, isIn])




-- impl.size[impl.Event]
theorem c_size_Event {p : Bool} {xs : List Evt} : PC ctx.P 296 [.view p 4 (xs.map evtC)] (.int .i64 xs.length) := by
  refine PC.of okC Tryz.func296 rfl rfl (by kernel_rfl) (Nat.le_of_ble_eq_true rfl) (.int _ _) fun h nx hnx => ?_
  show goC ctx _ _ (.fin (RetP _ _ _ _ _))
  try simp [-List.map_take, -List.map_drop, -List.map_tail, run_guard, run_guardD, resultsA, resA, Nat.add_assoc]
  repeat'
    first
    | done
    | ((first
        | ((with_reducible show lenS _ _ _ _ _ _); refine lenS_slice rfl fun _ => ?_)) <;> simp [-List.map_take, -List.map_drop, -List.map_tail, run_guard, run_guardD, resultsA, resA, Nat.add_assoc])


-- slices.IndexFunc[[]impl.Event,impl.Event]
theorem c_IndexFunc_Event {p : Bool} {xs : List Evt} {q : Evt → Bool} {fv : AV} (hq : ∀ x ∈ xs, FV ctx.P fv [.agg (evtC x)] (.bool (q x))) :
    PC ctx.P 303 [.view p 4 (xs.map evtC), fv] (.int .i64 (idxI q xs 0)) := by
  refine PC.lim (n := xs.length) (x := .view p 4 (xs.map evtC)) (by simp) (.here (by simp)) ⟨_, Tryz.func303, by kernel_rfl, by kernel_rfl⟩ fun hlim => ?_
  refine PC.of okC Tryz.func303 rfl rfl (by kernel_rfl) (Nat.le_of_ble_eq_true rfl) (.int _ _) fun h nx hnx => ?_
  show goC ctx _ _ (.fin (RetP _ _ _ _ _))
  try simp [-List.map_take, -List.map_drop, -List.map_tail, run_guard, run_guardD, resultsA, resA, Nat.add_assoc]
  repeat'
    first
    | done
    | ((first
        | ((with_reducible show lenS _ _ _ _ _ _); refine lenS_slice rfl fun _ => ?_)
        | ((with_reducible show iaddrS _ _ _ _ _ _ _); refine iaddr_map rfl (by first | omega | (simp; done) | (simp; omega) | (simp [inR, isIn] at *; done) | (simp [inR, isIn] at *; omega)) (by first | omega | (simp; done) | (simp; omega) | (simp [inR, isIn] at *; done) | (simp [inR, isIn] at *; omega)) ?_)) <;> simp [-List.map_take, -List.map_drop, -List.map_tail, run_guard, run_guardD, resultsA, resA, Nat.add_assoc])
    | ((first | (with_reducible refine condS_split ?_ ?_)) <;> intro qb <;> (have qp := qb; try simp only [psq] at qp) <;> simp [-List.map_take, -List.map_drop, -List.map_tail, run_guard, run_guardD, resultsA, resA, Nat.add_assoc, qb])
  refine go_upP [4, 5, 8, 9, 10, 11, 12, 13, 14, 15, 16, 17, 18] (xs.length) (fun (i : Nat) a => [(8, .int .i64 i)]) (fun i_ a_ h_ _ => (fun i (_ : Unit) _ => idxI q (xs.drop i) i = idxI q xs 0) i_ a_ h_) (()) (by simp) ?_ keep_rfl (Nat.le_refl _) ?_
  · simp
  · intro i a tm h' n' hle hJ hE hn' next hnx
    try dsimp only at hJ
    have hK : KeepB nx h' h := KeepB.sub hE (by repeat' first | exact hE2 | exact hK2 | exact hE | exact hK | exact keep_rfl | refine keep_upd_of (by omega) ?_ | refine KeepB.sub hE2 ?_ (by omega)) (by omega)
    simp [-List.map_take, -List.map_drop, -List.map_tail]
    try simp [-List.map_take, -List.map_drop, -List.map_tail, run_guard, run_guardD, resultsA, resA, Nat.add_assoc, evtC]
    repeat'
      first
      | done
      | ((first
          | ((with_reducible show lenS _ _ _ _ _ _); refine lenS_slice rfl fun _ => ?_)
          | ((with_reducible show iaddrS _ _ _ _ _ _ _); refine iaddr_map rfl (by first | omega | (simp; done) | (simp; omega) | (simp [inR, isIn] at *; done) | (simp [inR, isIn] at *; omega)) (by first | omega | (simp; done) | (simp; omega) | (simp [inR, isIn] at *; done) | (simp [inR, isIn] at *; omega)) ?_)
          | (refine call_fv (hq _ (gt_mem (by omega) (by omega))) ?_)) <;> simp [-List.map_take, -List.map_drop, -List.map_tail, run_guard, run_guardD, resultsA, resA, Nat.add_assoc, evtC])
      | ((first | (with_reducible refine condS_split ?_ ?_)) <;> intro qb <;> (have qp := qb; try simp only [psq] at qp) <;> simp [-List.map_take, -List.map_drop, -List.map_tail, run_guard, run_guardD, resultsA, resA, Nat.add_assoc, evtC, qb])
    all_goals
      first
      | (have hlt : i < xs.length := (by first | omega | (simp at *; omega))
         rw [drop_gt hlt] at hJ
         first
         | (refine hnx.go (()) ?_ ?_ ?_ ?_ ?_ ?_; omega; (simp [wrap_succ hlt hlim]); (simp); exact (by repeat' first | exact hE2 | exact hK2 | exact hE | exact hK | exact keep_rfl | refine keep_upd_of (by omega) ?_ | refine KeepB.sub hE2 ?_ (by omega)); (first | omega | (simp; omega)); (try dsimp only); clear hnx; first | ((try simp only [List.drop_length, Int.toNat_natCast, idxI] at hJ ⊢); grind) | (simp_all [idxI]; done) | (simp_all; omega))
         | (refine ⟨?_, (by repeat' first | exact hE2 | exact hK2 | exact hE | exact hK | exact keep_rfl | refine keep_upd_of (by omega) ?_ | refine KeepB.sub hE2 ?_ (by omega))⟩; clear hnx; first | ((try simp only [List.drop_length, Int.toNat_natCast, idxI] at hJ ⊢); grind) | (simp_all [idxI]; done) | (simp_all; omega)))
      | (obtain rfl : i = xs.length := (by first | omega | (simp at *; omega))
         refine ⟨?_, (by repeat' first | exact hE2 | exact hK2 | exact hE | exact hK | exact keep_rfl | refine keep_upd_of (by omega) ?_ | refine KeepB.sub hE2 ?_ (by omega))⟩; clear hnx; first | ((try simp only [List.drop_length, Int.toNat_natCast, idxI] at hJ ⊢); grind) | (simp_all [idxI]; done) | (simp_all; omega))

-- slices.ContainsFunc[[]impl.Event,impl.Event]
theorem c_ContainsFunc_Event {p : Bool} {xs : List Evt} {q : Evt → Bool} {fv : AV} (hq : ∀ x ∈ xs, FV ctx.P fv [.agg (evtC x)] (.bool (q x))) :
    PC ctx.P 196 [.view p 4 (xs.map evtC), fv] (.bool (xs.any q)) := by
  refine PC.of okC Tryz.func196 rfl rfl (by kernel_rfl) (Nat.le_of_ble_eq_true rfl) (.bool _) fun h nx hnx => ?_
  show goC ctx _ _ (.fin (RetP _ _ _ _ _))
  try simp [-List.map_take, -List.map_drop, -List.map_tail, run_guard, run_guardD, resultsA, resA, Nat.add_assoc, idxI_any q xs 0 (Int.le_refl 0)]
  repeat'
    first
    | done
    | ((first
        | ((with_reducible show doCall _ _ _ 303 _ _); refine call_pc (c_IndexFunc_Event hq) ?_)) <;> simp [-List.map_take, -List.map_drop, -List.map_tail, run_guard, run_guardD, resultsA, resA, Nat.add_assoc, idxI_any q xs 0 (Int.le_refl 0)])

-- impl.all[impl.Event]$1
theorem c_allf_Event {x : Evt} {q : Evt → Bool} {fv : AV} (hq : FV ctx.P fv [.agg (evtC x)] (.bool (q x))) : PC ctx.P 197 [.agg (evtC x), .vptr [fv]] (.bool (!q x)) := by
  refine PC.of okC Tryz.func197 rfl rfl (by kernel_rfl) (Nat.le_of_ble_eq_true rfl) (.bool _) fun h nx hnx => ?_
  show goC ctx _ _ (.fin (RetP _ _ _ _ _))
  try simp [-List.map_take, -List.map_drop, -List.map_tail, run_guard, run_guardD, resultsA, resA, Nat.add_assoc]
  repeat'
    first
    | done
    | ((first
        | (refine call_fv (hq) ?_)) <;> simp [-List.map_take, -List.map_drop, -List.map_tail, run_guard, run_guardD, resultsA, resA, Nat.add_assoc])
-- impl.all[impl.Event]
theorem c_all_Event {p : Bool} {xs : List Evt} {q : Evt → Bool} {fv : AV} (hf : IsF fv) (hq : ∀ x ∈ xs, FV ctx.P fv [.agg (evtC x)] (.bool (q x))) :
    PC ctx.P 82 [.view p 4 (xs.map evtC), fv] (.bool (xs.all q)) := by
  refine PC.of okC Tryz.func82 rfl rfl (by kernel_rfl) (Nat.le_of_ble_eq_true rfl) (.bool _) fun h nx hnx => ?_
  show goC ctx _ _ (.fin (RetP _ _ _ _ _))
  have hc := c_ContainsFunc_Event (p := p) (q := fun x => !q x) (xs := xs) (fv := .fn 197 [.vptr [fv]]) fun x hx => c_allf_Event (hq x hx)
  cases hf
  all_goals simp
  · refine call_pcB (hc) (by first | exact .bool _ | exact .int _ _ | exact .str _) (by repeat' first | exact Bors.nil | refine Bors.cons ?_ ?_ | exact Bor.same _ | refine Bor.fn1 ?_ | refine Bor.bnd1 ?_ | refine Bor.agg1 ?_ | refine Bor.ptr0 (by first | (simp; done) | (simp; rfl) | assumption | (simp [*]; done)) ?_ | refine Bor.ref0 (by first | (simp; done) | (simp; rfl) | (simp [iv, bv]; done)) (by simp) (by simp)) ?_
    simp [resultsA, resA, List.all_eq_not_any_not]
  · refine call_pcB (hc) (by first | exact .bool _ | exact .int _ _ | exact .str _) (by repeat' first | exact Bors.nil | refine Bors.cons ?_ ?_ | exact Bor.same _ | refine Bor.fn1 ?_ | refine Bor.bnd1 ?_ | refine Bor.agg1 ?_ | refine Bor.ptr0 (by first | (simp; done) | (simp; rfl) | assumption | (simp [*]; done)) ?_ | refine Bor.ref0 (by first | (simp; done) | (simp; rfl) | (simp [iv, bv]; done)) (by simp) (by simp)) ?_
    simp [resultsA, resA, List.all_eq_not_any_not]

-- impl.size[impl.Twig]
theorem c_size_Twig {p : Bool} {xs : List Twg} : PC ctx.P 376 [.view p 3 (xs.map twgC)] (.int .i64 xs.length) := by
  refine PC.of okC Tryz.func376 rfl rfl (by kernel_rfl) (Nat.le_of_ble_eq_true rfl) (.int _ _) fun h nx hnx => ?_
  show goC ctx _ _ (.fin (RetP _ _ _ _ _))
  try simp [-List.map_take, -List.map_drop, -List.map_tail, run_guard, run_guardD, resultsA, resA, Nat.add_assoc]
  repeat'
    first
    | done
    | ((first
        | ((with_reducible show lenS _ _ _ _ _ _); refine lenS_slice rfl fun _ => ?_)) <;> simp [-List.map_take, -List.map_drop, -List.map_tail, run_guard, run_guardD, resultsA, resA, Nat.add_assoc])


-- slices.IndexFunc[[]impl.Twig,impl.Twig]
theorem c_IndexFunc_Twig {p : Bool} {xs : List Twg} {q : Twg → Bool} {fv : AV} (hq : ∀ x ∈ xs, FV ctx.P fv [.agg (twgC x)] (.bool (q x))) :
    PC ctx.P 346 [.view p 3 (xs.map twgC), fv] (.int .i64 (idxI q xs 0)) := by
  refine PC.lim (n := xs.length) (x := .view p 3 (xs.map twgC)) (by simp) (.here (by simp)) ⟨_, Tryz.func346, by kernel_rfl, by kernel_rfl⟩ fun hlim => ?_
  refine PC.of okC Tryz.func346 rfl rfl (by kernel_rfl) (Nat.le_of_ble_eq_true rfl) (.int _ _) fun h nx hnx => ?_
  show goC ctx _ _ (.fin (RetP _ _ _ _ _))
  try simp [-List.map_take, -List.map_drop, -List.map_tail, run_guard, run_guardD, resultsA, resA, Nat.add_assoc]
  repeat'
    first
    | done
    | ((first
        | ((with_reducible show lenS _ _ _ _ _ _); refine lenS_slice rfl fun _ => ?_)
        | ((with_reducible show iaddrS _ _ _ _ _ _ _); refine iaddr_map rfl (by first | omega | (simp; done) | (simp; omega) | (simp [inR, isIn] at *; done) | (simp [inR, isIn] at *; omega)) (by first | omega | (simp; done) | (simp; omega) | (simp [inR, isIn] at *; done) | (simp [inR, isIn] at *; omega)) ?_)) <;> simp [-List.map_take, -List.map_drop, -List.map_tail, run_guard, run_guardD, resultsA, resA, Nat.add_assoc])
    | ((first | (with_reducible refine condS_split ?_ ?_)) <;> intro qb <;> (have qp := qb; try simp only [psq] at qp) <;> simp [-List.map_take, -List.map_drop, -List.map_tail, run_guard, run_guardD, resultsA, resA, Nat.add_assoc, qb])
  refine go_upP [4, 5, 8, 9, 10, 11, 12, 13, 14, 15, 16, 17, 18] (xs.length) (fun (i : Nat) a => [(8, .int .i64 i)]) (fun i_ a_ h_ _ => (fun i (_ : Unit) _ => idxI q (xs.drop i) i = idxI q xs 0) i_ a_ h_) (()) (by simp) ?_ keep_rfl (Nat.le_refl _) ?_
  · simp
  · intro i a tm h' n' hle hJ hE hn' next hnx
    try dsimp only at hJ
    have hK : KeepB nx h' h := KeepB.sub hE (by repeat' first | exact hE2 | exact hK2 | exact hE | exact hK | exact keep_rfl | refine keep_upd_of (by omega) ?_ | refine KeepB.sub hE2 ?_ (by omega)) (by omega)
    simp [-List.map_take, -List.map_drop, -List.map_tail]
    try simp [-List.map_take, -List.map_drop, -List.map_tail, run_guard, run_guardD, resultsA, resA, Nat.add_assoc, twgC]
    repeat'
      first
      | done
      | ((first
          | ((with_reducible show lenS _ _ _ _ _ _); refine lenS_slice rfl fun _ => ?_)
          | ((with_reducible show iaddrS _ _ _ _ _ _ _); refine iaddr_map rfl (by first | omega | (simp; done) | (simp; omega) | (simp [inR, isIn] at *; done) | (simp [inR, isIn] at *; omega)) (by first | omega | (simp; done) | (simp; omega) | (simp [inR, isIn] at *; done) | (simp [inR, isIn] at *; omega)) ?_)
          | (refine call_fv (hq _ (gt_mem (by omega) (by omega))) ?_)) <;> simp [-List.map_take, -List.map_drop, -List.map_tail, run_guard, run_guardD, resultsA, resA, Nat.add_assoc, twgC])
      | ((first | (with_reducible refine condS_split ?_ ?_)) <;> intro qb <;> (have qp := qb; try simp only [psq] at qp) <;> simp [-List.map_take, -List.map_drop, -List.map_tail, run_guard, run_guardD, resultsA, resA, Nat.add_assoc, twgC, qb])
    all_goals
      first
      | (have hlt : i < xs.length := (by first | omega | (simp at *; omega))
         rw [drop_gt hlt] at hJ
         first
         | (refine hnx.go (()) ?_ ?_ ?_ ?_ ?_ ?_; omega; (simp [wrap_succ hlt hlim]); (simp); exact (by repeat' first | exact hE2 | exact hK2 | exact hE | exact hK | exact keep_rfl | refine keep_upd_of (by omega) ?_ | refine KeepB.sub hE2 ?_ (by omega)); (first | omega | (simp; omega)); (try dsimp only); clear hnx; first | ((try simp only [List.drop_length, Int.toNat_natCast, idxI] at hJ ⊢); grind) | (simp_all [idxI]; done) | (simp_all; omega))
         | (refine ⟨?_, (by repeat' first | exact hE2 | exact hK2 | exact hE | exact hK | exact keep_rfl | refine keep_upd_of (by omega) ?_ | refine KeepB.sub hE2 ?_ (by omega))⟩; clear hnx; first | ((try simp only [List.drop_length, Int.toNat_natCast, idxI] at hJ ⊢); grind) | (simp_all [idxI]; done) | (simp_all; omega)))
      | (obtain rfl : i = xs.length := (by first | omega | (simp at *; omega))
         refine ⟨?_, (by repeat' first | exact hE2 | exact hK2 | exact hE | exact hK | exact keep_rfl | refine keep_upd_of (by omega) ?_ | refine KeepB.sub hE2 ?_ (by omega))⟩; clear hnx; first | ((try simp only [List.drop_length, Int.toNat_natCast, idxI] at hJ ⊢); grind) | (simp_all [idxI]; done) | (simp_all; omega))

-- slices.ContainsFunc[[]impl.Twig,impl.Twig]
theorem c_ContainsFunc_Twig {p : Bool} {xs : List Twg} {q : Twg → Bool} {fv : AV} (hq : ∀ x ∈ xs, FV ctx.P fv [.agg (twgC x)] (.bool (q x))) :
    PC ctx.P 271 [.view p 3 (xs.map twgC), fv] (.bool (xs.any q)) := by
  refine PC.of okC Tryz.func271 rfl rfl (by kernel_rfl) (Nat.le_of_ble_eq_true rfl) (.bool _) fun h nx hnx => ?_
  show goC ctx _ _ (.fin (RetP _ _ _ _ _))
  try simp [-List.map_take, -List.map_drop, -List.map_tail, run_guard, run_guardD, resultsA, resA, Nat.add_assoc, idxI_any q xs 0 (Int.le_refl 0)]
  repeat'
    first
    | done
    | ((first
        | ((with_reducible show doCall _ _ _ 346 _ _); refine call_pc (c_IndexFunc_Twig hq) ?_)) <;> simp [-List.map_take, -List.map_drop, -List.map_tail, run_guard, run_guardD, resultsA, resA, Nat.add_assoc, idxI_any q xs 0 (Int.le_refl 0)])




-- slices.IndexFunc[[]impl.Timer,impl.Timer]
theorem c_IndexFunc_Timer {p : Bool} {xs : List Tmr} {q : Tmr → Bool} {fv : AV} (hq : ∀ x ∈ xs, FV ctx.P fv [.agg (tmrC x)] (.bool (q x))) :
    PC ctx.P 328 [.view p 5 (xs.map tmrC), fv] (.int .i64 (idxI q xs 0)) := by
  refine PC.lim (n := xs.length) (x := .view p 5 (xs.map tmrC)) (by simp) (.here (by simp)) ⟨_, Tryz.func328, by kernel_rfl, by kernel_rfl⟩ fun hlim => ?_
  refine PC.of okC Tryz.func328 rfl rfl (by kernel_rfl) (Nat.le_of_ble_eq_true rfl) (.int _ _) fun h nx hnx => ?_
  show goC ctx _ _ (.fin (RetP _ _ _ _ _))
  try simp [-List.map_take, -List.map_drop, -List.map_tail, run_guard, run_guardD, resultsA, resA, Nat.add_assoc]
  repeat'
    first
    | done
    | ((first
        | ((with_reducible show lenS _ _ _ _ _ _); refine lenS_slice rfl fun _ => ?_)
        | ((with_reducible show iaddrS _ _ _ _ _ _ _); refine iaddr_map rfl (by first | omega | (simp; done) | (simp; omega) | (simp [inR, isIn] at *; done) | (simp [inR, isIn] at *; omega)) (by first | omega | (simp; done) | (simp; omega) | (simp [inR, isIn] at *; done) | (simp [inR, isIn] at *; omega)) ?_)) <;> simp [-List.map_take, -List.map_drop, -List.map_tail, run_guard, run_guardD, resultsA, resA, Nat.add_assoc])
    | ((first | (with_reducible refine condS_split ?_ ?_)) <;> intro qb <;> (have qp := qb; try simp only [psq] at qp) <;> simp [-List.map_take, -List.map_drop, -List.map_tail, run_guard, run_guardD, resultsA, resA, Nat.add_assoc, qb])
  refine go_upP [4, 5, 8, 9, 10, 11, 12, 13, 14, 15, 16, 17, 18] (xs.length) (fun (i : Nat) a => [(8, .int .i64 i)]) (fun i_ a_ h_ _ => (fun i (_ : Unit) _ => idxI q (xs.drop i) i = idxI q xs 0) i_ a_ h_) (()) (by simp) ?_ keep_rfl (Nat.le_refl _) ?_
  · simp
  · intro i a tm h' n' hle hJ hE hn' next hnx
    try dsimp only at hJ
    have hK : KeepB nx h' h := KeepB.sub hE (by repeat' first | exact hE2 | exact hK2 | exact hE | exact hK | exact keep_rfl | refine keep_upd_of (by omega) ?_ | refine KeepB.sub hE2 ?_ (by omega)) (by omega)
    simp [-List.map_take, -List.map_drop, -List.map_tail]
    try simp [-List.map_take, -List.map_drop, -List.map_tail, run_guard, run_guardD, resultsA, resA, Nat.add_assoc, tmrC]
    repeat'
      first
      | done
      | ((first
          | ((with_reducible show lenS _ _ _ _ _ _); refine lenS_slice rfl fun _ => ?_)
          | ((with_reducible show iaddrS _ _ _ _ _ _ _); refine iaddr_map rfl (by first | omega | (simp; done) | (simp; omega) | (simp [inR, isIn] at *; done) | (simp [inR, isIn] at *; omega)) (by first | omega | (simp; done) | (simp; omega) | (simp [inR, isIn] at *; done) | (simp [inR, isIn] at *; omega)) ?_)
          | (refine call_fv (hq _ (gt_mem (by omega) (by omega))) ?_)) <;> simp [-List.map_take, -List.map_drop, -List.map_tail, run_guard, run_guardD, resultsA, resA, Nat.add_assoc, tmrC])
      | ((first | (with_reducible refine condS_split ?_ ?_)) <;> intro qb <;> (have qp := qb; try simp only [psq] at qp) <;> simp [-List.map_take, -List.map_drop, -List.map_tail, run_guard, run_guardD, resultsA, resA, Nat.add_assoc, tmrC, qb])
    all_goals
      first
      | (have hlt : i < xs.length := (by first | omega | (simp at *; omega))
         rw [drop_gt hlt] at hJ
         first
         | (refine hnx.go (()) ?_ ?_ ?_ ?_ ?_ ?_; omega; (simp [wrap_succ hlt hlim]); (simp); exact (by repeat' first | exact hE2 | exact hK2 | exact hE | exact hK | exact keep_rfl | refine keep_upd_of (by omega) ?_ | refine KeepB.sub hE2 ?_ (by omega)); (first | omega | (simp; omega)); (try dsimp only); clear hnx; first | ((try simp only [List.drop_length, Int.toNat_natCast, idxI] at hJ ⊢); grind) | (simp_all [idxI]; done) | (simp_all; omega))
         | (refine ⟨?_, (by repeat' first | exact hE2 | exact hK2 | exact hE | exact hK | exact keep_rfl | refine keep_upd_of (by omega) ?_ | refine KeepB.sub hE2 ?_ (by omega))⟩; clear hnx; first | ((try simp only [List.drop_length, Int.toNat_natCast, idxI] at hJ ⊢); grind) | (simp_all [idxI]; done) | (simp_all; omega)))
      | (obtain rfl : i = xs.length := (by first | omega | (simp at *; omega))
         refine ⟨?_, (by repeat' first | exact hE2 | exact hK2 | exact hE | exact hK | exact keep_rfl | refine keep_upd_of (by omega) ?_ | refine KeepB.sub hE2 ?_ (by omega))⟩; clear hnx; first | ((try simp only [List.drop_length, Int.toNat_natCast, idxI] at hJ ⊢); grind) | (simp_all [idxI]; done) | (simp_all; omega))

-- slices.ContainsFunc[[]impl.Timer,impl.Timer]
theorem c_ContainsFunc_Timer {p : Bool} {xs : List Tmr} {q : Tmr → Bool} {fv : AV} (hq : ∀ x ∈ xs, FV ctx.P fv [.agg (tmrC x)] (.bool (q x))) :
    PC ctx.P 273 [.view p 5 (xs.map tmrC), fv] (.bool (xs.any q)) := by
  refine PC.of okC Tryz.func273 rfl rfl (by kernel_rfl) (Nat.le_of_ble_eq_true rfl) (.bool _) fun h nx hnx => ?_
  show goC ctx _ _ (.fin (RetP _ _ _ _ _))
  try simp [-List.map_take, -List.map_drop, -List.map_tail, run_guard, run_guardD, resultsA, resA, Nat.add_assoc, idxI_any q xs 0 (Int.le_refl 0)]
  repeat'
    first
    | done
    | ((first
        | ((with_reducible show doCall _ _ _ 328 _ _); refine call_pc (c_IndexFunc_Timer hq) ?_)) <;> simp [-List.map_take, -List.map_drop, -List.map_tail, run_guard, run_guardD, resultsA, resA, Nat.add_assoc, idxI_any q xs 0 (Int.le_refl 0)])

-- impl.all[impl.Timer]$1
theorem c_allf_Timer {x : Tmr} {q : Tmr → Bool} {fv : AV} (hq : FV ctx.P fv [.agg (tmrC x)] (.bool (q x))) : PC ctx.P 274 [.agg (tmrC x), .vptr [fv]] (.bool (!q x)) := by
  refine PC.of okC Tryz.func274 rfl rfl (by kernel_rfl) (Nat.le_of_ble_eq_true rfl) (.bool _) fun h nx hnx => ?_
  show goC ctx _ _ (.fin (RetP _ _ _ _ _))
  try simp [-List.map_take, -List.map_drop, -List.map_tail, run_guard, run_guardD, resultsA, resA, Nat.add_assoc]
  repeat'
    first
    | done
    | ((first
        | (refine call_fv (hq) ?_)) <;> simp [-List.map_take, -List.map_drop, -List.map_tail, run_guard, run_guardD, resultsA, resA, Nat.add_assoc])
-- impl.all[impl.Timer]
theorem c_all_Timer {p : Bool} {xs : List Tmr} {q : Tmr → Bool} {fv : AV} (hf : IsF fv) (hq : ∀ x ∈ xs, FV ctx.P fv [.agg (tmrC x)] (.bool (q x))) :
    PC ctx.P 167 [.view p 5 (xs.map tmrC), fv] (.bool (xs.all q)) := by
  refine PC.of okC Tryz.func167 rfl rfl (by kernel_rfl) (Nat.le_of_ble_eq_true rfl) (.bool _) fun h nx hnx => ?_
  show goC ctx _ _ (.fin (RetP _ _ _ _ _))
  have hc := c_ContainsFunc_Timer (p := p) (q := fun x => !q x) (xs := xs) (fv := .fn 274 [.vptr [fv]]) fun x hx => c_allf_Timer (hq x hx)
  cases hf
  all_goals simp
  · refine call_pcB (hc) (by first | exact .bool _ | exact .int _ _ | exact .str _) (by repeat' first | exact Bors.nil | refine Bors.cons ?_ ?_ | exact Bor.same _ | refine Bor.fn1 ?_ | refine Bor.bnd1 ?_ | refine Bor.agg1 ?_ | refine Bor.ptr0 (by first | (simp; done) | (simp; rfl) | assumption | (simp [*]; done)) ?_ | refine Bor.ref0 (by first | (simp; done) | (simp; rfl) | (simp [iv, bv]; done)) (by simp) (by simp)) ?_
    simp [resultsA, resA, List.all_eq_not_any_not]
  · refine call_pcB (hc) (by first | exact .bool _ | exact .int _ _ | exact .str _) (by repeat' first | exact Bors.nil | refine Bors.cons ?_ ?_ | exact Bor.same _ | refine Bor.fn1 ?_ | refine Bor.bnd1 ?_ | refine Bor.agg1 ?_ | refine Bor.ptr0 (by first | (simp; done) | (simp; rfl) | assumption | (simp [*]; done)) ?_ | refine Bor.ref0 (by first | (simp; done) | (simp; rfl) | (simp [iv, bv]; done)) (by simp) (by simp)) ?_
    simp [resultsA, resA, List.all_eq_not_any_not]

-- impl.size[impl.After]
theorem c_size_After {p : Bool} {xs : List Afr} : PC ctx.P 277 [.view p 5 (xs.map afrC)] (.int .i64 xs.length) := by
  refine PC.of okC Tryz.func277 rfl rfl (by kernel_rfl) (Nat.le_of_ble_eq_true rfl) (.int _ _) fun h nx hnx => ?_
  show goC ctx _ _ (.fin (RetP _ _ _ _ _))
  try simp [-List.map_take, -List.map_drop, -List.map_tail, run_guard, run_guardD, resultsA, resA, Nat.add_assoc]
  repeat'
    first
    | done
    | ((first
        | ((with_reducible show lenS _ _ _ _ _ _); refine lenS_slice rfl fun _ => ?_)) <;> simp [-List.map_take, -List.map_drop, -List.map_tail, run_guard, run_guardD, resultsA, resA, Nat.add_assoc])


-- slices.IndexFunc[[]impl.After,impl.After]
theorem c_IndexFunc_After {p : Bool} {xs : List Afr} {q : Afr → Bool} {fv : AV} (hq : ∀ x ∈ xs, FV ctx.P fv [.agg (afrC x)] (.bool (q x))) :
    PC ctx.P 305 [.view p 5 (xs.map afrC), fv] (.int .i64 (idxI q xs 0)) := by
  refine PC.lim (n := xs.length) (x := .view p 5 (xs.map afrC)) (by simp) (.here (by simp)) ⟨_, Tryz.func305, by kernel_rfl, by kernel_rfl⟩ fun hlim => ?_
  refine PC.of okC Tryz.func305 rfl rfl (by kernel_rfl) (Nat.le_of_ble_eq_true rfl) (.int _ _) fun h nx hnx => ?_
  show goC ctx _ _ (.fin (RetP _ _ _ _ _))
  try simp [-List.map_take, -List.map_drop, -List.map_tail, run_guard, run_guardD, resultsA, resA, Nat.add_assoc]
  repeat'
    first
    | done
    | ((first
        | ((with_reducible show lenS _ _ _ _ _ _); refine lenS_slice rfl fun _ => ?_)
        | ((with_reducible show iaddrS _ _ _ _ _ _ _); refine iaddr_map rfl (by first | omega | (simp; done) | (simp; omega) | (simp [inR, isIn] at *; done) | (simp [inR, isIn] at *; omega)) (by first | omega | (simp; done) | (simp; omega) | (simp [inR, isIn] at *; done) | (simp [inR, isIn] at *; omega)) ?_)) <;> simp [-List.map_take, -List.map_drop, -List.map_tail, run_guard, run_guardD, resultsA, resA, Nat.add_assoc])
    | ((first | (with_reducible refine condS_split ?_ ?_)) <;> intro qb <;> (have qp := qb; try simp only [psq] at qp) <;> simp [-List.map_take, -List.map_drop, -List.map_tail, run_guard, run_guardD, resultsA, resA, Nat.add_assoc, qb])
  refine go_upP [4, 5, 8, 9, 10, 11, 12, 13, 14, 15, 16, 17, 18] (xs.length) (fun (i : Nat) a => [(8, .int .i64 i)]) (fun i_ a_ h_ _ => (fun i (_ : Unit) _ => idxI q (xs.drop i) i = idxI q xs 0) i_ a_ h_) (()) (by simp) ?_ keep_rfl (Nat.le_refl _) ?_
  · simp
  · intro i a tm h' n' hle hJ hE hn' next hnx
    try dsimp only at hJ
    have hK : KeepB nx h' h := KeepB.sub hE (by repeat' first | exact hE2 | exact hK2 | exact hE | exact hK | exact keep_rfl | refine keep_upd_of (by omega) ?_ | refine KeepB.sub hE2 ?_ (by omega)) (by omega)
    simp [-List.map_take, -List.map_drop, -List.map_tail]
    try simp [-List.map_take, -List.map_drop, -List.map_tail, run_guard, run_guardD, resultsA, resA, Nat.add_assoc, afrC]
    repeat'
      first
      | done
      | ((first
          | ((with_reducible show lenS _ _ _ _ _ _); refine lenS_slice rfl fun _ => ?_)
          | ((with_reducible show iaddrS _ _ _ _ _ _ _); refine iaddr_map rfl (by first | omega | (simp; done) | (simp; omega) | (simp [inR, isIn] at *; done) | (simp [inR, isIn] at *; omega)) (by first | omega | (simp; done) | (simp; omega) | (simp [inR, isIn] at *; done) | (simp [inR, isIn] at *; omega)) ?_)
          | (refine call_fv (hq _ (gt_mem (by omega) (by omega))) ?_)) <;> simp [-List.map_take, -List.map_drop, -List.map_tail, run_guard, run_guardD, resultsA, resA, Nat.add_assoc, afrC])
      | ((first | (with_reducible refine condS_split ?_ ?_)) <;> intro qb <;> (have qp := qb; try simp only [psq] at qp) <;> simp [-List.map_take, -List.map_drop, -List.map_tail, run_guard, run_guardD, resultsA, resA, Nat.add_assoc, afrC, qb])
    all_goals
      first
      | (have hlt : i < xs.length := (by first | omega | (simp at *; omega))
         rw [drop_gt hlt] at hJ
         first
         | (refine hnx.go (()) ?_ ?_ ?_ ?_ ?_ ?_; omega; (simp [wrap_succ hlt hlim]); (simp); exact (by repeat' first | exact hE2 | exact hK2 | exact hE | exact hK | exact keep_rfl | refine keep_upd_of (by omega) ?_ | refine KeepB.sub hE2 ?_ (by omega)); (first | omega | (simp; omega)); (try dsimp only); clear hnx; first | ((try simp only [List.drop_length, Int.toNat_natCast, idxI] at hJ ⊢); grind) | (simp_all [idxI]; done) | (simp_all; omega))
         | (refine ⟨?_, (by repeat' first | exact hE2 | exact hK2 | exact hE | exact hK | exact keep_rfl | refine keep_upd_of (by omega) ?_ | refine KeepB.sub hE2 ?_ (by omega))⟩; clear hnx; first | ((try simp only [List.drop_length, Int.toNat_natCast, idxI] at hJ ⊢); grind) | (simp_all [idxI]; done) | (simp_all; omega)))
      | (obtain rfl : i = xs.length := (by first | omega | (simp at *; omega))
         refine ⟨?_, (by repeat' first | exact hE2 | exact hK2 | exact hE | exact hK | exact keep_rfl | refine keep_upd_of (by omega) ?_ | refine KeepB.sub hE2 ?_ (by omega))⟩; clear hnx; first | ((try simp only [List.drop_length, Int.toNat_natCast, idxI] at hJ ⊢); grind) | (simp_all [idxI]; done) | (simp_all; omega))

-- slices.ContainsFunc[[]impl.After,impl.After]
theorem c_ContainsFunc_After {p : Bool} {xs : List Afr} {q : Afr → Bool} {fv : AV} (hq : ∀ x ∈ xs, FV ctx.P fv [.agg (afrC x)] (.bool (q x))) :
    PC ctx.P 205 [.view p 5 (xs.map afrC), fv] (.bool (xs.any q)) := by
  refine PC.of okC Tryz.func205 rfl rfl (by kernel_rfl) (Nat.le_of_ble_eq_true rfl) (.bool _) fun h nx hnx => ?_
  show goC ctx _ _ (.fin (RetP _ _ _ _ _))
  try simp [-List.map_take, -List.map_drop, -List.map_tail, run_guard, run_guardD, resultsA, resA, Nat.add_assoc, idxI_any q xs 0 (Int.le_refl 0)]
  repeat'
    first
    | done
    | ((first
        | ((with_reducible show doCall _ _ _ 305 _ _); refine call_pc (c_IndexFunc_After hq) ?_)) <;> simp [-List.map_take, -List.map_drop, -List.map_tail, run_guard, run_guardD, resultsA, resA, Nat.add_assoc, idxI_any q xs 0 (Int.le_refl 0)])

-- impl.all[impl.After]$1
theorem c_allf_After {x : Afr} {q : Afr → Bool} {fv : AV} (hq : FV ctx.P fv [.agg (afrC x)] (.bool (q x))) : PC ctx.P 282 [.agg (afrC x), .vptr [fv]] (.bool (!q x)) := by
  refine PC.of okC Tryz.func282 rfl rfl (by kernel_rfl) (Nat.le_of_ble_eq_true rfl) (.bool _) fun h nx hnx => ?_
  show goC ctx _ _ (.fin (RetP _ _ _ _ _))
  try simp [-List.map_take, -List.map_drop, -List.map_tail, run_guard, run_guardD, resultsA, resA, Nat.add_assoc]
  repeat'
    first
    | done
    | ((first
        | (refine call_fv (hq) ?_)) <;> simp [-List.map_take, -List.map_drop, -List.map_tail, run_guard, run_guardD, resultsA, resA, Nat.add_assoc])
-- impl.all[impl.After]
theorem c_all_After {p : Bool} {xs : List Afr} {q : Afr → Bool} {fv : AV} (hf : IsF fv) (hq : ∀ x ∈ xs, FV ctx.P fv [.agg (afrC x)] (.bool (q x))) :
    PC ctx.P 170 [.view p 5 (xs.map afrC), fv] (.bool (xs.all q)) := by
  refine PC.of okC Tryz.func170 rfl rfl (by kernel_rfl) (Nat.le_of_ble_eq_true rfl) (.bool _) fun h nx hnx => ?_
  show goC ctx _ _ (.fin (RetP _ _ _ _ _))
  have hc := c_ContainsFunc_After (p := p) (q := fun x => !q x) (xs := xs) (fv := .fn 282 [.vptr [fv]]) fun x hx => c_allf_After (hq x hx)
  cases hf
  all_goals simp
  · refine call_pcB (hc) (by first | exact .bool _ | exact .int _ _ | exact .str _) (by repeat' first | exact Bors.nil | refine Bors.cons ?_ ?_ | exact Bor.same _ | refine Bor.fn1 ?_ | refine Bor.bnd1 ?_ | refine Bor.agg1 ?_ | refine Bor.ptr0 (by first | (simp; done) | (simp; rfl) | assumption | (simp [*]; done)) ?_ | refine Bor.ref0 (by first | (simp; done) | (simp; rfl) | (simp [iv, bv]; done)) (by simp) (by simp)) ?_
    simp [resultsA, resA, List.all_eq_not_any_not]
  · refine call_pcB (hc) (by first | exact .bool _ | exact .int _ _ | exact .str _) (by repeat' first | exact Bors.nil | refine Bors.cons ?_ ?_ | exact Bor.same _ | refine Bor.fn1 ?_ | refine Bor.bnd1 ?_ | refine Bor.agg1 ?_ | refine Bor.ptr0 (by first | (simp; done) | (simp; rfl) | assumption | (simp [*]; done)) ?_ | refine Bor.ref0 (by first | (simp; done) | (simp; rfl) | (simp [iv, bv]; done)) (by simp) (by simp)) ?_
    simp [resultsA, resA, List.all_eq_not_any_not]

-- impl.size[impl.Task]
theorem c_size_Task {p : Bool} {xs : List Tsk} : PC ctx.P 347 [.view p 9 (xs.map tskC)] (.int .i64 xs.length) := by
  refine PC.of okC Tryz.func347 rfl rfl (by kernel_rfl) (Nat.le_of_ble_eq_true rfl) (.int _ _) fun h nx hnx => ?_
  show goC ctx _ _ (.fin (RetP _ _ _ _ _))
  try simp [-List.map_take, -List.map_drop, -List.map_tail, run_guard, run_guardD, resultsA, resA, Nat.add_assoc]
  repeat'
    first
    | done
    | ((first
        | ((with_reducible show lenS _ _ _ _ _ _); refine lenS_slice rfl fun _ => ?_)) <;> simp [-List.map_take, -List.map_drop, -List.map_tail, run_guard, run_guardD, resultsA, resA, Nat.add_assoc])

-- impl.isIn[impl.Task]
theorem c_isIn_Task {p : Bool} {n : Int} {xs : List Tsk} : PC ctx.P 275 [.int .i64 n, .view p 9 (xs.map tskC)] (.bool (isIn n xs)) := by
  refine PC.lim (n := xs.length) (x := .view p 9 (xs.map tskC)) (by simp) (.here (by simp)) ⟨_, Tryz.func275, by kernel_rfl, by kernel_rfl⟩ fun hlim => ?_
  refine PC.of okC Tryz.func275 rfl rfl (by kernel_rfl) (Nat.le_of_ble_eq_true rfl) (.bool _) fun h nx hnx => ?_
  show goC ctx _ _ (.fin (RetP _ _ _ _ _))
  try simp [-List.map_take, -List.map_drop, -List.map_tail, run_guard, run_guardD, resultsA, resA, Nat.add_assoc, wrap_pred hlim, isIn]
  repeat'
    first
    | done
    | ((first
        | ((with_reducible show doCall _ _ _ 347 _ _); refine call_pc (c_size_Task) ?_)
        | ((with_reducible show doCall _ _ _ 165 _ _); refine call_pc (c_within) ?_)) <;> simp [-List.map_take, -List.map_drop, -List.map_tail, run_guard, run_guardD, resultsA, resA, Nat.add_assoc, wrap_pred hlim, isIn])

-- slices.IndexFunc[[]impl.Task,impl.Task]
theorem c_IndexFunc_Task {p : Bool} {xs : List Tsk} {q : Tsk → Bool} {fv : AV} (hq : ∀ x ∈ xs, FV ctx.P fv [.agg (tskC x)] (.bool (q x))) :
    PC ctx.P 352 [.view p 9 (xs.map tskC), fv] (.int .i64 (idxI q xs 0)) := by
  refine PC.lim (n := xs.length) (x := .view p 9 (xs.map tskC)) (by simp) (.here (by simp)) ⟨_, Tryz.func352, by kernel_rfl, by kernel_rfl⟩ fun hlim => ?_
  refine PC.of okC Tryz.func352 rfl rfl (by kernel_rfl) (Nat.le_of_ble_eq_true rfl) (.int _ _) fun h nx hnx => ?_
  show goC ctx _ _ (.fin (RetP _ _ _ _ _))
  try simp [-List.map_take, -List.map_drop, -List.map_tail, run_guard, run_guardD, resultsA, resA, Nat.add_assoc]
  repeat'
    first
    | done
    | ((first
        | ((with_reducible show lenS _ _ _ _ _ _); refine lenS_slice rfl fun _ => ?_)
        | ((with_reducible show iaddrS _ _ _ _ _ _ _); refine iaddr_map rfl (by first | omega | (simp; done) | (simp; omega) | (simp [inR, isIn] at *; done) | (simp [inR, isIn] at *; omega)) (by first | omega | (simp; done) | (simp; omega) | (simp [inR, isIn] at *; done) | (simp [inR, isIn] at *; omega)) ?_)) <;> simp [-List.map_take, -List.map_drop, -List.map_tail, run_guard, run_guardD, resultsA, resA, Nat.add_assoc])
    | ((first | (with_reducible refine condS_split ?_ ?_)) <;> intro qb <;> (have qp := qb; try simp only [psq] at qp) <;> simp [-List.map_take, -List.map_drop, -List.map_tail, run_guard, run_guardD, resultsA, resA, Nat.add_assoc, qb])
  refine go_upP [4, 5, 8, 9, 10, 11, 12, 13, 14, 15, 16, 17, 18] (xs.length) (fun (i : Nat) a => [(8, .int .i64 i)]) (fun i_ a_ h_ _ => (fun i (_ : Unit) _ => idxI q (xs.drop i) i = idxI q xs 0) i_ a_ h_) (()) (by simp) ?_ keep_rfl (Nat.le_refl _) ?_
  · simp
  · intro i a tm h' n' hle hJ hE hn' next hnx
    try dsimp only at hJ
    have hK : KeepB nx h' h := KeepB.sub hE (by repeat' first | exact hE2 | exact hK2 | exact hE | exact hK | exact keep_rfl | refine keep_upd_of (by omega) ?_ | refine KeepB.sub hE2 ?_ (by omega)) (by omega)
    simp [-List.map_take, -List.map_drop, -List.map_tail]
    try simp [-List.map_take, -List.map_drop, -List.map_tail, run_guard, run_guardD, resultsA, resA, Nat.add_assoc, tskC]
    repeat'
      first
      | done
      | ((first
          | ((with_reducible show lenS _ _ _ _ _ _); refine lenS_slice rfl fun _ => ?_)
          | ((with_reducible show iaddrS _ _ _ _ _ _ _); refine iaddr_map rfl (by first | omega | (simp; done) | (simp; omega) | (simp [inR, isIn] at *; done) | (simp [inR, isIn] at *; omega)) (by first | omega | (simp; done) | (simp; omega) | (simp [inR, isIn] at *; done) | (simp [inR, isIn] at *; omega)) ?_)
          | (refine call_fv (hq _ (gt_mem (by omega) (by omega))) ?_)) <;> simp [-List.map_take, -List.map_drop, -List.map_tail, run_guard, run_guardD, resultsA, resA, Nat.add_assoc, tskC])
      | ((first | (with_reducible refine condS_split ?_ ?_)) <;> intro qb <;> (have qp := qb; try simp only [psq] at qp) <;> simp [-List.map_take, -List.map_drop, -List.map_tail, run_guard, run_guardD, resultsA, resA, Nat.add_assoc, tskC, qb])
    all_goals
      first
      | (have hlt : i < xs.length := (by first | omega | (simp at *; omega))
         rw [drop_gt hlt] at hJ
         first
         | (refine hnx.go (()) ?_ ?_ ?_ ?_ ?_ ?_; omega; (simp [wrap_succ hlt hlim]); (simp); exact (by repeat' first | exact hE2 | exact hK2 | exact hE | exact hK | exact keep_rfl | refine keep_upd_of (by omega) ?_ | refine KeepB.sub hE2 ?_ (by omega)); (first | omega | (simp; omega)); (try dsimp only); clear hnx; first | ((try simp only [List.drop_length, Int.toNat_natCast, idxI] at hJ ⊢); grind) | (simp_all [idxI]; done) | (simp_all; omega))
         | (refine ⟨?_, (by repeat' first | exact hE2 | exact hK2 | exact hE | exact hK | exact keep_rfl | refine keep_upd_of (by omega) ?_ | refine KeepB.sub hE2 ?_ (by omega))⟩; clear hnx; first | ((try simp only [List.drop_length, Int.toNat_natCast, idxI] at hJ ⊢); grind) | (simp_all [idxI]; done) | (simp_all; omega)))
      | (obtain rfl : i = xs.length := (by first | omega | (simp at *; omega))
         refine ⟨?_, (by repeat' first | exact hE2 | exact hK2 | exact hE | exact hK | exact keep_rfl | refine keep_upd_of (by omega) ?_ | refine KeepB.sub hE2 ?_ (by omega))⟩; clear hnx; first | ((try simp only [List.drop_length, Int.toNat_natCast, idxI] at hJ ⊢); grind) | (simp_all [idxI]; done) | (simp_all; omega))

-- slices.ContainsFunc[[]impl.Task,impl.Task]
theorem c_ContainsFunc_Task {p : Bool} {xs : List Tsk} {q : Tsk → Bool} {fv : AV} (hq : ∀ x ∈ xs, FV ctx.P fv [.agg (tskC x)] (.bool (q x))) :
    PC ctx.P 283 [.view p 9 (xs.map tskC), fv] (.bool (xs.any q)) := by
  refine PC.of okC Tryz.func283 rfl rfl (by kernel_rfl) (Nat.le_of_ble_eq_true rfl) (.bool _) fun h nx hnx => ?_
  show goC ctx _ _ (.fin (RetP _ _ _ _ _))
  try simp [-List.map_take, -List.map_drop, -List.map_tail, run_guard, run_guardD, resultsA, resA, Nat.add_assoc, idxI_any q xs 0 (Int.le_refl 0)]
  repeat'
    first
    | done
    | ((first
        | ((with_reducible show doCall _ _ _ 352 _ _); refine call_pc (c_IndexFunc_Task hq) ?_)) <;> simp [-List.map_take, -List.map_drop, -List.map_tail, run_guard, run_guardD, resultsA, resA, Nat.add_assoc, idxI_any q xs 0 (Int.le_refl 0)])

-- impl.all[impl.Task]$1
theorem c_allf_Task {x : Tsk} {q : Tsk → Bool} {fv : AV} (hq : FV ctx.P fv [.agg (tskC x)] (.bool (q x))) : PC ctx.P 286 [.agg (tskC x), .vptr [fv]] (.bool (!q x)) := by
  refine PC.of okC Tryz.func286 rfl rfl (by kernel_rfl) (Nat.le_of_ble_eq_true rfl) (.bool _) fun h nx hnx => ?_
  show goC ctx _ _ (.fin (RetP _ _ _ _ _))
  try simp [-List.map_take, -List.map_drop, -List.map_tail, run_guard, run_guardD, resultsA, resA, Nat.add_assoc]
  repeat'
    first
    | done
    | ((first
        | (refine call_fv (hq) ?_)) <;> simp [-List.map_take, -List.map_drop, -List.map_tail, run_guard, run_guardD, resultsA, resA, Nat.add_assoc])
-- impl.all[impl.Task]
theorem c_all_Task {p : Bool} {xs : List Tsk} {q : Tsk → Bool} {fv : AV} (hf : IsF fv) (hq : ∀ x ∈ xs, FV ctx.P fv [.agg (tskC x)] (.bool (q x))) :
    PC ctx.P 174 [.view p 9 (xs.map tskC), fv] (.bool (xs.all q)) := by
  refine PC.of okC Tryz.func174 rfl rfl (by kernel_rfl) (Nat.le_of_ble_eq_true rfl) (.bool _) fun h nx hnx => ?_
  show goC ctx _ _ (.fin (RetP _ _ _ _ _))
  have hc := c_ContainsFunc_Task (p := p) (q := fun x => !q x) (xs := xs) (fv := .fn 286 [.vptr [fv]]) fun x hx => c_allf_Task (hq x hx)
  cases hf
  all_goals simp
  · refine call_pcB (hc) (by first | exact .bool _ | exact .int _ _ | exact .str _) (by repeat' first | exact Bors.nil | refine Bors.cons ?_ ?_ | exact Bor.same _ | refine Bor.fn1 ?_ | refine Bor.bnd1 ?_ | refine Bor.agg1 ?_ | refine Bor.ptr0 (by first | (simp; done) | (simp; rfl) | assumption | (simp [*]; done)) ?_ | refine Bor.ref0 (by first | (simp; done) | (simp; rfl) | (simp [iv, bv]; done)) (by simp) (by simp)) ?_
    simp [resultsA, resA, List.all_eq_not_any_not]
  · refine call_pcB (hc) (by first | exact .bool _ | exact .int _ _ | exact .str _) (by repeat' first | exact Bors.nil | refine Bors.cons ?_ ?_ | exact Bor.same _ | refine Bor.fn1 ?_ | refine Bor.bnd1 ?_ | refine Bor.agg1 ?_ | refine Bor.ptr0 (by first | (simp; done) | (simp; rfl) | assumption | (simp [*]; done)) ?_ | refine Bor.ref0 (by first | (simp; done) | (simp; rfl) | (simp [iv, bv]; done)) (by simp) (by simp)) ?_
    simp [resultsA, resA, List.all_eq_not_any_not]

-- impl.size[impl.Group]
theorem c_size_Group {p : Bool} {pg : Bool} {xs : List Grp} : PC ctx.P 288 [.view p 5 (xs.map (grpV pg))] (.int .i64 xs.length) := by
  refine PC.of okC Tryz.func288 rfl rfl (by kernel_rfl) (Nat.le_of_ble_eq_true rfl) (.int _ _) fun h nx hnx => ?_
  show goC ctx _ _ (.fin (RetP _ _ _ _ _))
  try simp [-List.map_take, -List.map_drop, -List.map_tail, run_guard, run_guardD, resultsA, resA, Nat.add_assoc]
  repeat'
    first
    | done
    | ((first
        | ((with_reducible show lenS _ _ _ _ _ _); refine lenS_slice rfl fun _ => ?_)) <;> simp [-List.map_take, -List.map_drop, -List.map_tail, run_guard, run_guardD, resultsA, resA, Nat.add_assoc])

-- impl.isIn[impl.Group]
theorem c_isIn_Group {p : Bool} {pg : Bool} {n : Int} {xs : List Grp} : PC ctx.P 289 [.int .i64 n, .view p 5 (xs.map (grpV pg))] (.bool (isIn n xs)) := by
  refine PC.lim (n := xs.length) (x := .view p 5 (xs.map (grpV pg))) (by simp) (.here (by simp)) ⟨_, Tryz.func289, by kernel_rfl, by kernel_rfl⟩ fun hlim => ?_
  refine PC.of okC Tryz.func289 rfl rfl (by kernel_rfl) (Nat.le_of_ble_eq_true rfl) (.bool _) fun h nx hnx => ?_
  show goC ctx _ _ (.fin (RetP _ _ _ _ _))
  try simp [-List.map_take, -List.map_drop, -List.map_tail, run_guard, run_guardD, resultsA, resA, Nat.add_assoc, wrap_pred hlim, isIn]
  repeat'
    first
    | done
    | ((first
        | ((with_reducible show doCall _ _ _ 288 _ _); refine call_pc (c_size_Group) ?_)
        | ((with_reducible show doCall _ _ _ 165 _ _); refine call_pc (c_within) ?_)) <;> simp [-List.map_take, -List.map_drop, -List.map_tail, run_guard, run_guardD, resultsA, resA, Nat.add_assoc, wrap_pred hlim, isIn])

-- slices.IndexFunc[[]impl.Group,impl.Group]
theorem c_IndexFunc_Group {p : Bool} {pg : Bool} {xs : List Grp} {q : Grp → Bool} {fv : AV} (hq : ∀ x ∈ xs, FV ctx.P fv [.agg (grpV pg x)] (.bool (q x))) :
    PC ctx.P 354 [.view p 5 (xs.map (grpV pg)), fv] (.int .i64 (idxI q xs 0)) := by
  refine PC.lim (n := xs.length) (x := .view p 5 (xs.map (grpV pg))) (by simp) (.here (by simp)) ⟨_, Tryz.func354, by kernel_rfl, by kernel_rfl⟩ fun hlim => ?_
  refine PC.of okC Tryz.func354 rfl rfl (by kernel_rfl) (Nat.le_of_ble_eq_true rfl) (.int _ _) fun h nx hnx => ?_
  show goC ctx _ _ (.fin (RetP _ _ _ _ _))
  try simp [-List.map_take, -List.map_drop, -List.map_tail, run_guard, run_guardD, resultsA, resA, Nat.add_assoc]
  repeat'
    first
    | done
    | ((first
        | ((with_reducible show lenS _ _ _ _ _ _); refine lenS_slice rfl fun _ => ?_)
        | ((with_reducible show iaddrS _ _ _ _ _ _ _); refine iaddr_map rfl (by first | omega | (simp; done) | (simp; omega) | (simp [inR, isIn] at *; done) | (simp [inR, isIn] at *; omega)) (by first | omega | (simp; done) | (simp; omega) | (simp [inR, isIn] at *; done) | (simp [inR, isIn] at *; omega)) ?_)) <;> simp [-List.map_take, -List.map_drop, -List.map_tail, run_guard, run_guardD, resultsA, resA, Nat.add_assoc])
    | ((first | (with_reducible refine condS_split ?_ ?_)) <;> intro qb <;> (have qp := qb; try simp only [psq] at qp) <;> simp [-List.map_take, -List.map_drop, -List.map_tail, run_guard, run_guardD, resultsA, resA, Nat.add_assoc, qb])
  refine go_upP [4, 5, 8, 9, 10, 11, 12, 13, 14, 15, 16, 17, 18] (xs.length) (fun (i : Nat) a => [(8, .int .i64 i)]) (fun i_ a_ h_ _ => (fun i (_ : Unit) _ => idxI q (xs.drop i) i = idxI q xs 0) i_ a_ h_) (()) (by simp) ?_ keep_rfl (Nat.le_refl _) ?_
  · simp
  · intro i a tm h' n' hle hJ hE hn' next hnx
    try dsimp only at hJ
    have hK : KeepB nx h' h := KeepB.sub hE (by repeat' first | exact hE2 | exact hK2 | exact hE | exact hK | exact keep_rfl | refine keep_upd_of (by omega) ?_ | refine KeepB.sub hE2 ?_ (by omega)) (by omega)
    simp [-List.map_take, -List.map_drop, -List.map_tail]
    try simp [-List.map_take, -List.map_drop, -List.map_tail, run_guard, run_guardD, resultsA, resA, Nat.add_assoc, grpV]
    repeat'
      first
      | done
      | ((first
          | ((with_reducible show lenS _ _ _ _ _ _); refine lenS_slice rfl fun _ => ?_)
          | ((with_reducible show iaddrS _ _ _ _ _ _ _); refine iaddr_map rfl (by first | omega | (simp; done) | (simp; omega) | (simp [inR, isIn] at *; done) | (simp [inR, isIn] at *; omega)) (by first | omega | (simp; done) | (simp; omega) | (simp [inR, isIn] at *; done) | (simp [inR, isIn] at *; omega)) ?_)
          | (refine call_fv (hq _ (gt_mem (by omega) (by omega))) ?_)) <;> simp [-List.map_take, -List.map_drop, -List.map_tail, run_guard, run_guardD, resultsA, resA, Nat.add_assoc, grpV])
      | ((first | (with_reducible refine condS_split ?_ ?_)) <;> intro qb <;> (have qp := qb; try simp only [psq] at qp) <;> simp [-List.map_take, -List.map_drop, -List.map_tail, run_guard, run_guardD, resultsA, resA, Nat.add_assoc, grpV, qb])
    all_goals
      first
      | (have hlt : i < xs.length := (by first | omega | (simp at *; omega))
         rw [drop_gt hlt] at hJ
         first
         | (refine hnx.go (()) ?_ ?_ ?_ ?_ ?_ ?_; omega; (simp [wrap_succ hlt hlim]); (simp); exact (by repeat' first | exact hE2 | exact hK2 | exact hE | exact hK | exact keep_rfl | refine keep_upd_of (by omega) ?_ | refine KeepB.sub hE2 ?_ (by omega)); (first | omega | (simp; omega)); (try dsimp only); clear hnx; first | ((try simp only [List.drop_length, Int.toNat_natCast, idxI] at hJ ⊢); grind) | (simp_all [idxI]; done) | (simp_all; omega))
         | (refine ⟨?_, (by repeat' first | exact hE2 | exact hK2 | exact hE | exact hK | exact keep_rfl | refine keep_upd_of (by omega) ?_ | refine KeepB.sub hE2 ?_ (by omega))⟩; clear hnx; first | ((try simp only [List.drop_length, Int.toNat_natCast, idxI] at hJ ⊢); grind) | (simp_all [idxI]; done) | (simp_all; omega)))
      | (obtain rfl : i = xs.length := (by first | omega | (simp at *; omega))
         refine ⟨?_, (by repeat' first | exact hE2 | exact hK2 | exact hE | exact hK | exact keep_rfl | refine keep_upd_of (by omega) ?_ | refine KeepB.sub hE2 ?_ (by omega))⟩; clear hnx; first | ((try simp only [List.drop_length, Int.toNat_natCast, idxI] at hJ ⊢); grind) | (simp_all [idxI]; done) | (simp_all; omega))

-- slices.ContainsFunc[[]impl.Group,impl.Group]
theorem c_ContainsFunc_Group {p : Bool} {pg : Bool} {xs : List Grp} {q : Grp → Bool} {fv : AV} (hq : ∀ x ∈ xs, FV ctx.P fv [.agg (grpV pg x)] (.bool (q x))) :
    PC ctx.P 290 [.view p 5 (xs.map (grpV pg)), fv] (.bool (xs.any q)) := by
  refine PC.of okC Tryz.func290 rfl rfl (by kernel_rfl) (Nat.le_of_ble_eq_true rfl) (.bool _) fun h nx hnx => ?_
  show goC ctx _ _ (.fin (RetP _ _ _ _ _))
  try simp [-List.map_take, -List.map_drop, -List.map_tail, run_guard, run_guardD, resultsA, resA, Nat.add_assoc, idxI_any q xs 0 (Int.le_refl 0)]
  repeat'
    first
    | done
    | ((first
        | ((with_reducible show doCall _ _ _ 354 _ _); refine call_pc (c_IndexFunc_Group hq) ?_)) <;> simp [-List.map_take, -List.map_drop, -List.map_tail, run_guard, run_guardD, resultsA, resA, Nat.add_assoc, idxI_any q xs 0 (Int.le_refl 0)])

-- impl.all[impl.Group]$1
theorem c_allf_Group {pg : Bool} {x : Grp} {q : Grp → Bool} {fv : AV} (hq : FV ctx.P fv [.agg (grpV pg x)] (.bool (q x))) : PC ctx.P 291 [.agg (grpV pg x), .vptr [fv]] (.bool (!q x)) := by
  refine PC.of okC Tryz.func291 rfl rfl (by kernel_rfl) (Nat.le_of_ble_eq_true rfl) (.bool _) fun h nx hnx => ?_
  show goC ctx _ _ (.fin (RetP _ _ _ _ _))
  try simp [-List.map_take, -List.map_drop, -List.map_tail, run_guard, run_guardD, resultsA, resA, Nat.add_assoc]
  repeat'
    first
    | done
    | ((first
        | (refine call_fv (hq) ?_)) <;> simp [-List.map_take, -List.map_drop, -List.map_tail, run_guard, run_guardD, resultsA, resA, Nat.add_assoc])
-- impl.all[impl.Group]
theorem c_all_Group {p : Bool} {pg : Bool} {xs : List Grp} {q : Grp → Bool} {fv : AV} (hf : IsF fv) (hq : ∀ x ∈ xs, FV ctx.P fv [.agg (grpV pg x)] (.bool (q x))) :
    PC ctx.P 176 [.view p 5 (xs.map (grpV pg)), fv] (.bool (xs.all q)) := by
  refine PC.of okC Tryz.func176 rfl rfl (by kernel_rfl) (Nat.le_of_ble_eq_true rfl) (.bool _) fun h nx hnx => ?_
  show goC ctx _ _ (.fin (RetP _ _ _ _ _))
  have hc := c_ContainsFunc_Group (p := p) (q := fun x => !q x) (xs := xs) (fv := .fn 291 [.vptr [fv]]) fun x hx => c_allf_Group (hq x hx)
  cases hf
  all_goals simp
  · refine call_pcB (hc) (by first | exact .bool _ | exact .int _ _ | exact .str _) (by repeat' first | exact Bors.nil | refine Bors.cons ?_ ?_ | exact Bor.same _ | refine Bor.fn1 ?_ | refine Bor.bnd1 ?_ | refine Bor.agg1 ?_ | refine Bor.ptr0 (by first | (simp; done) | (simp; rfl) | assumption | (simp [*]; done)) ?_ | refine Bor.ref0 (by first | (simp; done) | (simp; rfl) | (simp [iv, bv]; done)) (by simp) (by simp)) ?_
    simp [resultsA, resA, List.all_eq_not_any_not]
  · refine call_pcB (hc) (by first | exact .bool _ | exact .int _ _ | exact .str _) (by repeat' first | exact Bors.nil | refine Bors.cons ?_ ?_ | exact Bor.same _ | refine Bor.fn1 ?_ | refine Bor.bnd1 ?_ | refine Bor.agg1 ?_ | refine Bor.ptr0 (by first | (simp; done) | (simp; rfl) | assumption | (simp [*]; done)) ?_ | refine Bor.ref0 (by first | (simp; done) | (simp; rfl) | (simp [iv, bv]; done)) (by simp) (by simp)) ?_
    simp [resultsA, resA, List.all_eq_not_any_not]



-- slices.IndexFunc[[]impl.Sight,impl.Sight]
theorem c_IndexFunc_Sight {p : Bool} {xs : List Sgt} {q : Sgt → Bool} {fv : AV} (hq : ∀ x ∈ xs, FV ctx.P fv [.agg (sgtC x)] (.bool (q x))) :
    PC ctx.P 355 [.view p 4 (xs.map sgtC), fv] (.int .i64 (idxI q xs 0)) := by
  refine PC.lim (n := xs.length) (x := .view p 4 (xs.map sgtC)) (by simp) (.here (by simp)) ⟨_, Tryz.func355, by kernel_rfl, by kernel_rfl⟩ fun hlim => ?_
  refine PC.of okC Tryz.func355 rfl rfl (by kernel_rfl) (Nat.le_of_ble_eq_true rfl) (.int _ _) fun h nx hnx => ?_
  show goC ctx _ _ (.fin (RetP _ _ _ _ _))
  try simp [-List.map_take, -List.map_drop, -List.map_tail, run_guard, run_guardD, resultsA, resA, Nat.add_assoc]
  repeat'
    first
    | done
    | ((first
        | ((with_reducible show lenS _ _ _ _ _ _); refine lenS_slice rfl fun _ => ?_)
        | ((with_reducible show iaddrS _ _ _ _ _ _ _); refine iaddr_map rfl (by first | omega | (simp; done) | (simp; omega) | (simp [inR, isIn] at *; done) | (simp [inR, isIn] at *; omega)) (by first | omega | (simp; done) | (simp; omega) | (simp [inR, isIn] at *; done) | (simp [inR, isIn] at *; omega)) ?_)) <;> simp [-List.map_take, -List.map_drop, -List.map_tail, run_guard, run_guardD, resultsA, resA, Nat.add_assoc])
    | ((first | (with_reducible refine condS_split ?_ ?_)) <;> intro qb <;> (have qp := qb; try simp only [psq] at qp) <;> simp [-List.map_take, -List.map_drop, -List.map_tail, run_guard, run_guardD, resultsA, resA, Nat.add_assoc, qb])
  refine go_upP [4, 5, 8, 9, 10, 11, 12, 13, 14, 15, 16, 17, 18] (xs.length) (fun (i : Nat) a => [(8, .int .i64 i)]) (fun i_ a_ h_ _ => (fun i (_ : Unit) _ => idxI q (xs.drop i) i = idxI q xs 0) i_ a_ h_) (()) (by simp) ?_ keep_rfl (Nat.le_refl _) ?_
  · simp
  · intro i a tm h' n' hle hJ hE hn' next hnx
    try dsimp only at hJ
    have hK : KeepB nx h' h := KeepB.sub hE (by repeat' first | exact hE2 | exact hK2 | exact hE | exact hK | exact keep_rfl | refine keep_upd_of (by omega) ?_ | refine KeepB.sub hE2 ?_ (by omega)) (by omega)
    simp [-List.map_take, -List.map_drop, -List.map_tail]
    try simp [-List.map_take, -List.map_drop, -List.map_tail, run_guard, run_guardD, resultsA, resA, Nat.add_assoc, sgtC]
    repeat'
      first
      | done
      | ((first
          | ((with_reducible show lenS _ _ _ _ _ _); refine lenS_slice rfl fun _ => ?_)
          | ((with_reducible show iaddrS _ _ _ _ _ _ _); refine iaddr_map rfl (by first | omega | (simp; done) | (simp; omega) | (simp [inR, isIn] at *; done) | (simp [inR, isIn] at *; omega)) (by first | omega | (simp; done) | (simp; omega) | (simp [inR, isIn] at *; done) | (simp [inR, isIn] at *; omega)) ?_)
          | (refine call_fv (hq _ (gt_mem (by omega) (by omega))) ?_)) <;> simp [-List.map_take, -List.map_drop, -List.map_tail, run_guard, run_guardD, resultsA, resA, Nat.add_assoc, sgtC])
      | ((first | (with_reducible refine condS_split ?_ ?_)) <;> intro qb <;> (have qp := qb; try simp only [psq] at qp) <;> simp [-List.map_take, -List.map_drop, -List.map_tail, run_guard, run_guardD, resultsA, resA, Nat.add_assoc, sgtC, qb])
    all_goals
      first
      | (have hlt : i < xs.length := (by first | omega | (simp at *; omega))
         rw [drop_gt hlt] at hJ
         first
         | (refine hnx.go (()) ?_ ?_ ?_ ?_ ?_ ?_; omega; (simp [wrap_succ hlt hlim]); (simp); exact (by repeat' first | exact hE2 | exact hK2 | exact hE | exact hK | exact keep_rfl | refine keep_upd_of (by omega) ?_ | refine KeepB.sub hE2 ?_ (by omega)); (first | omega | (simp; omega)); (try dsimp only); clear hnx; first | ((try simp only [List.drop_length, Int.toNat_natCast, idxI] at hJ ⊢); grind) | (simp_all [idxI]; done) | (simp_all; omega))
         | (refine ⟨?_, (by repeat' first | exact hE2 | exact hK2 | exact hE | exact hK | exact keep_rfl | refine keep_upd_of (by omega) ?_ | refine KeepB.sub hE2 ?_ (by omega))⟩; clear hnx; first | ((try simp only [List.drop_length, Int.toNat_natCast, idxI] at hJ ⊢); grind) | (simp_all [idxI]; done) | (simp_all; omega)))
      | (obtain rfl : i = xs.length := (by first | omega | (simp at *; omega))
         refine ⟨?_, (by repeat' first | exact hE2 | exact hK2 | exact hE | exact hK | exact keep_rfl | refine keep_upd_of (by omega) ?_ | refine KeepB.sub hE2 ?_ (by omega))⟩; clear hnx; first | ((try simp only [List.drop_length, Int.toNat_natCast, idxI] at hJ ⊢); grind) | (simp_all [idxI]; done) | (simp_all; omega))

-- slices.ContainsFunc[[]impl.Sight,impl.Sight]
theorem c_ContainsFunc_Sight {p : Bool} {xs : List Sgt} {q : Sgt → Bool} {fv : AV} (hq : ∀ x ∈ xs, FV ctx.P fv [.agg (sgtC x)] (.bool (q x))) :
    PC ctx.P 294 [.view p 4 (xs.map sgtC), fv] (.bool (xs.any q)) := by
  refine PC.of okC Tryz.func294 rfl rfl (by kernel_rfl) (Nat.le_of_ble_eq_true rfl) (.bool _) fun h nx hnx => ?_
  show goC ctx _ _ (.fin (RetP _ _ _ _ _))
  try simp [-List.map_take, -List.map_drop, -List.map_tail, run_guard, run_guardD, resultsA, resA, Nat.add_assoc, idxI_any q xs 0 (Int.le_refl 0)]
  repeat'
    first
    | done
    | ((first
        | ((with_reducible show doCall _ _ _ 355 _ _); refine call_pc (c_IndexFunc_Sight hq) ?_)) <;> simp [-List.map_take, -List.map_drop, -List.map_tail, run_guard, run_guardD, resultsA, resA, Nat.add_assoc, idxI_any q xs 0 (Int.le_refl 0)])

-- impl.all[impl.Sight]$1
theorem c_allf_Sight {x : Sgt} {q : Sgt → Bool} {fv : AV} (hq : FV ctx.P fv [.agg (sgtC x)] (.bool (q x))) : PC ctx.P 295 [.agg (sgtC x), .vptr [fv]] (.bool (!q x)) := by
  refine PC.of okC Tryz.func295 rfl rfl (by kernel_rfl) (Nat.le_of_ble_eq_true rfl) (.bool _) fun h nx hnx => ?_
  show goC ctx _ _ (.fin (RetP _ _ _ _ _))
  try simp [-List.map_take, -List.map_drop, -List.map_tail, run_guard, run_guardD, resultsA, resA, Nat.add_assoc]
  repeat'
    first
    | done
    | ((first
        | (refine call_fv (hq) ?_)) <;> simp [-List.map_take, -List.map_drop, -List.map_tail, run_guard, run_guardD, resultsA, resA, Nat.add_assoc])
-- impl.all[impl.Sight]
theorem c_all_Sight {p : Bool} {xs : List Sgt} {q : Sgt → Bool} {fv : AV} (hf : IsF fv) (hq : ∀ x ∈ xs, FV ctx.P fv [.agg (sgtC x)] (.bool (q x))) :
    PC ctx.P 178 [.view p 4 (xs.map sgtC), fv] (.bool (xs.all q)) := by
  refine PC.of okC Tryz.func178 rfl rfl (by kernel_rfl) (Nat.le_of_ble_eq_true rfl) (.bool _) fun h nx hnx => ?_
  show goC ctx _ _ (.fin (RetP _ _ _ _ _))
  have hc := c_ContainsFunc_Sight (p := p) (q := fun x => !q x) (xs := xs) (fv := .fn 295 [.vptr [fv]]) fun x hx => c_allf_Sight (hq x hx)
  cases hf
  all_goals simp
  · refine call_pcB (hc) (by first | exact .bool _ | exact .int _ _ | exact .str _) (by repeat' first | exact Bors.nil | refine Bors.cons ?_ ?_ | exact Bor.same _ | refine Bor.fn1 ?_ | refine Bor.bnd1 ?_ | refine Bor.agg1 ?_ | refine Bor.ptr0 (by first | (simp; done) | (simp; rfl) | assumption | (simp [*]; done)) ?_ | refine Bor.ref0 (by first | (simp; done) | (simp; rfl) | (simp [iv, bv]; done)) (by simp) (by simp)) ?_
    simp [resultsA, resA, List.all_eq_not_any_not]
  · refine call_pcB (hc) (by first | exact .bool _ | exact .int _ _ | exact .str _) (by repeat' first | exact Bors.nil | refine Bors.cons ?_ ?_ | exact Bor.same _ | refine Bor.fn1 ?_ | refine Bor.bnd1 ?_ | refine Bor.agg1 ?_ | refine Bor.ptr0 (by first | (simp; done) | (simp; rfl) | assumption | (simp [*]; done)) ?_ | refine Bor.ref0 (by first | (simp; done) | (simp; rfl) | (simp [iv, bv]; done)) (by simp) (by simp)) ?_
    simp [resultsA, resA, List.all_eq_not_any_not]

-- impl.size[int64]
theorem c_size_int64 {p : Bool} {xs : List Int} : PC ctx.P 348 [.view p 1 (xs.map iv)] (.int .i64 xs.length) := by
  refine PC.of okC Tryz.func348 rfl rfl (by kernel_rfl) (Nat.le_of_ble_eq_true rfl) (.int _ _) fun h nx hnx => ?_
  show goC ctx _ _ (.fin (RetP _ _ _ _ _))
  try simp [-List.map_take, -List.map_drop, -List.map_tail, run_guard, run_guardD, resultsA, resA, Nat.add_assoc]
  repeat'
    first
    | done
    | ((first
        | ((with_reducible show lenS _ _ _ _ _ _); refine lenS_slice rfl fun _ => ?_)) <;> simp [-List.map_take, -List.map_drop, -List.map_tail, run_guard, run_guardD, resultsA, resA, Nat.add_assoc])

-- impl.isIn[int64]
theorem c_isIn_int64 {p : Bool} {n : Int} {xs : List Int} : PC ctx.P 350 [.int .i64 n, .view p 1 (xs.map iv)] (.bool (isIn n xs)) := by
  refine PC.lim (n := xs.length) (x := .view p 1 (xs.map iv)) (by simp) (.here (by simp)) ⟨_, Tryz.func350, by kernel_rfl, by kernel_rfl⟩ fun hlim => ?_
  refine PC.of okC Tryz.func350 rfl rfl (by kernel_rfl) (Nat.le_of_ble_eq_true rfl) (.bool _) fun h nx hnx => ?_
  show goC ctx _ _ (.fin (RetP _ _ _ _ _))
  try simp [-List.map_take, -List.map_drop, -List.map_tail, run_guard, run_guardD, resultsA, resA, Nat.add_assoc, wrap_pred hlim, isIn]
  repeat'
    first
    | done
    | ((first
        | ((with_reducible show doCall _ _ _ 348 _ _); refine call_pc (c_size_int64) ?_)
        | ((with_reducible show doCall _ _ _ 165 _ _); refine call_pc (c_within) ?_)) <;> simp [-List.map_take, -List.map_drop, -List.map_tail, run_guard, run_guardD, resultsA, resA, Nat.add_assoc, wrap_pred hlim, isIn])

-- slices.IndexFunc[[]int64,int64]
theorem c_IndexFunc_int64 {p : Bool} {xs : List Int} {q : Int → Bool} {fv : AV} (hq : ∀ x ∈ xs, FV ctx.P fv [.int .i64 x] (.bool (q x))) :
    PC ctx.P 343 [.view p 1 (xs.map iv), fv] (.int .i64 (idxI q xs 0)) := by
  refine PC.lim (n := xs.length) (x := .view p 1 (xs.map iv)) (by simp) (.here (by simp)) ⟨_, Tryz.func343, by kernel_rfl, by kernel_rfl⟩ fun hlim => ?_
  refine PC.of okC Tryz.func343 rfl rfl (by kernel_rfl) (Nat.le_of_ble_eq_true rfl) (.int _ _) fun h nx hnx => ?_
  show goC ctx _ _ (.fin (RetP _ _ _ _ _))
  try simp [-List.map_take, -List.map_drop, -List.map_tail, run_guard, run_guardD, resultsA, resA, Nat.add_assoc]
  repeat'
    first
    | done
    | ((first
        | ((with_reducible show lenS _ _ _ _ _ _); refine lenS_slice rfl fun _ => ?_)
        | ((with_reducible show iaddrS _ _ _ _ _ _ _); refine iaddr_map rfl (by first | omega | (simp; done) | (simp; omega) | (simp [inR, isIn] at *; done) | (simp [inR, isIn] at *; omega)) (by first | omega | (simp; done) | (simp; omega) | (simp [inR, isIn] at *; done) | (simp [inR, isIn] at *; omega)) ?_)) <;> simp [-List.map_take, -List.map_drop, -List.map_tail, run_guard, run_guardD, resultsA, resA, Nat.add_assoc])
    | ((first | (with_reducible refine condS_split ?_ ?_)) <;> intro qb <;> (have qp := qb; try simp only [psq] at qp) <;> simp [-List.map_take, -List.map_drop, -List.map_tail, run_guard, run_guardD, resultsA, resA, Nat.add_assoc, qb])
  refine go_upP [4, 5, 8, 9, 10, 11, 12, 13, 14, 15, 16, 17, 18] (xs.length) (fun (i : Nat) a => [(8, .int .i64 i)]) (fun i_ a_ h_ _ => (fun i (_ : Unit) _ => idxI q (xs.drop i) i = idxI q xs 0) i_ a_ h_) (()) (by simp) ?_ keep_rfl (Nat.le_refl _) ?_
  · simp
  · intro i a tm h' n' hle hJ hE hn' next hnx
    try dsimp only at hJ
    have hK : KeepB nx h' h := KeepB.sub hE (by repeat' first | exact hE2 | exact hK2 | exact hE | exact hK | exact keep_rfl | refine keep_upd_of (by omega) ?_ | refine KeepB.sub hE2 ?_ (by omega)) (by omega)
    simp [-List.map_take, -List.map_drop, -List.map_tail]
    try simp [-List.map_take, -List.map_drop, -List.map_tail, run_guard, run_guardD, resultsA, resA, Nat.add_assoc, iv]
    repeat'
      first
      | done
      | ((first
          | ((with_reducible show lenS _ _ _ _ _ _); refine lenS_slice rfl fun _ => ?_)
          | ((with_reducible show iaddrS _ _ _ _ _ _ _); refine iaddr_map rfl (by first | omega | (simp; done) | (simp; omega) | (simp [inR, isIn] at *; done) | (simp [inR, isIn] at *; omega)) (by first | omega | (simp; done) | (simp; omega) | (simp [inR, isIn] at *; done) | (simp [inR, isIn] at *; omega)) ?_)
          | (refine call_fv (hq _ (gt_mem (by omega) (by omega))) ?_)) <;> simp [-List.map_take, -List.map_drop, -List.map_tail, run_guard, run_guardD, resultsA, resA, Nat.add_assoc, iv])
      | ((first | (with_reducible refine condS_split ?_ ?_)) <;> intro qb <;> (have qp := qb; try simp only [psq] at qp) <;> simp [-List.map_take, -List.map_drop, -List.map_tail, run_guard, run_guardD, resultsA, resA, Nat.add_assoc, iv, qb])
    all_goals
      first
      | (have hlt : i < xs.length := (by first | omega | (simp at *; omega))
         rw [drop_gt hlt] at hJ
         first
         | (refine hnx.go (()) ?_ ?_ ?_ ?_ ?_ ?_; omega; (simp [wrap_succ hlt hlim]); (simp); exact (by repeat' first | exact hE2 | exact hK2 | exact hE | exact hK | exact keep_rfl | refine keep_upd_of (by omega) ?_ | refine KeepB.sub hE2 ?_ (by omega)); (first | omega | (simp; omega)); (try dsimp only); clear hnx; first | ((try simp only [List.drop_length, Int.toNat_natCast, idxI] at hJ ⊢); grind) | (simp_all [idxI]; done) | (simp_all; omega))
         | (refine ⟨?_, (by repeat' first | exact hE2 | exact hK2 | exact hE | exact hK | exact keep_rfl | refine keep_upd_of (by omega) ?_ | refine KeepB.sub hE2 ?_ (by omega))⟩; clear hnx; first | ((try simp only [List.drop_length, Int.toNat_natCast, idxI] at hJ ⊢); grind) | (simp_all [idxI]; done) | (simp_all; omega)))
      | (obtain rfl : i = xs.length := (by first | omega | (simp at *; omega))
         refine ⟨?_, (by repeat' first | exact hE2 | exact hK2 | exact hE | exact hK | exact keep_rfl | refine keep_upd_of (by omega) ?_ | refine KeepB.sub hE2 ?_ (by omega))⟩; clear hnx; first | ((try simp only [List.drop_length, Int.toNat_natCast, idxI] at hJ ⊢); grind) | (simp_all [idxI]; done) | (simp_all; omega))

-- slices.ContainsFunc[[]int64,int64]
theorem c_ContainsFunc_int64 {p : Bool} {xs : List Int} {q : Int → Bool} {fv : AV} (hq : ∀ x ∈ xs, FV ctx.P fv [.int .i64 x] (.bool (q x))) :
    PC ctx.P 268 [.view p 1 (xs.map iv), fv] (.bool (xs.any q)) := by
  refine PC.of okC Tryz.func268 rfl rfl (by kernel_rfl) (Nat.le_of_ble_eq_true rfl) (.bool _) fun h nx hnx => ?_
  show goC ctx _ _ (.fin (RetP _ _ _ _ _))
  try simp [-List.map_take, -List.map_drop, -List.map_tail, run_guard, run_guardD, resultsA, resA, Nat.add_assoc, idxI_any q xs 0 (Int.le_refl 0)]
  repeat'
    first
    | done
    | ((first
        | ((with_reducible show doCall _ _ _ 343 _ _); refine call_pc (c_IndexFunc_int64 hq) ?_)) <;> simp [-List.map_take, -List.map_drop, -List.map_tail, run_guard, run_guardD, resultsA, resA, Nat.add_assoc, idxI_any q xs 0 (Int.le_refl 0)])

-- impl.all[int64]$1
theorem c_allf_int64 {x : Int} {q : Int → Bool} {fv : AV} (hq : FV ctx.P fv [.int .i64 x] (.bool (q x))) : PC ctx.P 297 [.int .i64 x, .vptr [fv]] (.bool (!q x)) := by
  refine PC.of okC Tryz.func297 rfl rfl (by kernel_rfl) (Nat.le_of_ble_eq_true rfl) (.bool _) fun h nx hnx => ?_
  show goC ctx _ _ (.fin (RetP _ _ _ _ _))
  try simp [-List.map_take, -List.map_drop, -List.map_tail, run_guard, run_guardD, resultsA, resA, Nat.add_assoc]
  repeat'
    first
    | done
    | ((first
        | (refine call_fv (hq) ?_)) <;> simp [-List.map_take, -List.map_drop, -List.map_tail, run_guard, run_guardD, resultsA, resA, Nat.add_assoc])
-- impl.all[int64]
theorem c_all_int64 {p : Bool} {xs : List Int} {q : Int → Bool} {fv : AV} (hf : IsF fv) (hq : ∀ x ∈ xs, FV ctx.P fv [.int .i64 x] (.bool (q x))) :
    PC ctx.P 180 [.view p 1 (xs.map iv), fv] (.bool (xs.all q)) := by
  refine PC.of okC Tryz.func180 rfl rfl (by kernel_rfl) (Nat.le_of_ble_eq_true rfl) (.bool _) fun h nx hnx => ?_
  show goC ctx _ _ (.fin (RetP _ _ _ _ _))
  have hc := c_ContainsFunc_int64 (p := p) (q := fun x => !q x) (xs := xs) (fv := .fn 297 [.vptr [fv]]) fun x hx => c_allf_int64 (hq x hx)
  cases hf
  all_goals simp
  · refine call_pcB (hc) (by first | exact .bool _ | exact .int _ _ | exact .str _) (by repeat' first | exact Bors.nil | refine Bors.cons ?_ ?_ | exact Bor.same _ | refine Bor.fn1 ?_ | refine Bor.bnd1 ?_ | refine Bor.agg1 ?_ | refine Bor.ptr0 (by first | (simp; done) | (simp; rfl) | assumption | (simp [*]; done)) ?_ | refine Bor.ref0 (by first | (simp; done) | (simp; rfl) | (simp [iv, bv]; done)) (by simp) (by simp)) ?_
    simp [resultsA, resA, List.all_eq_not_any_not]
  · refine call_pcB (hc) (by first | exact .bool _ | exact .int _ _ | exact .str _) (by repeat' first | exact Bors.nil | refine Bors.cons ?_ ?_ | exact Bor.same _ | refine Bor.fn1 ?_ | refine Bor.bnd1 ?_ | refine Bor.agg1 ?_ | refine Bor.ptr0 (by first | (simp; done) | (simp; rfl) | assumption | (simp [*]; done)) ?_ | refine Bor.ref0 (by first | (simp; done) | (simp; rfl) | (simp [iv, bv]; done)) (by simp) (by simp)) ?_
    simp [resultsA, resA, List.all_eq_not_any_not]

-- impl.size[bool]
theorem c_size_bool {p : Bool} {xs : List Bool} : PC ctx.P 373 [.view p 1 (xs.map bv)] (.int .i64 xs.length) := by
  refine PC.of okC Tryz.func373 rfl rfl (by kernel_rfl) (Nat.le_of_ble_eq_true rfl) (.int _ _) fun h nx hnx => ?_
  show goC ctx _ _ (.fin (RetP _ _ _ _ _))
  try simp [-List.map_take, -List.map_drop, -List.map_tail, run_guard, run_guardD, resultsA, resA, Nat.add_assoc]
  repeat'
    first
    | done
    | ((first
        | ((with_reducible show lenS _ _ _ _ _ _); refine lenS_slice rfl fun _ => ?_)) <;> simp [-List.map_take, -List.map_drop, -List.map_tail, run_guard, run_guardD, resultsA, resA, Nat.add_assoc])

-- impl.isIn[bool]
theorem c_isIn_bool {p : Bool} {n : Int} {xs : List Bool} : PC ctx.P 333 [.int .i64 n, .view p 1 (xs.map bv)] (.bool (isIn n xs)) := by
  refine PC.lim (n := xs.length) (x := .view p 1 (xs.map bv)) (by simp) (.here (by simp)) ⟨_, Tryz.func333, by kernel_rfl, by kernel_rfl⟩ fun hlim => ?_
  refine PC.of okC Tryz.func333 rfl rfl (by kernel_rfl) (Nat.le_of_ble_eq_true rfl) (.bool _) fun h nx hnx => ?_
  show goC ctx _ _ (.fin (RetP _ _ _ _ _))
  try simp [-List.map_take, -List.map_drop, -List.map_tail, run_guard, run_guardD, resultsA, resA, Nat.add_assoc, wrap_pred hlim, isIn]
  repeat'
    first
    | done
    | ((first
        | ((with_reducible show doCall _ _ _ 373 _ _); refine call_pc (c_size_bool) ?_)
        | ((with_reducible show doCall _ _ _ 165 _ _); refine call_pc (c_within) ?_)) <;> simp [-List.map_take, -List.map_drop, -List.map_tail, run_guard, run_guardD, resultsA, resA, Nat.add_assoc, wrap_pred hlim, isIn])




-- impl.size[[]impl.Ins]
theorem c_size_Prog {p : Bool} {pg : Bool} {xs : List (List Inn)} : PC ctx.P 353 [.view p 1 (xs.map (prgV pg))] (.int .i64 xs.length) := by
  refine PC.of okC Tryz.func353 rfl rfl (by kernel_rfl) (Nat.le_of_ble_eq_true rfl) (.int _ _) fun h nx hnx => ?_
  show goC ctx _ _ (.fin (RetP _ _ _ _ _))
  try simp [-List.map_take, -List.map_drop, -List.map_tail, run_guard, run_guardD, resultsA, resA, Nat.add_assoc]
  repeat'
    first
    | done
    | ((first
        | ((with_reducible show lenS _ _ _ _ _ _); refine lenS_slice rfl fun _ => ?_)) <;> simp [-List.map_take, -List.map_drop, -List.map_tail, run_guard, run_guardD, resultsA, resA, Nat.add_assoc])

-- impl.isIn[[]impl.Ins]
theorem c_isIn_Prog {p : Bool} {pg : Bool} {n : Int} {xs : List (List Inn)} : PC ctx.P 287 [.int .i64 n, .view p 1 (xs.map (prgV pg))] (.bool (isIn n xs)) := by
  refine PC.lim (n := xs.length) (x := .view p 1 (xs.map (prgV pg))) (by simp) (.here (by simp)) ⟨_, Tryz.func287, by kernel_rfl, by kernel_rfl⟩ fun hlim => ?_
  refine PC.of okC Tryz.func287 rfl rfl (by kernel_rfl) (Nat.le_of_ble_eq_true rfl) (.bool _) fun h nx hnx => ?_
  show goC ctx _ _ (.fin (RetP _ _ _ _ _))
  try simp [-List.map_take, -List.map_drop, -List.map_tail, run_guard, run_guardD, resultsA, resA, Nat.add_assoc, wrap_pred hlim, isIn]
  repeat'
    first
    | done
    | ((first
        | ((with_reducible show doCall _ _ _ 353 _ _); refine call_pc (c_size_Prog) ?_)
        | ((with_reducible show doCall _ _ _ 165 _ _); refine call_pc (c_within) ?_)) <;> simp [-List.map_take, -List.map_drop, -List.map_tail, run_guard, run_guardD, resultsA, resA, Nat.add_assoc, wrap_pred hlim, isIn])

-- slices.IndexFunc[[][]impl.Ins,[]impl.Ins]
theorem c_IndexFunc_Prog {p : Bool} {pg : Bool} {xs : List (List Inn)} {q : (List Inn) → Bool} {fv : AV} (hq : ∀ x ∈ xs, FV ctx.P fv [.view pg 3 (x.map innC)] (.bool (q x))) :
    PC ctx.P 338 [.view p 1 (xs.map (prgV pg)), fv] (.int .i64 (idxI q xs 0)) := by
  refine PC.lim (n := xs.length) (x := .view p 1 (xs.map (prgV pg))) (by simp) (.here (by simp)) ⟨_, Tryz.func338, by kernel_rfl, by kernel_rfl⟩ fun hlim => ?_
  refine PC.of okC Tryz.func338 rfl rfl (by kernel_rfl) (Nat.le_of_ble_eq_true rfl) (.int _ _) fun h nx hnx => ?_
  show goC ctx _ _ (.fin (RetP _ _ _ _ _))
  try simp [-List.map_take, -List.map_drop, -List.map_tail, run_guard, run_guardD, resultsA, resA, Nat.add_assoc]
  repeat'
    first
    | done
    | ((first
        | ((with_reducible show lenS _ _ _ _ _ _); refine lenS_slice rfl fun _ => ?_)
        | ((with_reducible show iaddrS _ _ _ _ _ _ _); refine iaddr_map rfl (by first | omega | (simp; done) | (simp; omega) | (simp [inR, isIn] at *; done) | (simp [inR, isIn] at *; omega)) (by first | omega | (simp; done) | (simp; omega) | (simp [inR, isIn] at *; done) | (simp [inR, isIn] at *; omega)) ?_)) <;> simp [-List.map_take, -List.map_drop, -List.map_tail, run_guard, run_guardD, resultsA, resA, Nat.add_assoc])
    | ((first | (with_reducible refine condS_split ?_ ?_)) <;> intro qb <;> (have qp := qb; try simp only [psq] at qp) <;> simp [-List.map_take, -List.map_drop, -List.map_tail, run_guard, run_guardD, resultsA, resA, Nat.add_assoc, qb])
  refine go_upP [4, 5, 8, 9, 10, 11, 12, 13, 14, 15, 16, 17, 18] (xs.length) (fun (i : Nat) a => [(8, .int .i64 i)]) (fun i_ a_ h_ _ => (fun i (_ : Unit) _ => idxI q (xs.drop i) i = idxI q xs 0) i_ a_ h_) (()) (by simp) ?_ keep_rfl (Nat.le_refl _) ?_
  · simp
  · intro i a tm h' n' hle hJ hE hn' next hnx
    try dsimp only at hJ
    have hK : KeepB nx h' h := KeepB.sub hE (by repeat' first | exact hE2 | exact hK2 | exact hE | exact hK | exact keep_rfl | refine keep_upd_of (by omega) ?_ | refine KeepB.sub hE2 ?_ (by omega)) (by omega)
    simp [-List.map_take, -List.map_drop, -List.map_tail]
    try simp [-List.map_take, -List.map_drop, -List.map_tail, run_guard, run_guardD, resultsA, resA, Nat.add_assoc, prgV]
    repeat'
      first
      | done
      | ((first
          | ((with_reducible show lenS _ _ _ _ _ _); refine lenS_slice rfl fun _ => ?_)
          | ((with_reducible show iaddrS _ _ _ _ _ _ _); refine iaddr_map rfl (by first | omega | (simp; done) | (simp; omega) | (simp [inR, isIn] at *; done) | (simp [inR, isIn] at *; omega)) (by first | omega | (simp; done) | (simp; omega) | (simp [inR, isIn] at *; done) | (simp [inR, isIn] at *; omega)) ?_)
          | (refine call_fv (hq _ (gt_mem (by omega) (by omega))) ?_)) <;> simp [-List.map_take, -List.map_drop, -List.map_tail, run_guard, run_guardD, resultsA, resA, Nat.add_assoc, prgV])
      | ((first | (with_reducible refine condS_split ?_ ?_)) <;> intro qb <;> (have qp := qb; try simp only [psq] at qp) <;> simp [-List.map_take, -List.map_drop, -List.map_tail, run_guard, run_guardD, resultsA, resA, Nat.add_assoc, prgV, qb])
    all_goals
      first
      | (have hlt : i < xs.length := (by first | omega | (simp at *; omega))
         rw [drop_gt hlt] at hJ
         first
         | (refine hnx.go (()) ?_ ?_ ?_ ?_ ?_ ?_; omega; (simp [wrap_succ hlt hlim]); (simp); exact (by repeat' first | exact hE2 | exact hK2 | exact hE | exact hK | exact keep_rfl | refine keep_upd_of (by omega) ?_ | refine KeepB.sub hE2 ?_ (by omega)); (first | omega | (simp; omega)); (try dsimp only); clear hnx; first | ((try simp only [List.drop_length, Int.toNat_natCast, idxI] at hJ ⊢); grind) | (simp_all [idxI]; done) | (simp_all; omega))
         | (refine ⟨?_, (by repeat' first | exact hE2 | exact hK2 | exact hE | exact hK | exact keep_rfl | refine keep_upd_of (by omega) ?_ | refine KeepB.sub hE2 ?_ (by omega))⟩; clear hnx; first | ((try simp only [List.drop_length, Int.toNat_natCast, idxI] at hJ ⊢); grind) | (simp_all [idxI]; done) | (simp_all; omega)))
      | (obtain rfl : i = xs.length := (by first | omega | (simp at *; omega))
         refine ⟨?_, (by repeat' first | exact hE2 | exact hK2 | exact hE | exact hK | exact keep_rfl | refine keep_upd_of (by omega) ?_ | refine KeepB.sub hE2 ?_ (by omega))⟩; clear hnx; first | ((try simp only [List.drop_length, Int.toNat_natCast, idxI] at hJ ⊢); grind) | (simp_all [idxI]; done) | (simp_all; omega))

-- slices.ContainsFunc[[][]impl.Ins,[]impl.Ins]
theorem c_ContainsFunc_Prog {p : Bool} {pg : Bool} {xs : List (List Inn)} {q : (List Inn) → Bool} {fv : AV} (hq : ∀ x ∈ xs, FV ctx.P fv [.view pg 3 (x.map innC)] (.bool (q x))) :
    PC ctx.P 261 [.view p 1 (xs.map (prgV pg)), fv] (.bool (xs.any q)) := by
  refine PC.of okC Tryz.func261 rfl rfl (by kernel_rfl) (Nat.le_of_ble_eq_true rfl) (.bool _) fun h nx hnx => ?_
  show goC ctx _ _ (.fin (RetP _ _ _ _ _))
  try simp [-List.map_take, -List.map_drop, -List.map_tail, run_guard, run_guardD, resultsA, resA, Nat.add_assoc, idxI_any q xs 0 (Int.le_refl 0)]
  repeat'
    first
    | done
    | ((first
        | ((with_reducible show doCall _ _ _ 338 _ _); refine call_pc (c_IndexFunc_Prog hq) ?_)) <;> simp [-List.map_take, -List.map_drop, -List.map_tail, run_guard, run_guardD, resultsA, resA, Nat.add_assoc, idxI_any q xs 0 (Int.le_refl 0)])

-- impl.all[[]impl.Ins]$1
theorem c_allf_Prog {pg : Bool} {x : (List Inn)} {q : (List Inn) → Bool} {fv : AV} (hq : FV ctx.P fv [.view pg 3 (x.map innC)] (.bool (q x))) : PC ctx.P 262 [.view pg 3 (x.map innC), .vptr [fv]] (.bool (!q x)) := by
  refine PC.of okC Tryz.func262 rfl rfl (by kernel_rfl) (Nat.le_of_ble_eq_true rfl) (.bool _) fun h nx hnx => ?_
  show goC ctx _ _ (.fin (RetP _ _ _ _ _))
  try simp [-List.map_take, -List.map_drop, -List.map_tail, run_guard, run_guardD, resultsA, resA, Nat.add_assoc]
  repeat'
    first
    | done
    | ((first
        | (refine call_fv (hq) ?_)) <;> simp [-List.map_take, -List.map_drop, -List.map_tail, run_guard, run_guardD, resultsA, resA, Nat.add_assoc])
-- impl.all[[]impl.Ins]
theorem c_all_Prog {p : Bool} {pg : Bool} {xs : List (List Inn)} {q : (List Inn) → Bool} {fv : AV} (hf : IsF fv) (hq : ∀ x ∈ xs, FV ctx.P fv [.view pg 3 (x.map innC)] (.bool (q x))) :
    PC ctx.P 160 [.view p 1 (xs.map (prgV pg)), fv] (.bool (xs.all q)) := by
  refine PC.of okC Tryz.func160 rfl rfl (by kernel_rfl) (Nat.le_of_ble_eq_true rfl) (.bool _) fun h nx hnx => ?_
  show goC ctx _ _ (.fin (RetP _ _ _ _ _))
  have hc := c_ContainsFunc_Prog (p := p) (q := fun x => !q x) (xs := xs) (fv := .fn 262 [.vptr [fv]]) fun x hx => c_allf_Prog (hq x hx)
  cases hf
  all_goals simp
  · refine call_pcB (hc) (by first | exact .bool _ | exact .int _ _ | exact .str _) (by repeat' first | exact Bors.nil | refine Bors.cons ?_ ?_ | exact Bor.same _ | refine Bor.fn1 ?_ | refine Bor.bnd1 ?_ | refine Bor.agg1 ?_ | refine Bor.ptr0 (by first | (simp; done) | (simp; rfl) | assumption | (simp [*]; done)) ?_ | refine Bor.ref0 (by first | (simp; done) | (simp; rfl) | (simp [iv, bv]; done)) (by simp) (by simp)) ?_
    simp [resultsA, resA, List.all_eq_not_any_not]
  · refine call_pcB (hc) (by first | exact .bool _ | exact .int _ _ | exact .str _) (by repeat' first | exact Bors.nil | refine Bors.cons ?_ ?_ | exact Bor.same _ | refine Bor.fn1 ?_ | refine Bor.bnd1 ?_ | refine Bor.agg1 ?_ | refine Bor.ptr0 (by first | (simp; done) | (simp; rfl) | assumption | (simp [*]; done)) ?_ | refine Bor.ref0 (by first | (simp; done) | (simp; rfl) | (simp [iv, bv]; done)) (by simp) (by simp)) ?_
    simp [resultsA, resA, List.all_eq_not_any_not]






end Go.AE.Tryz
end

section
/- Contracts of the program's readers: slots, times, heaps, timers. -/
set_option linter.unusedSimpArgs false
set_option linter.unusedVariables false
set_option maxRecDepth 8000
set_option maxHeartbeats 2000000
namespace Go.AE.Tryz
open Go.Proofs

-- impl.SlotsOk$1
theorem c_SlotsOk1 {x : Int} : PC ctx.P 349 [.int .i64 x] (.bool (!inR x 0 1000000)) := by
  refine PC.of okC Tryz.func349 rfl rfl (by kernel_rfl) (Nat.le_of_ble_eq_true rfl) (.bool _) fun h nx hnx => ?_
  show goC ctx _ _ (.fin (RetP _ _ _ _ _))
  try simp [-List.map_take, -List.map_drop, -List.map_tail, run_guard, run_guardD, resultsA, resA, Nat.add_assoc]
  repeat'
    first
    | done
    | ((first
        | ((with_reducible show doCall _ _ _ 165 _ _); refine call_pc (c_within) ?_)) <;> simp [-List.map_take, -List.map_drop, -List.map_tail, run_guard, run_guardD, resultsA, resA, Nat.add_assoc])
-- impl.SlotsOk
theorem c_SlotsOk {F : Nat → Bool} {s : Slt} : PC ctx.P 276 [.agg (sltV F s)] (.bool (sltOk s)) := by
  refine PC.of okC Tryz.func276 rfl rfl (by kernel_rfl) (Nat.le_of_ble_eq_true rfl) (.bool _) fun h nx hnx => ?_
  show goC ctx _ _ (.fin (RetP _ _ _ _ _))
  try simp [-List.map_take, -List.map_drop, -List.map_tail, run_guard, run_guardD, resultsA, resA, Nat.add_assoc, sltV, sltOk]
  repeat'
    first
    | done
    | ((first
        | ((with_reducible show lenS _ _ _ _ _ _); refine lenS_slice rfl fun _ => ?_)
        | ((with_reducible show doCall _ _ _ 348 _ _); refine call_pc (c_size_int64) ?_)
        | ((with_reducible show doCall _ _ _ 165 _ _); refine call_pc (c_within) ?_)
        | ((with_reducible show doCall _ _ _ 268 _ _); refine call_pc (c_ContainsFunc_int64 (q := fun a => !inR a 0 1000000) (fun x _ => c_SlotsOk1)) ?_)) <;> simp [-List.map_take, -List.map_drop, -List.map_tail, run_guard, run_guardD, resultsA, resA, Nat.add_assoc, sltV, sltOk])
    | ((first | (with_reducible refine guardS_split ?_ ?_)) <;> intro qb <;> (have qp := qb; try simp only [psq] at qp) <;> simp [-List.map_take, -List.map_drop, -List.map_tail, run_guard, run_guardD, resultsA, resA, Nat.add_assoc, sltV, sltOk, qb])

-- (impl.Slots).used
theorem c_used {F : Nat → Bool} {s : Slt} : PC ctx.P 278 [.agg (sltV F s)] (.int .i64 (cntB id s.used)) := by
  refine PC.lim (n := s.used.length) (x := .agg (sltV F s)) (by simp) (.agg (x := .view (F 9) 1 (s.used.map bv)) (by simp [sltV]) (.here (by simp))) ⟨_, Tryz.func278, by kernel_rfl, by kernel_rfl⟩ fun hlim => ?_
  refine PC.of okC Tryz.func278 rfl rfl (by kernel_rfl) (Nat.le_of_ble_eq_true rfl) (.int _ _) fun h nx hnx => ?_
  show goC ctx _ _ (.fin (RetP _ _ _ _ _))
  try simp [-List.map_take, -List.map_drop, -List.map_tail, run_guard, run_guardD, resultsA, resA, Nat.add_assoc, sltV]
  repeat'
    first
    | done
    | ((first
        | ((with_reducible show lenS _ _ _ _ _ _); refine lenS_slice rfl fun _ => ?_)
        | ((with_reducible show iaddrS _ _ _ _ _ _ _); refine iaddr_map rfl (by first | omega | (simp; done) | (simp; omega) | (simp [inR, isIn] at *; done) | (simp [inR, isIn] at *; omega)) (by first | omega | (simp; done) | (simp; omega) | (simp [inR, isIn] at *; done) | (simp [inR, isIn] at *; omega)) ?_)) <;> simp [-List.map_take, -List.map_drop, -List.map_tail, run_guard, run_guardD, resultsA, resA, Nat.add_assoc, sltV])
    | ((first | (with_reducible refine condS_split ?_ ?_)) <;> intro qb <;> (have qp := qb; try simp only [psq] at qp) <;> simp [-List.map_take, -List.map_drop, -List.map_tail, run_guard, run_guardD, resultsA, resA, Nat.add_assoc, sltV, qb])
  refine go_upP [3, 5, 9, 10, 11, 12, 13, 14, 15, 16] (s.used.length) (fun (i : Nat) a => [(9, .int .i64 i), (3, .int .i64 a)]) (fun i_ a_ h_ _ => (fun i (a : Int) _ => a + cntB id (s.used.drop i) = cntB id s.used ∧ 0 ≤ a ∧ a ≤ i) i_ a_ h_) (0) (by simp) ?_ keep_rfl (Nat.le_refl _) ?_
  · simp
  · intro i a tm h' n' hle hJ hE hn' next hnx
    try dsimp only at hJ
    have hK : KeepB nx h' h := KeepB.sub hE (by repeat' first | exact hE2 | exact hK2 | exact hE | exact hK | exact keep_rfl | refine keep_upd_of (by omega) ?_ | refine KeepB.sub hE2 ?_ (by omega)) (by omega)
    simp [-List.map_take, -List.map_drop, -List.map_tail]
    try simp [-List.map_take, -List.map_drop, -List.map_tail, run_guard, run_guardD, resultsA, resA, Nat.add_assoc, bv]
    repeat'
      first
      | done
      | ((first
          | ((with_reducible show lenS _ _ _ _ _ _); refine lenS_slice rfl fun _ => ?_)
          | ((with_reducible show iaddrS _ _ _ _ _ _ _); refine iaddr_map rfl (by first | omega | (simp; done) | (simp; omega) | (simp [inR, isIn] at *; done) | (simp [inR, isIn] at *; omega)) (by first | omega | (simp; done) | (simp; omega) | (simp [inR, isIn] at *; done) | (simp [inR, isIn] at *; omega)) ?_)) <;> simp [-List.map_take, -List.map_drop, -List.map_tail, run_guard, run_guardD, resultsA, resA, Nat.add_assoc, bv])
      | ((first | (with_reducible refine condS_split ?_ ?_)) <;> intro qb <;> (have qp := qb; try simp only [psq] at qp) <;> simp [-List.map_take, -List.map_drop, -List.map_tail, run_guard, run_guardD, resultsA, resA, Nat.add_assoc, bv, qb])
    · rw [drop_gt (by omega)] at hJ
      refine hnx.go (a + 1) (by omega) (by simp [wrap_succ (i := i) (n := s.used.length) (by omega) hlim, i64_ok (x := a + 1) (by simp only [LIM] at hlim; omega)]) (by simp) (by repeat' first | exact hE2 | exact hK2 | exact hE | exact hK | exact keep_rfl | refine keep_upd_of (by omega) ?_ | refine KeepB.sub hE2 ?_ (by omega)) (by first | omega | (simp; omega)) ?_
      try dsimp only
      simp [cntB, qb] at hJ ⊢
      omega
    · rw [drop_gt (by omega)] at hJ
      refine hnx.go (a) (by omega) (by simp [wrap_succ (i := i) (n := s.used.length) (by omega) hlim]) (by simp) (by repeat' first | exact hE2 | exact hK2 | exact hE | exact hK | exact keep_rfl | refine keep_upd_of (by omega) ?_ | refine KeepB.sub hE2 ?_ (by omega)) (by first | omega | (simp; omega)) ?_
      try dsimp only
      simp [cntB, qb] at hJ ⊢
      omega
    · refine ⟨?_, by simp [hK]⟩
      rw [List.drop_eq_nil_of_le (by omega)] at hJ
      simp [cntB] at hJ ⊢
      omega

-- (impl.Slots).holds
theorem c_holds {F : Nat → Bool} {s : Slt} {x : Han} (hl : s.used.length = s.ages.length) : PC ctx.P 280 [.agg (sltV F s), .agg (hanC x)] (.bool (sltHolds s x)) := by
  refine PC.of okC Tryz.func280 rfl rfl (by kernel_rfl) (Nat.le_of_ble_eq_true rfl) (.bool _) fun h nx hnx => ?_
  show goC ctx _ _ (.fin (RetP _ _ _ _ _))
  try simp [-List.map_take, -List.map_drop, -List.map_tail, run_guard, run_guardD, resultsA, resA, Nat.add_assoc, sltV, hanC, iv, bv, sltHolds]
  repeat'
    first
    | done
    | ((first
        | ((with_reducible show iaddrS _ _ _ _ _ _ _); refine iaddr_map rfl (by first | omega | (simp; done) | (simp; omega) | (simp [inR, isIn] at *; done) | (simp [inR, isIn] at *; omega)) (by first | omega | (simp; done) | (simp; omega) | (simp [inR, isIn] at *; done) | (simp [inR, isIn] at *; omega)) ?_)
        | ((with_reducible show doCall _ _ _ 350 _ _); refine call_pc (c_isIn_int64) ?_)
        | (with_reducible refine go_draw (i := 1) [(0, [], []), (1, [], []), (2, [], []), (3, [], []), (4, [], []), (5, [], []), (6, [], []), (7, [], []), (8, [], []), (9, [], []), (10, [], []), (11, [], []), (12, [], []), (13, [], []), (14, [], []), (15, [], []), (16, [], []), (17, [], []), (18, [], []), (19, [], []), (20, [], []), (21, [], []), (22, [], []), (23, [], []), (24, [], [])] (by kernel_rfl) ?_)) <;> simp [-List.map_take, -List.map_drop, -List.map_tail, run_guard, run_guardD, resultsA, resA, Nat.add_assoc, sltV, hanC, iv, bv, sltHolds])
    | ((first | (with_reducible refine guardD_split ?_ ?_)) <;> intro qb <;> (have qp := qb; try simp only [psq] at qp) <;> simp [-List.map_take, -List.map_drop, -List.map_tail, run_guard, run_guardD, resultsA, resA, Nat.add_assoc, sltV, hanC, iv, bv, sltHolds, qb])

-- impl.IsDue
theorem c_IsDue {a b : Int} : PC ctx.P 84 [.int .i64 a, .int .i64 b] (.bool (isDue a b)) := by
  refine PC.of okC Tryz.func84 rfl rfl (by kernel_rfl) (Nat.le_of_ble_eq_true rfl) (.bool _) fun h nx hnx => ?_
  show goC ctx _ _ (.fin (RetP _ _ _ _ _))
  try simp [-List.map_take, -List.map_drop, -List.map_tail, run_guard, run_guardD, resultsA, resA, Nat.add_assoc, isDue, never]
  repeat'
    first
    | done
    | ((first | (with_reducible refine guardS_split ?_ ?_)) <;> intro qb <;> (have qp := qb; try simp only [psq] at qp) <;> simp [-List.map_take, -List.map_drop, -List.map_tail, run_guard, run_guardD, resultsA, resA, Nat.add_assoc, isDue, never, qb])

-- cmp.isNaN[int64]
theorem c_isNaN {a : Int} : PC ctx.P 385 [.int .i64 a] (.bool false) := by
  refine PC.of okC Tryz.func385 rfl rfl (by kernel_rfl) (Nat.le_of_ble_eq_true rfl) (.bool _) fun h nx hnx => ?_
  show goC ctx _ _ (.fin (RetP _ _ _ _ _))
  try simp [-List.map_take, -List.map_drop, -List.map_tail, run_guard, run_guardD, resultsA, resA, Nat.add_assoc]
-- cmp.Compare[int64]
theorem c_Compare {a b : Int} : PC ctx.P 383 [.int .i64 a, .int .i64 b] (.int .i64 (cmp2 a b)) := by
  refine PC.of okC Tryz.func383 rfl rfl (by kernel_rfl) (Nat.le_of_ble_eq_true rfl) (.int _ _) fun h nx hnx => ?_
  show goC ctx _ _ (.fin (RetP _ _ _ _ _))
  try simp [-List.map_take, -List.map_drop, -List.map_tail, run_guard, run_guardD, resultsA, resA, Nat.add_assoc, cmp2]
  repeat'
    first
    | done
    | ((first
        | ((with_reducible show doCall _ _ _ 385 _ _); refine call_pc (c_isNaN) ?_)) <;> simp [-List.map_take, -List.map_drop, -List.map_tail, run_guard, run_guardD, resultsA, resA, Nat.add_assoc, cmp2])
    | ((first | (with_reducible refine condS_split ?_ ?_)) <;> intro qb <;> (have qp := qb; try simp only [psq] at qp) <;> simp [-List.map_take, -List.map_drop, -List.map_tail, run_guard, run_guardD, resultsA, resA, Nat.add_assoc, cmp2, qb])
  all_goals omega
-- cmp.Or[int]
theorem c_Or {p : Bool} {xs : List Int} : PC ctx.P 382 [.view p 1 (xs.map iv)] (.int .i64 (orI xs)) := by
  refine PC.lim (n := xs.length) (x := .view p 1 (xs.map iv)) (by simp) (.here (by simp)) ⟨_, Tryz.func382, by kernel_rfl, by kernel_rfl⟩ fun hlim => ?_
  refine PC.of okC Tryz.func382 rfl rfl (by kernel_rfl) (Nat.le_of_ble_eq_true rfl) (.int _ _) fun h nx hnx => ?_
  show goC ctx _ _ (.fin (RetP _ _ _ _ _))
  try simp [-List.map_take, -List.map_drop, -List.map_tail, run_guard, run_guardD, resultsA, resA, Nat.add_assoc]
  repeat'
    first
    | done
    | ((first
        | ((with_reducible show lenS _ _ _ _ _ _); refine lenS_slice rfl fun _ => ?_)
        | ((with_reducible show iaddrS _ _ _ _ _ _ _); refine iaddr_map rfl (by first | omega | (simp; done) | (simp; omega) | (simp [inR, isIn] at *; done) | (simp [inR, isIn] at *; omega)) (by first | omega | (simp; done) | (simp; omega) | (simp [inR, isIn] at *; done) | (simp [inR, isIn] at *; omega)) ?_)) <;> simp [-List.map_take, -List.map_drop, -List.map_tail, run_guard, run_guardD, resultsA, resA, Nat.add_assoc])
    | ((first | (with_reducible refine condS_split ?_ ?_)) <;> intro qb <;> (have qp := qb; try simp only [psq] at qp) <;> simp [-List.map_take, -List.map_drop, -List.map_tail, run_guard, run_guardD, resultsA, resA, Nat.add_assoc, qb])
  refine go_upP [2, 5, 8, 9, 10, 11, 12, 13, 14, 15, 16] (xs.length) (fun (i : Nat) a => [(8, .int .i64 i)]) (fun i_ a_ h_ _ => (fun i (_ : Unit) _ => orI (xs.drop i) = orI xs) i_ a_ h_) (()) (by simp) ?_ keep_rfl (Nat.le_refl _) ?_
  · simp
  · intro i a tm h' n' hle hJ hE hn' next hnx
    try dsimp only at hJ
    have hK : KeepB nx h' h := KeepB.sub hE (by repeat' first | exact hE2 | exact hK2 | exact hE | exact hK | exact keep_rfl | refine keep_upd_of (by omega) ?_ | refine KeepB.sub hE2 ?_ (by omega)) (by omega)
    simp [-List.map_take, -List.map_drop, -List.map_tail]
    try simp [-List.map_take, -List.map_drop, -List.map_tail, run_guard, run_guardD, resultsA, resA, Nat.add_assoc, iv]
    repeat'
      first
      | done
      | ((first
          | ((with_reducible show lenS _ _ _ _ _ _); refine lenS_slice rfl fun _ => ?_)
          | ((with_reducible show iaddrS _ _ _ _ _ _ _); refine iaddr_map rfl (by first | omega | (simp; done) | (simp; omega) | (simp [inR, isIn] at *; done) | (simp [inR, isIn] at *; omega)) (by first | omega | (simp; done) | (simp; omega) | (simp [inR, isIn] at *; done) | (simp [inR, isIn] at *; omega)) ?_)) <;> simp [-List.map_take, -List.map_drop, -List.map_tail, run_guard, run_guardD, resultsA, resA, Nat.add_assoc, iv])
      | ((first | (with_reducible refine condS_split ?_ ?_)) <;> intro qb <;> (have qp := qb; try simp only [psq] at qp) <;> simp [-List.map_take, -List.map_drop, -List.map_tail, run_guard, run_guardD, resultsA, resA, Nat.add_assoc, iv, qb])
    all_goals
      first
      | (have hlt : i < xs.length := (by first | omega | (simp at *; omega))
         rw [drop_gt hlt] at hJ
         first
         | (refine hnx.go (()) ?_ ?_ ?_ ?_ ?_ ?_; omega; (simp [wrap_succ hlt hlim]); (simp); exact (by repeat' first | exact hE2 | exact hK2 | exact hE | exact hK | exact keep_rfl | refine keep_upd_of (by omega) ?_ | refine KeepB.sub hE2 ?_ (by omega)); (first | omega | (simp; omega)); (try dsimp only); clear hnx; first | ((try simp only [List.drop_length, Int.toNat_natCast, orI] at hJ ⊢); grind) | (simp_all [orI]; done) | (simp_all; omega))
         | (refine ⟨?_, (by repeat' first | exact hE2 | exact hK2 | exact hE | exact hK | exact keep_rfl | refine keep_upd_of (by omega) ?_ | refine KeepB.sub hE2 ?_ (by omega))⟩; clear hnx; first | ((try simp only [List.drop_length, Int.toNat_natCast, orI] at hJ ⊢); grind) | (simp_all [orI]; done) | (simp_all; omega)))
      | (obtain rfl : i = xs.length := (by first | omega | (simp at *; omega))
         refine ⟨?_, (by repeat' first | exact hE2 | exact hK2 | exact hE | exact hK | exact keep_rfl | refine keep_upd_of (by omega) ?_ | refine KeepB.sub hE2 ?_ (by omega))⟩; clear hnx; first | ((try simp only [List.drop_length, Int.toNat_natCast, orI] at hJ ⊢); grind) | (simp_all [orI]; done) | (simp_all; omega))
end Go.AE.Tryz
end

section
/- Contracts of the program's readers: heaps, timers, trees. -/
set_option linter.unusedSimpArgs false
set_option linter.unusedVariables false
set_option maxRecDepth 8000
set_option maxHeartbeats 2000000
namespace Go.AE.Tryz
open Go.Proofs

-- (impl.Twig).compare
theorem c_compare {a b : Twg} : PC ctx.P 372 [.agg (twgC a), .agg (twgC b)] (.int .i64 (twgCmp a b)) := by
  refine PC.of okC Tryz.func372 rfl rfl (by kernel_rfl) (Nat.le_of_ble_eq_true rfl) (.int _ _) fun h nx hnx => ?_
  show goC ctx _ _ (.fin (RetP _ _ _ _ _))
  try simp [-List.map_take, -List.map_drop, -List.map_tail, run_guard, run_guardD, resultsA, resA, Nat.add_assoc, twgC]
  repeat'
    first
    | done
    | ((first
        | ((with_reducible show doCall _ _ _ 383 _ _); refine call_pc (c_Compare) ?_)
        | ((with_reducible show doCall _ _ _ 382 _ _); refine call_pcB (c_Or (p := false) (xs := [cmp2 a.due b.due, cmp2 a.seq b.seq])) (by first | exact .bool _ | exact .int _ _ | exact .str _) (by repeat' first | exact Bors.nil | refine Bors.cons ?_ ?_ | exact Bor.same _ | refine Bor.fn1 ?_ | refine Bor.bnd1 ?_ | refine Bor.agg1 ?_ | refine Bor.ptr0 (by first | (simp; done) | (simp; rfl) | assumption | (simp [*]; done)) ?_ | refine Bor.ref0 (by first | (simp; done) | (simp; rfl) | (simp [iv, bv]; done)) (by simp) (by simp)) ?_)
        | (with_reducible refine go_draw (i := 1) [(0, [], []), (1, [], []), (2, [], []), (3, [], []), (5, [], []), (6, [], []), (7, [], []), (8, [], []), (4, [.tmp 10, .tmp 12], []), (9, [], []), (10, [], []), (11, [], []), (12, [], [])] (by kernel_rfl) ?_)) <;> simp [-List.map_take, -List.map_drop, -List.map_tail, run_guard, run_guardD, resultsA, resA, Nat.add_assoc, twgC])
  all_goals (try clear hnx)
  all_goals first | (simp_all [twgCmp]; done) | (simp_all [twgCmp]; omega) | (rw [Bool.eq_iff_iff]; simp_all [twgCmp]; done) | (rw [Bool.eq_iff_iff]; simp_all [twgCmp]; omega) | omega | (simp only [twgCmp]; grind) | grind
-- impl.parts
theorem c_parts {p : Bool} {l : List Twg} (hp : 0 < l.length) (h0 : 0 ≤ (gt l 0).lefts) (h1 : (gt l 0).lefts < l.length) :
    PC ctx.P 370 [.view p 3 (l.map twgC)] (.tup [.view p 3 ((l.tail.take (gt l 0).lefts.toNat).map twgC), .view p 3 ((l.drop ((gt l 0).lefts.toNat + 1)).map twgC)]) := by
  refine PC.lim (n := l.length) (x := .view p 3 (l.map twgC)) (by simp) (.here (by simp)) ⟨_, Tryz.func370, by kernel_rfl, by kernel_rfl⟩ fun hlim => ?_
  simp only [LIM] at hlim
  have q1 : (1 + (gt l 0).lefts).toNat = (gt l 0).lefts.toNat + 1 := by omega
  refine PC.of okC Tryz.func370 rfl rfl (by kernel_rfl) (Nat.le_of_ble_eq_true rfl) (.tup _ (by simp [-List.map_take, -List.map_drop]; exact ⟨.vmap twgC_fz, .vmap twgC_fz⟩)) fun h nx hnx => ?_
  show goC ctx _ _ (.fin (RetP _ _ _ _ _))
  try simp [-List.map_take, -List.map_drop, -List.map_tail, run_guard, run_guardD, resultsA, resA, Nat.add_assoc, twgC, i64_ok (x := 1 + (gt l 0).lefts) (by omega), q1]
  repeat'
    first
    | done
    | ((first
        | ((with_reducible show iaddrS _ _ _ _ _ _ _); refine iaddr_map rfl (by first | omega | (simp; done) | (simp; omega) | (simp [inR, isIn] at *; done) | (simp [inR, isIn] at *; omega)) (by first | omega | (simp; done) | (simp; omega) | (simp [inR, isIn] at *; done) | (simp [inR, isIn] at *; omega)) ?_)
        | ((with_reducible show sliceS _ _ _ _ _ _ _ _); refine slice_to rfl (by first | omega | (simp; done) | (simp; omega) | (simp [inR, isIn] at *; done) | (simp [inR, isIn] at *; omega)) (by first | omega | (simp; done) | (simp; omega) | (simp [inR, isIn] at *; done) | (simp [inR, isIn] at *; omega)) ?_)
        | ((with_reducible show sliceS _ _ _ _ _ _ _ _); refine slice_from rfl (by first | omega | (simp; done) | (simp; omega) | (simp [inR, isIn] at *; done) | (simp [inR, isIn] at *; omega)) (by first | omega | (simp; done) | (simp; omega) | (simp [inR, isIn] at *; done) | (simp [inR, isIn] at *; omega)) ?_)
        | ((with_reducible show sliceS _ _ _ _ _ _ _ _); refine slice_mid rfl (by first | omega | (simp; done) | (simp; omega) | (simp [inR, isIn] at *; done) | (simp [inR, isIn] at *; omega)) (by first | omega | (simp; done) | (simp; omega) | (simp [inR, isIn] at *; done) | (simp [inR, isIn] at *; omega)) (by first | omega | (simp; done) | (simp; omega) | (simp [inR, isIn] at *; done) | (simp [inR, isIn] at *; omega)) ?_)
        | ((with_reducible show sliceI _ _ _ _ _ _ _ _ _ _ _); refine sliceI_to rfl (by first | omega | (simp; done) | (simp; omega) | (simp [inR, isIn] at *; done) | (simp [inR, isIn] at *; omega)) (by first | omega | (simp; done) | (simp; omega) | (simp [inR, isIn] at *; done) | (simp [inR, isIn] at *; omega)) ?_)
        | ((with_reducible show sliceI _ _ _ _ _ _ _ _ _ _ _); refine sliceI_from rfl (by first | omega | (simp; done) | (simp; omega) | (simp [inR, isIn] at *; done) | (simp [inR, isIn] at *; omega)) (by first | omega | (simp; done) | (simp; omega) | (simp [inR, isIn] at *; done) | (simp [inR, isIn] at *; omega)) ?_)
        | ((with_reducible show sliceI _ _ _ _ _ _ _ _ _ _ _); refine sliceI_mid rfl (by first | omega | (simp; done) | (simp; omega) | (simp [inR, isIn] at *; done) | (simp [inR, isIn] at *; omega)) (by first | omega | (simp; done) | (simp; omega) | (simp [inR, isIn] at *; done) | (simp [inR, isIn] at *; omega)) (by first | omega | (simp; done) | (simp; omega) | (simp [inR, isIn] at *; done) | (simp [inR, isIn] at *; omega)) ?_)
        | (with_reducible refine go_draw (i := 2) [(0, [], []), (1, [], []), (2, [], []), (3, [], []), (4, [], []), (5, [], []), (6, [], []), (7, [], [])] (by kernel_rfl) ?_)) <;> simp [-List.map_take, -List.map_drop, -List.map_tail, run_guard, run_guardD, resultsA, resA, Nat.add_assoc, twgC, i64_ok (x := 1 + (gt l 0).lefts) (by omega), q1])
-- impl.seqAt$1
theorem c_seqAt1 {x : Twg} {s : Int} : PC ctx.P 375 [.agg (twgC x), .vptr [.int .i64 s]] (.bool (x.seq == s)) := by
  refine PC.of okC Tryz.func375 rfl rfl (by kernel_rfl) (Nat.le_of_ble_eq_true rfl) (.bool _) fun h nx hnx => ?_
  show goC ctx _ _ (.fin (RetP _ _ _ _ _))
  try simp [-List.map_take, -List.map_drop, -List.map_tail, run_guard, run_guardD, resultsA, resA, Nat.add_assoc, twgC]
-- impl.seqAt
theorem c_seqAt {p : Bool} {h : List Twg} {s : Int} : PC ctx.P 344 [.view p 3 (h.map twgC), .int .i64 s] (.int .i64 (seqAt h s)) := by
  refine PC.of okC Tryz.func344 rfl rfl (by kernel_rfl) (Nat.le_of_ble_eq_true rfl) (.int _ _) fun h nx hnx => ?_
  show goC ctx _ _ (.fin (RetP _ _ _ _ _))
  try simp [-List.map_take, -List.map_drop, -List.map_tail, run_guard, run_guardD, resultsA, resA, Nat.add_assoc, seqAt]
  repeat'
    first
    | done
    | ((first
        | ((with_reducible show doCall _ _ _ 346 _ _); refine call_pcB (c_IndexFunc_Twig (q := fun x => x.seq == s) (fv := .fn 375 [.vptr [.int .i64 s]]) (fun x _ => c_seqAt1)) (by first | exact .bool _ | exact .int _ _ | exact .str _) (by repeat' first | exact Bors.nil | refine Bors.cons ?_ ?_ | exact Bor.same _ | refine Bor.fn1 ?_ | refine Bor.bnd1 ?_ | refine Bor.agg1 ?_ | refine Bor.ptr0 (by first | (simp; done) | (simp; rfl) | assumption | (simp [*]; done)) ?_ | refine Bor.ref0 (by first | (simp; done) | (simp; rfl) | (simp [iv, bv]; done)) (by simp) (by simp)) ?_)) <;> simp [-List.map_take, -List.map_drop, -List.map_tail, run_guard, run_guardD, resultsA, resA, Nat.add_assoc, seqAt])
-- (impl.Timers).at$1
theorem c_tmsAt1 {x : Tmr} {s : Int} : PC ctx.P 329 [.agg (tmrC x), .vptr [.int .i64 s]] (.bool (x.seq == s)) := by
  refine PC.of okC Tryz.func329 rfl rfl (by kernel_rfl) (Nat.le_of_ble_eq_true rfl) (.bool _) fun h nx hnx => ?_
  show goC ctx _ _ (.fin (RetP _ _ _ _ _))
  try simp [-List.map_take, -List.map_drop, -List.map_tail, run_guard, run_guardD, resultsA, resA, Nat.add_assoc, tmrC]
-- (impl.Timers).at
theorem c_tmsAt {F : Nat → Bool} {t : Tms} {s : Int} : PC ctx.P 237 [.agg (tmsV F t), .int .i64 s] (.int .i64 (tmsAt t.list s)) := by
  refine PC.of okC Tryz.func237 rfl rfl (by kernel_rfl) (Nat.le_of_ble_eq_true rfl) (.int _ _) fun h nx hnx => ?_
  show goC ctx _ _ (.fin (RetP _ _ _ _ _))
  try simp [-List.map_take, -List.map_drop, -List.map_tail, run_guard, run_guardD, resultsA, resA, Nat.add_assoc, tmsV, tmsAt]
  repeat'
    first
    | done
    | ((first
        | ((with_reducible show doCall _ _ _ 328 _ _); refine call_pcB (c_IndexFunc_Timer (q := fun x => x.seq == s) (fv := .fn 329 [.vptr [.int .i64 s]]) (fun x _ => c_tmsAt1)) (by first | exact .bool _ | exact .int _ _ | exact .str _) (by repeat' first | exact Bors.nil | refine Bors.cons ?_ ?_ | exact Bor.same _ | refine Bor.fn1 ?_ | refine Bor.bnd1 ?_ | refine Bor.agg1 ?_ | refine Bor.ptr0 (by first | (simp; done) | (simp; rfl) | assumption | (simp [*]; done)) ?_ | refine Bor.ref0 (by first | (simp; done) | (simp; rfl) | (simp [iv, bv]; done)) (by simp) (by simp)) ?_)) <;> simp [-List.map_take, -List.map_drop, -List.map_tail, run_guard, run_guardD, resultsA, resA, Nat.add_assoc, tmsV, tmsAt])
-- impl.TimersOk$1
theorem c_TimersOk1 {F : Nat → Bool} {t : Tms} {x : Twg} : PC ctx.P 272 [.agg (twgC x), .vptr (tmsV F t)] (.bool (decide (tmsAt t.list x.seq < 0) || (!(gt t.list (tmsAt t.list x.seq)).armed || (gt t.list (tmsAt t.list x.seq)).due != x.due))) := by
  have hat := tmsAt_lt t.list x.seq
  refine PC.of okC Tryz.func272 rfl rfl (by kernel_rfl) (Nat.le_of_ble_eq_true rfl) (.bool _) fun h nx hnx => ?_
  show goC ctx _ _ (.fin (RetP _ _ _ _ _))
  try simp [-List.map_take, -List.map_drop, -List.map_tail, run_guard, run_guardD, resultsA, resA, Nat.add_assoc, twgC, tmsV, tmrC]
  repeat'
    first
    | done
    | ((first
        | ((with_reducible show iaddrS _ _ _ _ _ _ _); refine iaddr_map rfl (by first | omega | (simp; done) | (simp; omega) | (simp [inR, isIn] at *; done) | (simp [inR, isIn] at *; omega)) (by first | omega | (simp; done) | (simp; omega) | (simp [inR, isIn] at *; done) | (simp [inR, isIn] at *; omega)) ?_)
        | ((with_reducible show doCall _ _ _ 237 _ _); refine call_pc (c_tmsAt (F := F) (t := t)) ?_)
        | (with_reducible refine go_draw (i := 2) [(0, [], []), (1, [], []), (2, [], []), (3, [], []), (4, [], []), (5, [], []), (6, [], []), (7, [], []), (8, [], []), (9, [], []), (10, [], []), (11, [], []), (12, [], []), (13, [], []), (14, [], []), (15, [], []), (16, [], []), (17, [], []), (18, [], []), (19, [], []), (20, [], []), (21, [], []), (22, [], [])] (by kernel_rfl) ?_)) <;> simp [-List.map_take, -List.map_drop, -List.map_tail, run_guard, run_guardD, resultsA, resA, Nat.add_assoc, twgC, tmsV, tmrC])
    | ((first | (with_reducible refine guardD_split ?_ ?_)) <;> intro qb <;> (have qp := qb; try simp only [psq] at qp) <;> simp [-List.map_take, -List.map_drop, -List.map_tail, run_guard, run_guardD, resultsA, resA, Nat.add_assoc, twgC, tmsV, tmrC, qb])

-- impl.rank
theorem c_rank {p : Bool} {h0 : List Twg} {r : Nat} (hr : rk h0 = some r) : PC ctx.P 377 [.view p 3 (h0.map twgC)] (.int .i64 r) := by
  refine PC.lim (n := h0.length) (x := .view p 3 (h0.map twgC)) (by simp) (.here (by simp)) ⟨_, Tryz.func377, by kernel_rfl, by kernel_rfl⟩ fun hlim => ?_
  have hrl := rk_le hr
  simp only [LIM] at hlim
  refine PC.of okC Tryz.func377 rfl rfl (by kernel_rfl) (Nat.le_of_ble_eq_true rfl) (.int _ _) fun h nx hnx => ?_
  show goC ctx _ _ (.fin (RetP _ _ _ _ _))
  try simp [-List.map_take, -List.map_drop, -List.map_tail, run_guard, run_guardD, resultsA, resA, Nat.add_assoc]
  repeat'
    first
    | done
    | ((first
        | ((with_reducible show lenS _ _ _ _ _ _); refine lenS_slice rfl fun _ => ?_)) <;> simp [-List.map_take, -List.map_drop, -List.map_tail, run_guard, run_guardD, resultsA, resA, Nat.add_assoc])
    | ((first | (with_reducible refine condS_split ?_ ?_)) <;> intro qb <;> (have qp := qb; try simp only [psq] at qp) <;> simp [-List.map_take, -List.map_drop, -List.map_tail, run_guard, run_guardD, resultsA, resA, Nat.add_assoc, qb])
  refine go_dnP [0, 3, 4, 5, 6, 7, 8, 9, 10, 11, 12, 13] (fun a => [(0, .view p 3 (a.1.map twgC)), (3, .int .i64 a.2)]) (fun a => a.1.length) (fun a_ h_ _ => (fun (a : List Twg × Int) _ => ∃ k : Nat, rk a.1 = some k ∧ a.2 + k = r ∧ 0 ≤ a.2) a_ h_) ((h0, 0)) (by simp) ?_ keep_rfl (Nat.le_refl _) ?_
  · exact ⟨r, hr, by simp, by simp⟩
  · intro a tm h' n' hJ hE hn' next hnx
    try dsimp only at hJ
    have hK : KeepB nx h' h := KeepB.sub hE (by repeat' first | exact hE2 | exact hK2 | exact hE | exact hK | exact keep_rfl | refine keep_upd_of (by omega) ?_ | refine KeepB.sub hE2 ?_ (by omega)) (by omega)
    obtain ⟨l, n⟩ := a
    obtain ⟨k, hk, hn, h0⟩ := hJ
    dsimp only at hk hn h0 ⊢
    rcases rk_cases hk with ⟨rfl, rfl⟩ | ⟨hp, hx0, hx1, b, hb, rfl⟩
    · try simp [-List.map_take, -List.map_drop, -List.map_tail, run_guard, run_guardD, resultsA, resA, Nat.add_assoc]
      repeat'
        first
        | done
        | ((first
            | ((with_reducible show lenS _ _ _ _ _ _); refine lenS_slice rfl fun _ => ?_)) <;> simp [-List.map_take, -List.map_drop, -List.map_tail, run_guard, run_guardD, resultsA, resA, Nat.add_assoc])
        | ((first | (with_reducible refine condS_split ?_ ?_)) <;> intro qb <;> (have qp := qb; try simp only [psq] at qp) <;> simp [-List.map_take, -List.map_drop, -List.map_tail, run_guard, run_guardD, resultsA, resA, Nat.add_assoc, qb])
      all_goals (first | exact ⟨by simpa using hn, hK⟩ | (simp at *; omega))
    · simp at hn h0
      try simp [-List.map_take, -List.map_drop, -List.map_tail, run_guard, run_guardD, resultsA, resA, Nat.add_assoc]
      repeat'
        first
        | done
        | ((first
            | ((with_reducible show lenS _ _ _ _ _ _); refine lenS_slice rfl fun _ => ?_)
            | ((with_reducible show doCall _ _ _ 370 _ _); refine call_pc (c_parts hp hx0 hx1) ?_)) <;> simp [-List.map_take, -List.map_drop, -List.map_tail, run_guard, run_guardD, resultsA, resA, Nat.add_assoc])
        | ((first | (with_reducible refine condS_split ?_ ?_)) <;> intro qb <;> (have qp := qb; try simp only [psq] at qp) <;> simp [-List.map_take, -List.map_drop, -List.map_tail, run_guard, run_guardD, resultsA, resA, Nat.add_assoc, qb])
      · refine hnx.go (l.drop ((gt l 0).lefts.toNat + 1), n + 1) (by simp; omega) (by simp [i64_ok (x := n + 1) (by omega)]) (by simp) (by repeat' first | exact hE2 | exact hK2 | exact hE | exact hK | exact keep_rfl | refine keep_upd_of (by omega) ?_ | refine KeepB.sub hE2 ?_ (by omega)) (by first | omega | (simp; omega)) ⟨b, hb, by simp; omega, by simp; omega⟩
      · omega
-- impl.isHeap
theorem c_isHeapN {p : Bool} : ∀ (n : Nat) (l : List Twg), l.length ≤ n → PC ctx.P 345 [.view p 3 (l.map twgC)] (.bool (rk l).isSome) := by
  intro n
  induction n with
  | zero =>
    intro l hl
    obtain rfl : l = [] := by simpa using hl
    refine PC.of okC Tryz.func345 rfl rfl (by kernel_rfl) (Nat.le_of_ble_eq_true rfl) (.bool _) fun h nx hnx => ?_
    show goC ctx _ _ (.fin (RetP _ _ _ _ _))
    try simp [-List.map_take, -List.map_drop, -List.map_tail, run_guard, run_guardD, resultsA, resA, Nat.add_assoc, rk_nil]
    repeat'
      first
      | done
      | ((first
          | ((with_reducible show lenS _ _ _ _ _ _); refine lenS_slice rfl fun _ => ?_)
          | ((with_reducible show iaddrS _ _ _ _ _ _ _); refine iaddr_map rfl (by first | omega | (simp; done) | (simp; omega) | (simp [inR, isIn] at *; done) | (simp [inR, isIn] at *; omega)) (by first | omega | (simp; done) | (simp; omega) | (simp [inR, isIn] at *; done) | (simp [inR, isIn] at *; omega)) ?_)
          | (with_reducible refine go_draw (i := 3) [(0, [], []), (1, [], []), (2, [], []), (3, [], []), (4, [], []), (5, [.tmp 10], []), (6, [], []), (7, [], []), (8, [], [])] (by kernel_rfl) ?_)
          | (with_reducible refine go_draw (i := 8) [(0, [], []), (1, [], []), (2, [], []), (3, [], []), (4, [], []), (5, [], []), (6, [], []), (7, [], []), (8, [], []), (9, [], []), (10, [], []), (11, [], []), (12, [], []), (13, [], []), (14, [], []), (15, [], []), (16, [], []), (17, [], []), (18, [], []), (19, [], []), (20, [], []), (21, [], []), (22, [], []), (23, [], []), (24, [], []), (25, [], []), (26, [], []), (27, [], []), (28, [], [])] (by kernel_rfl) ?_)) <;> simp [-List.map_take, -List.map_drop, -List.map_tail, run_guard, run_guardD, resultsA, resA, Nat.add_assoc, rk_nil])
      | ((first | (with_reducible refine guardD_split ?_ ?_) | (with_reducible refine guardS_split ?_ ?_) | (with_reducible refine condS_split ?_ ?_)) <;> intro qb <;> (have qp := qb; try simp only [psq] at qp) <;> simp [-List.map_take, -List.map_drop, -List.map_tail, run_guard, run_guardD, resultsA, resA, Nat.add_assoc, rk_nil, qb])
  | succ n ih =>
    intro l hl
    refine PC.lim (n := l.length) (x := .view p 3 (l.map twgC)) (by simp) (.here (by simp)) ⟨_, Tryz.func345, by kernel_rfl, by kernel_rfl⟩ fun hlim => ?_
    simp only [LIM] at hlim
    by_cases hp : 0 < l.length
    · have i1 := ih (l.tail.take (gt l 0).lefts.toNat) (by simp; omega)
      have i2 := ih (l.drop ((gt l 0).lefts.toNat + 1)) (by simp; omega)
      rw [rk_tail hp]
      cases ha : rk (l.tail.take (gt l 0).lefts.toNat) with
      | none =>
        rw [ha] at i1
        refine PC.of okC Tryz.func345 rfl rfl (by kernel_rfl) (Nat.le_of_ble_eq_true rfl) (.bool _) fun h nx hnx => ?_
        show goC ctx _ _ (.fin (RetP _ _ _ _ _))
        try simp [-List.map_take, -List.map_drop, -List.map_tail, run_guard, run_guardD, resultsA, resA, Nat.add_assoc, twgC, i64_ok (x := (l.length : Int) - 1) (by omega)]
        repeat'
          first
          | done
          | ((first
              | ((with_reducible show lenS _ _ _ _ _ _); refine lenS_slice rfl fun _ => ?_)
              | ((with_reducible show iaddrS _ _ _ _ _ _ _); refine iaddr_map rfl (by first | omega | (simp; done) | (simp; omega) | (simp [inR, isIn] at *; done) | (simp [inR, isIn] at *; omega)) (by first | omega | (simp; done) | (simp; omega) | (simp [inR, isIn] at *; done) | (simp [inR, isIn] at *; omega)) ?_)
              | ((with_reducible show doCall _ _ _ 376 _ _); refine call_pc (c_size_Twig) ?_)
              | ((with_reducible show doCall _ _ _ 165 _ _); refine call_pc (c_within) ?_)
              | ((with_reducible show doCall _ _ _ 370 _ _); refine call_pc (c_parts hp (by omega) (by omega)) ?_)
              | (refine call_pc (i1) ?_)
              | (refine call_pc (i2) ?_)
              | (with_reducible refine go_draw (i := 3) [(0, [], []), (1, [], []), (2, [], []), (3, [], []), (4, [], []), (5, [.tmp 10], []), (6, [], []), (7, [], []), (8, [], [])] (by kernel_rfl) ?_)
              | (with_reducible refine go_draw (i := 8) [(0, [], []), (1, [], []), (2, [], []), (3, [], []), (4, [], []), (5, [], []), (6, [], []), (7, [], []), (8, [], []), (9, [], []), (10, [], []), (11, [], []), (12, [], []), (13, [], []), (14, [], []), (15, [], []), (16, [], []), (17, [], []), (18, [], []), (19, [], []), (20, [], []), (21, [], []), (22, [], []), (23, [], []), (24, [], []), (25, [], []), (26, [], []), (27, [], []), (28, [], [])] (by kernel_rfl) ?_)) <;> simp [-List.map_take, -List.map_drop, -List.map_tail, run_guard, run_guardD, resultsA, resA, Nat.add_assoc, twgC, i64_ok (x := (l.length : Int) - 1) (by omega)])
          | ((first | (with_reducible refine guardD_split ?_ ?_) | (with_reducible refine guardS_split ?_ ?_) | (with_reducible refine condS_split ?_ ?_)) <;> intro qb <;> (have qp := qb; try simp only [psq] at qp) <;> simp [-List.map_take, -List.map_drop, -List.map_tail, run_guard, run_guardD, resultsA, resA, Nat.add_assoc, twgC, i64_ok (x := (l.length : Int) - 1) (by omega), qb])
        all_goals (clear ih i1 i2 hnx; simp_all)
      | some a =>
        rw [ha] at i1
        cases hb : rk (l.drop ((gt l 0).lefts.toNat + 1)) with
        | none =>
          rw [hb] at i2
          refine PC.of okC Tryz.func345 rfl rfl (by kernel_rfl) (Nat.le_of_ble_eq_true rfl) (.bool _) fun h nx hnx => ?_
          show goC ctx _ _ (.fin (RetP _ _ _ _ _))
          try simp [-List.map_take, -List.map_drop, -List.map_tail, run_guard, run_guardD, resultsA, resA, Nat.add_assoc, twgC, i64_ok (x := (l.length : Int) - 1) (by omega)]
          repeat'
            first
            | done
            | ((first
                | ((with_reducible show lenS _ _ _ _ _ _); refine lenS_slice rfl fun _ => ?_)
                | ((with_reducible show iaddrS _ _ _ _ _ _ _); refine iaddr_map rfl (by first | omega | (simp; done) | (simp; omega) | (simp [inR, isIn] at *; done) | (simp [inR, isIn] at *; omega)) (by first | omega | (simp; done) | (simp; omega) | (simp [inR, isIn] at *; done) | (simp [inR, isIn] at *; omega)) ?_)
                | ((with_reducible show doCall _ _ _ 376 _ _); refine call_pc (c_size_Twig) ?_)
                | ((with_reducible show doCall _ _ _ 165 _ _); refine call_pc (c_within) ?_)
                | ((with_reducible show doCall _ _ _ 370 _ _); refine call_pc (c_parts hp (by omega) (by omega)) ?_)
                | (refine call_pc (i1) ?_)
                | (refine call_pc (i2) ?_)
                | (with_reducible refine go_draw (i := 3) [(0, [], []), (1, [], []), (2, [], []), (3, [], []), (4, [], []), (5, [.tmp 10], []), (6, [], []), (7, [], []), (8, [], [])] (by kernel_rfl) ?_)
                | (with_reducible refine go_draw (i := 8) [(0, [], []), (1, [], []), (2, [], []), (3, [], []), (4, [], []), (5, [], []), (6, [], []), (7, [], []), (8, [], []), (9, [], []), (10, [], []), (11, [], []), (12, [], []), (13, [], []), (14, [], []), (15, [], []), (16, [], []), (17, [], []), (18, [], []), (19, [], []), (20, [], []), (21, [], []), (22, [], []), (23, [], []), (24, [], []), (25, [], []), (26, [], []), (27, [], []), (28, [], [])] (by kernel_rfl) ?_)) <;> simp [-List.map_take, -List.map_drop, -List.map_tail, run_guard, run_guardD, resultsA, resA, Nat.add_assoc, twgC, i64_ok (x := (l.length : Int) - 1) (by omega)])
            | ((first | (with_reducible refine guardD_split ?_ ?_) | (with_reducible refine guardS_split ?_ ?_) | (with_reducible refine condS_split ?_ ?_)) <;> intro qb <;> (have qp := qb; try simp only [psq] at qp) <;> simp [-List.map_take, -List.map_drop, -List.map_tail, run_guard, run_guardD, resultsA, resA, Nat.add_assoc, twgC, i64_ok (x := (l.length : Int) - 1) (by omega), qb])
          all_goals (clear ih i1 i2 hnx; simp_all)
        | some b =>
          rw [hb] at i2
          simp only [head_all]
          refine PC.of okC Tryz.func345 rfl rfl (by kernel_rfl) (Nat.le_of_ble_eq_true rfl) (.bool _) fun h nx hnx => ?_
          show goC ctx _ _ (.fin (RetP _ _ _ _ _))
          try simp [-List.map_take, -List.map_drop, -List.map_tail, run_guard, run_guardD, resultsA, resA, Nat.add_assoc, twgC, i64_ok (x := (l.length : Int) - 1) (by omega)]
          repeat'
            first
            | done
            | ((first
                | ((with_reducible show lenS _ _ _ _ _ _); refine lenS_slice rfl fun _ => ?_)
                | ((with_reducible show iaddrS _ _ _ _ _ _ _); refine iaddr_map rfl (by first | omega | (simp; done) | (simp; omega) | (simp [inR, isIn] at *; done) | (simp [inR, isIn] at *; omega)) (by first | omega | (simp; done) | (simp; omega) | (simp [inR, isIn] at *; done) | (simp [inR, isIn] at *; omega)) ?_)
                | ((with_reducible show doCall _ _ _ 376 _ _); refine call_pc (c_size_Twig) ?_)
                | ((with_reducible show doCall _ _ _ 165 _ _); refine call_pc (c_within) ?_)
                | ((with_reducible show doCall _ _ _ 370 _ _); refine call_pc (c_parts hp (by omega) (by omega)) ?_)
                | (refine call_pc (i1) ?_)
                | (refine call_pc (i2) ?_)
                | ((with_reducible show doCall _ _ _ 377 _ _); refine call_pc (c_rank ha) ?_)
                | ((with_reducible show doCall _ _ _ 377 _ _); refine call_pc (c_rank hb) ?_)
                | ((with_reducible show doCall _ _ _ 372 _ _); refine call_pc (c_compare (a := gt l 0)) ?_)
                | (with_reducible refine go_draw (i := 3) [(0, [], []), (1, [], []), (2, [], []), (3, [], []), (4, [], []), (5, [.tmp 10], []), (6, [], []), (7, [], []), (8, [], [])] (by kernel_rfl) ?_)
                | (with_reducible refine go_draw (i := 8) [(0, [], []), (1, [], []), (2, [], []), (3, [], []), (4, [], []), (5, [], []), (6, [], []), (7, [], []), (8, [], []), (9, [], []), (10, [], []), (11, [], []), (12, [], []), (13, [], []), (14, [], []), (15, [], []), (16, [], []), (17, [], []), (18, [], []), (19, [], []), (20, [], []), (21, [], []), (22, [], []), (23, [], []), (24, [], []), (25, [], []), (26, [], []), (27, [], []), (28, [], [])] (by kernel_rfl) ?_)) <;> simp [-List.map_take, -List.map_drop, -List.map_tail, run_guard, run_guardD, resultsA, resA, Nat.add_assoc, twgC, i64_ok (x := (l.length : Int) - 1) (by omega)])
            | ((first | (with_reducible refine guardD_split ?_ ?_) | (with_reducible refine guardS_split ?_ ?_) | (with_reducible refine condS_split ?_ ?_)) <;> intro qb <;> (have qp := qb; try simp only [psq] at qp) <;> simp [-List.map_take, -List.map_drop, -List.map_tail, run_guard, run_guardD, resultsA, resA, Nat.add_assoc, twgC, i64_ok (x := (l.length : Int) - 1) (by omega), qb])
          all_goals clear ih i1 i2 hnx
          all_goals first | (simp_all; done) | (simp_all; omega) | grind | trace_state
    · obtain rfl : l = [] := by cases l <;> simp at hp ⊢
      refine PC.of okC Tryz.func345 rfl rfl (by kernel_rfl) (Nat.le_of_ble_eq_true rfl) (.bool _) fun h nx hnx => ?_
      show goC ctx _ _ (.fin (RetP _ _ _ _ _))
      try simp [-List.map_take, -List.map_drop, -List.map_tail, run_guard, run_guardD, resultsA, resA, Nat.add_assoc, rk_nil]
      repeat'
        first
        | done
        | ((first
            | ((with_reducible show lenS _ _ _ _ _ _); refine lenS_slice rfl fun _ => ?_)
            | ((with_reducible show iaddrS _ _ _ _ _ _ _); refine iaddr_map rfl (by first | omega | (simp; done) | (simp; omega) | (simp [inR, isIn] at *; done) | (simp [inR, isIn] at *; omega)) (by first | omega | (simp; done) | (simp; omega) | (simp [inR, isIn] at *; done) | (simp [inR, isIn] at *; omega)) ?_)
            | (with_reducible refine go_draw (i := 3) [(0, [], []), (1, [], []), (2, [], []), (3, [], []), (4, [], []), (5, [.tmp 10], []), (6, [], []), (7, [], []), (8, [], [])] (by kernel_rfl) ?_)
            | (with_reducible refine go_draw (i := 8) [(0, [], []), (1, [], []), (2, [], []), (3, [], []), (4, [], []), (5, [], []), (6, [], []), (7, [], []), (8, [], []), (9, [], []), (10, [], []), (11, [], []), (12, [], []), (13, [], []), (14, [], []), (15, [], []), (16, [], []), (17, [], []), (18, [], []), (19, [], []), (20, [], []), (21, [], []), (22, [], []), (23, [], []), (24, [], []), (25, [], []), (26, [], []), (27, [], []), (28, [], [])] (by kernel_rfl) ?_)) <;> simp [-List.map_take, -List.map_drop, -List.map_tail, run_guard, run_guardD, resultsA, resA, Nat.add_assoc, rk_nil])
        | ((first | (with_reducible refine guardD_split ?_ ?_) | (with_reducible refine guardS_split ?_ ?_) | (with_reducible refine condS_split ?_ ?_)) <;> intro qb <;> (have qp := qb; try simp only [psq] at qp) <;> simp [-List.map_take, -List.map_drop, -List.map_tail, run_guard, run_guardD, resultsA, resA, Nat.add_assoc, rk_nil, qb])
theorem c_isHeap {p : Bool} {l : List Twg} : PC ctx.P 345 [.view p 3 (l.map twgC)] (.bool (rk l).isSome) := c_isHeapN _ _ (Nat.le_refl _)
-- impl.HeapOk
theorem c_HeapOk {p : Bool} {l : List Twg} : PC ctx.P 270 [.view p 3 (l.map twgC)] (.bool (heapOk l)) := by
  refine PC.lim (n := l.length) (x := .view p 3 (l.map twgC)) (by simp) (.here (by simp)) ⟨_, Tryz.func270, by kernel_rfl, by kernel_rfl⟩ fun hlim => ?_
  refine PC.of okC Tryz.func270 rfl rfl (by kernel_rfl) (Nat.le_of_ble_eq_true rfl) (.bool _) fun h nx hnx => ?_
  show goC ctx _ _ (.fin (RetP _ _ _ _ _))
  try simp [-List.map_take, -List.map_drop, -List.map_tail, run_guard, run_guardD, resultsA, resA, Nat.add_assoc]
  repeat'
    first
    | done
    | ((first
        | ((with_reducible show lenS _ _ _ _ _ _); refine lenS_slice rfl fun _ => ?_)
        | ((with_reducible show iaddrS _ _ _ _ _ _ _); refine iaddr_map rfl (by first | omega | (simp; done) | (simp; omega) | (simp [inR, isIn] at *; done) | (simp [inR, isIn] at *; omega)) (by first | omega | (simp; done) | (simp; omega) | (simp [inR, isIn] at *; done) | (simp [inR, isIn] at *; omega)) ?_)
        | ((with_reducible show sliceS _ _ _ _ _ _ _ _); refine slice_to rfl (by first | omega | (simp; done) | (simp; omega) | (simp [inR, isIn] at *; done) | (simp [inR, isIn] at *; omega)) (by first | omega | (simp; done) | (simp; omega) | (simp [inR, isIn] at *; done) | (simp [inR, isIn] at *; omega)) ?_)
        | ((with_reducible show sliceS _ _ _ _ _ _ _ _); refine slice_from rfl (by first | omega | (simp; done) | (simp; omega) | (simp [inR, isIn] at *; done) | (simp [inR, isIn] at *; omega)) (by first | omega | (simp; done) | (simp; omega) | (simp [inR, isIn] at *; done) | (simp [inR, isIn] at *; omega)) ?_)
        | ((with_reducible show sliceS _ _ _ _ _ _ _ _); refine slice_mid rfl (by first | omega | (simp; done) | (simp; omega) | (simp [inR, isIn] at *; done) | (simp [inR, isIn] at *; omega)) (by first | omega | (simp; done) | (simp; omega) | (simp [inR, isIn] at *; done) | (simp [inR, isIn] at *; omega)) (by first | omega | (simp; done) | (simp; omega) | (simp [inR, isIn] at *; done) | (simp [inR, isIn] at *; omega)) ?_)
        | ((with_reducible show sliceI _ _ _ _ _ _ _ _ _ _ _); refine sliceI_to rfl (by first | omega | (simp; done) | (simp; omega) | (simp [inR, isIn] at *; done) | (simp [inR, isIn] at *; omega)) (by first | omega | (simp; done) | (simp; omega) | (simp [inR, isIn] at *; done) | (simp [inR, isIn] at *; omega)) ?_)
        | ((with_reducible show sliceI _ _ _ _ _ _ _ _ _ _ _); refine sliceI_from rfl (by first | omega | (simp; done) | (simp; omega) | (simp [inR, isIn] at *; done) | (simp [inR, isIn] at *; omega)) (by first | omega | (simp; done) | (simp; omega) | (simp [inR, isIn] at *; done) | (simp [inR, isIn] at *; omega)) ?_)
        | ((with_reducible show sliceI _ _ _ _ _ _ _ _ _ _ _); refine sliceI_mid rfl (by first | omega | (simp; done) | (simp; omega) | (simp [inR, isIn] at *; done) | (simp [inR, isIn] at *; omega)) (by first | omega | (simp; done) | (simp; omega) | (simp [inR, isIn] at *; done) | (simp [inR, isIn] at *; omega)) (by first | omega | (simp; done) | (simp; omega) | (simp [inR, isIn] at *; done) | (simp [inR, isIn] at *; omega)) ?_)
        | (with_reducible refine go_draw (i := 6) [(0, [], []), (1, [], []), (2, [], []), (3, [], []), (4, [], []), (5, [], []), (6, [], [])] (by kernel_rfl) ?_)) <;> simp [-List.map_take, -List.map_drop, -List.map_tail, run_guard, run_guardD, resultsA, resA, Nat.add_assoc])
    | ((first | (with_reducible refine condS_split ?_ ?_)) <;> intro qb <;> (have qp := qb; try simp only [psq] at qp) <;> simp [-List.map_take, -List.map_drop, -List.map_tail, run_guard, run_guardD, resultsA, resA, Nat.add_assoc, qb])
  · all_goals (try clear hnx)
    all_goals first | (simp_all [heapOk]; done) | (simp_all [heapOk]; omega) | (rw [Bool.eq_iff_iff]; simp_all [heapOk]; done) | (rw [Bool.eq_iff_iff]; simp_all [heapOk]; omega) | omega | (simp only [heapOk]; grind) | grind
  · refine go_upP [2, 3, 4, 10, 11, 12, 13, 14, 15, 16, 17, 18, 19, 20, 21, 22] (l.length) (fun (i : Nat) a => [(10, .int .i64 i)]) (fun i_ a_ h_ _ => (fun i (_ : Unit) _ => allI (fun i x => !(decide (0 ≤ seqAt (l.take i.toNat) x.seq))) (l.drop i) i = allI (fun i x => !(decide (0 ≤ seqAt (l.take i.toNat) x.seq))) l 0) i_ a_ h_) (()) (by simp) ?_ keep_rfl (Nat.le_refl _) ?_
    · simp
    · intro i a tm h' n' hle hJ hE hn' next hnx
      try dsimp only at hJ
      have hK : KeepB nx h' h := KeepB.sub hE (by repeat' first | exact hE2 | exact hK2 | exact hE | exact hK | exact keep_rfl | refine keep_upd_of (by omega) ?_ | refine KeepB.sub hE2 ?_ (by omega)) (by omega)
      simp [-List.map_take, -List.map_drop, -List.map_tail]
      try simp [-List.map_take, -List.map_drop, -List.map_tail, run_guard, run_guardD, resultsA, resA, Nat.add_assoc, twgC]
      repeat'
        first
        | done
        | ((first
            | ((with_reducible show lenS _ _ _ _ _ _); refine lenS_slice rfl fun _ => ?_)
            | ((with_reducible show iaddrS _ _ _ _ _ _ _); refine iaddr_map rfl (by first | omega | (simp; done) | (simp; omega) | (simp [inR, isIn] at *; done) | (simp [inR, isIn] at *; omega)) (by first | omega | (simp; done) | (simp; omega) | (simp [inR, isIn] at *; done) | (simp [inR, isIn] at *; omega)) ?_)
            | ((with_reducible show sliceS _ _ _ _ _ _ _ _); refine slice_to rfl (by first | omega | (simp; done) | (simp; omega) | (simp [inR, isIn] at *; done) | (simp [inR, isIn] at *; omega)) (by first | omega | (simp; done) | (simp; omega) | (simp [inR, isIn] at *; done) | (simp [inR, isIn] at *; omega)) ?_)
            | ((with_reducible show sliceS _ _ _ _ _ _ _ _); refine slice_from rfl (by first | omega | (simp; done) | (simp; omega) | (simp [inR, isIn] at *; done) | (simp [inR, isIn] at *; omega)) (by first | omega | (simp; done) | (simp; omega) | (simp [inR, isIn] at *; done) | (simp [inR, isIn] at *; omega)) ?_)
            | ((with_reducible show sliceS _ _ _ _ _ _ _ _); refine slice_mid rfl (by first | omega | (simp; done) | (simp; omega) | (simp [inR, isIn] at *; done) | (simp [inR, isIn] at *; omega)) (by first | omega | (simp; done) | (simp; omega) | (simp [inR, isIn] at *; done) | (simp [inR, isIn] at *; omega)) (by first | omega | (simp; done) | (simp; omega) | (simp [inR, isIn] at *; done) | (simp [inR, isIn] at *; omega)) ?_)
            | ((with_reducible show sliceI _ _ _ _ _ _ _ _ _ _ _); refine sliceI_to rfl (by first | omega | (simp; done) | (simp; omega) | (simp [inR, isIn] at *; done) | (simp [inR, isIn] at *; omega)) (by first | omega | (simp; done) | (simp; omega) | (simp [inR, isIn] at *; done) | (simp [inR, isIn] at *; omega)) ?_)
            | ((with_reducible show sliceI _ _ _ _ _ _ _ _ _ _ _); refine sliceI_from rfl (by first | omega | (simp; done) | (simp; omega) | (simp [inR, isIn] at *; done) | (simp [inR, isIn] at *; omega)) (by first | omega | (simp; done) | (simp; omega) | (simp [inR, isIn] at *; done) | (simp [inR, isIn] at *; omega)) ?_)
            | ((with_reducible show sliceI _ _ _ _ _ _ _ _ _ _ _); refine sliceI_mid rfl (by first | omega | (simp; done) | (simp; omega) | (simp [inR, isIn] at *; done) | (simp [inR, isIn] at *; omega)) (by first | omega | (simp; done) | (simp; omega) | (simp [inR, isIn] at *; done) | (simp [inR, isIn] at *; omega)) (by first | omega | (simp; done) | (simp; omega) | (simp [inR, isIn] at *; done) | (simp [inR, isIn] at *; omega)) ?_)
            | ((with_reducible show doCall _ _ _ 344 _ _); refine call_pc (c_seqAt) ?_)
            | ((with_reducible show doCall _ _ _ 345 _ _); refine call_pc (c_isHeap) ?_)
            | (with_reducible refine go_draw (i := 6) [(0, [], []), (1, [], []), (2, [], []), (3, [], []), (4, [], []), (5, [], []), (6, [], [])] (by kernel_rfl) ?_)) <;> simp [-List.map_take, -List.map_drop, -List.map_tail, run_guard, run_guardD, resultsA, resA, Nat.add_assoc, twgC])
        | ((first | (with_reducible refine condS_split ?_ ?_)) <;> intro qb <;> (have qp := qb; try simp only [psq] at qp) <;> simp [-List.map_take, -List.map_drop, -List.map_tail, run_guard, run_guardD, resultsA, resA, Nat.add_assoc, twgC, qb])
      all_goals
        first
        | (have hlt : i < l.length := (by first | omega | (simp at *; omega))
           rw [drop_gt hlt] at hJ
           first
           | (refine hnx.go (()) ?_ ?_ ?_ ?_ ?_ ?_; omega; (simp [wrap_succ hlt hlim]); (simp); exact (by repeat' first | exact hE2 | exact hK2 | exact hE | exact hK | exact keep_rfl | refine keep_upd_of (by omega) ?_ | refine KeepB.sub hE2 ?_ (by omega)); (first | omega | (simp; omega)); (try dsimp only); clear hnx; first | ((try simp only [List.drop_length, Int.toNat_natCast, allI, heapOk] at hJ ⊢); grind) | (simp_all [allI, heapOk]; done) | (simp_all; omega))
           | (refine ⟨?_, (by repeat' first | exact hE2 | exact hK2 | exact hE | exact hK | exact keep_rfl | refine keep_upd_of (by omega) ?_ | refine KeepB.sub hE2 ?_ (by omega))⟩; clear hnx; first | ((try simp only [List.drop_length, Int.toNat_natCast, allI, heapOk] at hJ ⊢); grind) | (simp_all [allI, heapOk]; done) | (simp_all; omega)))
        | (obtain rfl : i = l.length := (by first | omega | (simp at *; omega))
           refine ⟨?_, (by repeat' first | exact hE2 | exact hK2 | exact hE | exact hK | exact keep_rfl | refine keep_upd_of (by omega) ?_ | refine KeepB.sub hE2 ?_ (by omega))⟩; clear hnx; first | ((try simp only [List.drop_length, Int.toNat_natCast, allI, heapOk] at hJ ⊢); grind) | (simp_all [allI, heapOk]; done) | (simp_all; omega))

/-! ### trees -/
-- (impl.Node).isNode
theorem c_isNode {n : Nod} {i : Int} (h0 : 0 ≤ i) (h1 : i ≤ LIM) : PC ctx.P 245 [.agg (nodC n), .int .i64 i] (.bool (isNode n i)) := by
  simp only [LIM] at h1
  refine PC.of okC Tryz.func245 rfl rfl (by kernel_rfl) (Nat.le_of_ble_eq_true rfl) (.bool _) fun h nx hnx => ?_
  show goC ctx _ _ (.fin (RetP _ _ _ _ _))
  try simp [-List.map_take, -List.map_drop, -List.map_tail, run_guard, run_guardD, resultsA, resA, Nat.add_assoc, nodC, i64_ok (x := i) (by omega), i64_ok (x := i - 1) (by omega)]
  repeat'
    first
    | done
    | ((first
        | ((with_reducible show doCall _ _ _ 165 _ _); refine call_pc (c_within) ?_)) <;> simp [-List.map_take, -List.map_drop, -List.map_tail, run_guard, run_guardD, resultsA, resA, Nat.add_assoc, nodC, i64_ok (x := i) (by omega), i64_ok (x := i - 1) (by omega)])
    | ((first | (with_reducible refine guardS_split ?_ ?_) | (with_reducible refine condS_split ?_ ?_)) <;> intro qb <;> (have qp := qb; try simp only [psq] at qp) <;> simp [-List.map_take, -List.map_drop, -List.map_tail, run_guard, run_guardD, resultsA, resA, Nat.add_assoc, nodC, i64_ok (x := i) (by omega), i64_ok (x := i - 1) (by omega), qb])
  all_goals (try clear hnx)
  all_goals first | (simp_all [isNode, never]; done) | (simp_all [isNode, never]; omega) | (rw [Bool.eq_iff_iff]; simp_all [isNode, never]; done) | (rw [Bool.eq_iff_iff]; simp_all [isNode, never]; omega) | omega | (simp only [isNode, never]; grind) | grind
-- impl.TreeOk
theorem c_TreeOk {p : Bool} {t : List Nod} : PC ctx.P 266 [.view p 5 (t.map nodC)] (.bool (treeOk t)) := by
  refine PC.lim (n := t.length) (x := .view p 5 (t.map nodC)) (by simp) (.here (by simp)) ⟨_, Tryz.func266, by kernel_rfl, by kernel_rfl⟩ fun hlim => ?_
  refine PC.of okC Tryz.func266 rfl rfl (by kernel_rfl) (Nat.le_of_ble_eq_true rfl) (.bool _) fun h nx hnx => ?_
  show goC ctx _ _ (.fin (RetP _ _ _ _ _))
  try simp [-List.map_take, -List.map_drop, -List.map_tail, run_guard, run_guardD, resultsA, resA, Nat.add_assoc]
  repeat'
    first
    | done
    | ((first
        | ((with_reducible show lenS _ _ _ _ _ _); refine lenS_slice rfl fun _ => ?_)
        | ((with_reducible show iaddrS _ _ _ _ _ _ _); refine iaddr_map rfl (by first | omega | (simp; done) | (simp; omega) | (simp [inR, isIn] at *; done) | (simp [inR, isIn] at *; omega)) (by first | omega | (simp; done) | (simp; omega) | (simp [inR, isIn] at *; done) | (simp [inR, isIn] at *; omega)) ?_)) <;> simp [-List.map_take, -List.map_drop, -List.map_tail, run_guard, run_guardD, resultsA, resA, Nat.add_assoc])
    | ((first | (with_reducible refine guardS_split ?_ ?_) | (with_reducible refine condS_split ?_ ?_)) <;> intro qb <;> (have qp := qb; try simp only [psq] at qp) <;> simp [-List.map_take, -List.map_drop, -List.map_tail, run_guard, run_guardD, resultsA, resA, Nat.add_assoc, qb])
  refine go_upP [2, 3, 4, 7, 8, 9, 10, 11, 12, 13, 14, 15, 16, 17, 18, 19, 20] (t.length) (fun (i : Nat) a => [(7, .int .i64 i)]) (fun i_ a_ h_ _ => (fun i (_ : Unit) _ => allI (fun i n => i != 60 && isNode n i) (t.drop i) i = treeOk t) i_ a_ h_) (()) (by simp) ?_ keep_rfl (Nat.le_refl _) ?_
  · simp [treeOk]
  · intro i a tm h' n' hle hJ hE hn' next hnx
    try dsimp only at hJ
    have hK : KeepB nx h' h := KeepB.sub hE (by repeat' first | exact hE2 | exact hK2 | exact hE | exact hK | exact keep_rfl | refine keep_upd_of (by omega) ?_ | refine KeepB.sub hE2 ?_ (by omega)) (by omega)
    simp [-List.map_take, -List.map_drop, -List.map_tail]
    try simp [-List.map_take, -List.map_drop, -List.map_tail, run_guard, run_guardD, resultsA, resA, Nat.add_assoc]
    repeat'
      first
      | done
      | ((first
          | ((with_reducible show lenS _ _ _ _ _ _); refine lenS_slice rfl fun _ => ?_)
          | ((with_reducible show iaddrS _ _ _ _ _ _ _); refine iaddr_map rfl (by first | omega | (simp; done) | (simp; omega) | (simp [inR, isIn] at *; done) | (simp [inR, isIn] at *; omega)) (by first | omega | (simp; done) | (simp; omega) | (simp [inR, isIn] at *; done) | (simp [inR, isIn] at *; omega)) ?_)
          | ((with_reducible show doCall _ _ _ 245 _ _); refine call_pc (c_isNode (by omega) (by omega)) ?_)) <;> simp [-List.map_take, -List.map_drop, -List.map_tail, run_guard, run_guardD, resultsA, resA, Nat.add_assoc])
      | ((first | (with_reducible refine guardS_split ?_ ?_) | (with_reducible refine condS_split ?_ ?_)) <;> intro qb <;> (have qp := qb; try simp only [psq] at qp) <;> simp [-List.map_take, -List.map_drop, -List.map_tail, run_guard, run_guardD, resultsA, resA, Nat.add_assoc, qb])
    all_goals
      first
      | (have hlt : i < t.length := (by first | omega | (simp at *; omega))
         rw [drop_gt hlt] at hJ
         first
         | (refine hnx.go (()) ?_ ?_ ?_ ?_ ?_ ?_; omega; (simp [wrap_succ hlt hlim]); (simp); exact (by repeat' first | exact hE2 | exact hK2 | exact hE | exact hK | exact keep_rfl | refine keep_upd_of (by omega) ?_ | refine KeepB.sub hE2 ?_ (by omega)); (first | omega | (simp; omega)); (try dsimp only); clear hnx; first | ((try simp only [List.drop_length, Int.toNat_natCast, allI] at hJ ⊢); grind) | (simp_all [allI]; done) | (simp_all; omega))
         | (refine ⟨?_, (by repeat' first | exact hE2 | exact hK2 | exact hE | exact hK | exact keep_rfl | refine keep_upd_of (by omega) ?_ | refine KeepB.sub hE2 ?_ (by omega))⟩; clear hnx; first | ((try simp only [List.drop_length, Int.toNat_natCast, allI] at hJ ⊢); grind) | (simp_all [allI]; done) | (simp_all; omega)))
      | (obtain rfl : i = t.length := (by first | omega | (simp at *; omega))
         refine ⟨?_, (by repeat' first | exact hE2 | exact hK2 | exact hE | exact hK | exact keep_rfl | refine keep_upd_of (by omega) ?_ | refine KeepB.sub hE2 ?_ (by omega))⟩; clear hnx; first | ((try simp only [List.drop_length, Int.toNat_natCast, allI] at hJ ⊢); grind) | (simp_all [allI]; done) | (simp_all; omega))
-- slices.Index[[]int64,int64]
theorem c_Index {p : Bool} {xs : List Int} {n : Int} : PC ctx.P 201 [.view p 1 (xs.map iv), .int .i64 n] (.int .i64 (idxI (fun x => n == x) xs 0)) := by
  refine PC.lim (n := xs.length) (x := .view p 1 (xs.map iv)) (by simp) (.here (by simp)) ⟨_, Tryz.func201, by kernel_rfl, by kernel_rfl⟩ fun hlim => ?_
  refine PC.of okC Tryz.func201 rfl rfl (by kernel_rfl) (Nat.le_of_ble_eq_true rfl) (.int _ _) fun h nx hnx => ?_
  show goC ctx _ _ (.fin (RetP _ _ _ _ _))
  try simp [-List.map_take, -List.map_drop, -List.map_tail, run_guard, run_guardD, resultsA, resA, Nat.add_assoc]
  repeat'
    first
    | done
    | ((first
        | ((with_reducible show lenS _ _ _ _ _ _); refine lenS_slice rfl fun _ => ?_)
        | ((with_reducible show iaddrS _ _ _ _ _ _ _); refine iaddr_map rfl (by first | omega | (simp; done) | (simp; omega) | (simp [inR, isIn] at *; done) | (simp [inR, isIn] at *; omega)) (by first | omega | (simp; done) | (simp; omega) | (simp [inR, isIn] at *; done) | (simp [inR, isIn] at *; omega)) ?_)) <;> simp [-List.map_take, -List.map_drop, -List.map_tail, run_guard, run_guardD, resultsA, resA, Nat.add_assoc])
    | ((first | (with_reducible refine condS_split ?_ ?_)) <;> intro qb <;> (have qp := qb; try simp only [psq] at qp) <;> simp [-List.map_take, -List.map_drop, -List.map_tail, run_guard, run_guardD, resultsA, resA, Nat.add_assoc, qb])
  refine go_upP [4, 5, 8, 9, 10, 11, 12, 13, 14, 15, 16, 17, 18] (xs.length) (fun (i : Nat) a => [(8, .int .i64 i)]) (fun i_ a_ h_ _ => (fun i (_ : Unit) _ => idxI (fun x => n == x) (xs.drop i) i = idxI (fun x => n == x) xs 0) i_ a_ h_) (()) (by simp) ?_ keep_rfl (Nat.le_refl _) ?_
  · simp
  · intro i a tm h' n' hle hJ hE hn' next hnx
    try dsimp only at hJ
    have hK : KeepB nx h' h := KeepB.sub hE (by repeat' first | exact hE2 | exact hK2 | exact hE | exact hK | exact keep_rfl | refine keep_upd_of (by omega) ?_ | refine KeepB.sub hE2 ?_ (by omega)) (by omega)
    simp [-List.map_take, -List.map_drop, -List.map_tail]
    try simp [-List.map_take, -List.map_drop, -List.map_tail, run_guard, run_guardD, resultsA, resA, Nat.add_assoc, iv]
    repeat'
      first
      | done
      | ((first
          | ((with_reducible show lenS _ _ _ _ _ _); refine lenS_slice rfl fun _ => ?_)
          | ((with_reducible show iaddrS _ _ _ _ _ _ _); refine iaddr_map rfl (by first | omega | (simp; done) | (simp; omega) | (simp [inR, isIn] at *; done) | (simp [inR, isIn] at *; omega)) (by first | omega | (simp; done) | (simp; omega) | (simp [inR, isIn] at *; done) | (simp [inR, isIn] at *; omega)) ?_)) <;> simp [-List.map_take, -List.map_drop, -List.map_tail, run_guard, run_guardD, resultsA, resA, Nat.add_assoc, iv])
      | ((first | (with_reducible refine condS_split ?_ ?_)) <;> intro qb <;> (have qp := qb; try simp only [psq] at qp) <;> simp [-List.map_take, -List.map_drop, -List.map_tail, run_guard, run_guardD, resultsA, resA, Nat.add_assoc, iv, qb])
    all_goals
      first
      | (have hlt : i < xs.length := (by first | omega | (simp at *; omega))
         rw [drop_gt hlt] at hJ
         first
         | (refine hnx.go (()) ?_ ?_ ?_ ?_ ?_ ?_; omega; (simp [wrap_succ hlt hlim]); (simp); exact (by repeat' first | exact hE2 | exact hK2 | exact hE | exact hK | exact keep_rfl | refine keep_upd_of (by omega) ?_ | refine KeepB.sub hE2 ?_ (by omega)); (first | omega | (simp; omega)); (try dsimp only); clear hnx; first | ((try simp only [List.drop_length, Int.toNat_natCast, idxI] at hJ ⊢); grind) | (simp_all [idxI]; done) | (simp_all; omega))
         | (refine ⟨?_, (by repeat' first | exact hE2 | exact hK2 | exact hE | exact hK | exact keep_rfl | refine keep_upd_of (by omega) ?_ | refine KeepB.sub hE2 ?_ (by omega))⟩; clear hnx; first | ((try simp only [List.drop_length, Int.toNat_natCast, idxI] at hJ ⊢); grind) | (simp_all [idxI]; done) | (simp_all; omega)))
      | (obtain rfl : i = xs.length := (by first | omega | (simp at *; omega))
         refine ⟨?_, (by repeat' first | exact hE2 | exact hK2 | exact hE | exact hK | exact keep_rfl | refine keep_upd_of (by omega) ?_ | refine KeepB.sub hE2 ?_ (by omega))⟩; clear hnx; first | ((try simp only [List.drop_length, Int.toNat_natCast, idxI] at hJ ⊢); grind) | (simp_all [idxI]; done) | (simp_all; omega))
-- slices.Contains[[]int64,int64]
theorem c_Contains {p : Bool} {xs : List Int} {n : Int} : PC ctx.P 88 [.view p 1 (xs.map iv), .int .i64 n] (.bool (xs.contains n)) := by
  have e : decide (0 ≤ idxI (fun x => n == x) xs 0) = xs.contains n := by rw [idxI_any _ _ 0 (Int.le_refl 0), any_contains]
  refine PC.of okC Tryz.func88 rfl rfl (by kernel_rfl) (Nat.le_of_ble_eq_true rfl) (.bool _) fun h nx hnx => ?_
  show goC ctx _ _ (.fin (RetP _ _ _ _ _))
  try simp [-List.map_take, -List.map_drop, -List.map_tail, run_guard, run_guardD, resultsA, resA, Nat.add_assoc, e]
  repeat'
    first
    | done
    | ((first
        | ((with_reducible show doCall _ _ _ 201 _ _); refine call_pc (c_Index) ?_)) <;> simp [-List.map_take, -List.map_drop, -List.map_tail, run_guard, run_guardD, resultsA, resA, Nat.add_assoc, e])
-- (impl.Event).isEvent
theorem c_isEvent {p : Bool} {t : List Nod} {e : Evt} : PC ctx.P 342 [.agg (evtC e), .view p 5 (t.map nodC)] (.bool (isEvent t e)) := by
  refine PC.of okC Tryz.func342 rfl rfl (by kernel_rfl) (Nat.le_of_ble_eq_true rfl) (.bool _) fun h nx hnx => ?_
  show goC ctx _ _ (.fin (RetP _ _ _ _ _))
  try simp [-List.map_take, -List.map_drop, -List.map_tail, run_guard, run_guardD, resultsA, resA, Nat.add_assoc, evtC, nodC]
  repeat'
    first
    | done
    | ((first
        | ((with_reducible show iaddrS _ _ _ _ _ _ _); refine iaddr_map rfl (by first | omega | (simp; done) | (simp; omega) | (simp [inR, isIn] at *; done) | (simp [inR, isIn] at *; omega)) (by first | omega | (simp; done) | (simp; omega) | (simp [inR, isIn] at *; done) | (simp [inR, isIn] at *; omega)) ?_)
        | ((with_reducible show doCall _ _ _ 172 _ _); refine call_pc (c_isIn_Node) ?_)
        | ((with_reducible show doCall _ _ _ 165 _ _); refine call_pc (c_within) ?_)
        | ((with_reducible show doCall _ _ _ 84 _ _); refine call_pc (c_IsDue) ?_)
        | (with_reducible refine go_draw (i := 8) [(0, [], []), (1, [], []), (2, [], []), (3, [], []), (4, [], []), (5, [], []), (6, [], []), (7, [], []), (8, [], []), (9, [], []), (10, [], []), (11, [], []), (12, [], []), (13, [], []), (14, [], []), (15, [], []), (16, [], []), (17, [], []), (18, [], [])] (by kernel_rfl) ?_)) <;> simp [-List.map_take, -List.map_drop, -List.map_tail, run_guard, run_guardD, resultsA, resA, Nat.add_assoc, evtC, nodC])
    | ((first | (with_reducible refine guardD_split ?_ ?_) | (with_reducible refine guardS_split ?_ ?_) | (with_reducible refine condS_split ?_ ?_)) <;> intro qb <;> (have qp := qb; try simp only [psq] at qp) <;> simp [-List.map_take, -List.map_drop, -List.map_tail, run_guard, run_guardD, resultsA, resA, Nat.add_assoc, evtC, nodC, qb])
  all_goals (try clear hnx)
  all_goals first | (simp_all [isEvent]; done) | (simp_all [isEvent]; omega) | (rw [Bool.eq_iff_iff]; simp_all [isEvent]; done) | (rw [Bool.eq_iff_iff]; simp_all [isEvent]; omega) | omega | (simp only [isEvent]; grind) | grind
-- (impl.Spread).isSpread$1
theorem c_isSpread1 {p : Bool} {t : List Nod} {n : Int} : PC ctx.P 269 [.int .i64 n, .vptr [.view p 5 (t.map nodC)]] (.bool (!isIn n t)) := by
  refine PC.of okC Tryz.func269 rfl rfl (by kernel_rfl) (Nat.le_of_ble_eq_true rfl) (.bool _) fun h nx hnx => ?_
  show goC ctx _ _ (.fin (RetP _ _ _ _ _))
  try simp [-List.map_take, -List.map_drop, -List.map_tail, run_guard, run_guardD, resultsA, resA, Nat.add_assoc]
  repeat'
    first
    | done
    | ((first
        | ((with_reducible show doCall _ _ _ 172 _ _); refine call_pc (c_isIn_Node) ?_)) <;> simp [-List.map_take, -List.map_drop, -List.map_tail, run_guard, run_guardD, resultsA, resA, Nat.add_assoc])
-- (impl.Spread).isSpread
theorem c_isSpread {F : Nat → Bool} {p : Bool} {t : List Nod} {s : Spr} : PC ctx.P 163 [.agg (sprV F s), .view p 5 (t.map nodC)] (.bool (isSpread s t)) := by
  refine PC.of okC Tryz.func163 rfl rfl (by kernel_rfl) (Nat.le_of_ble_eq_true rfl) (.bool _) fun h nx hnx => ?_
  show goC ctx _ _ (.fin (RetP _ _ _ _ _))
  try simp [-List.map_take, -List.map_drop, -List.map_tail, run_guard, run_guardD, resultsA, resA, Nat.add_assoc, sprV]
  repeat'
    first
    | done
    | ((first
        | ((with_reducible show lenS _ _ _ _ _ _); refine lenS_slice rfl fun _ => ?_)
        | ((with_reducible show doCall _ _ _ 268 _ _); refine call_pcB (c_ContainsFunc_int64 (q := fun n => !isIn n t) (fv := .fn 269 [.vptr [.view p 5 (t.map nodC)]]) (fun x _ => c_isSpread1)) (by first | exact .bool _ | exact .int _ _ | exact .str _) (by repeat' first | exact Bors.nil | refine Bors.cons ?_ ?_ | exact Bor.same _ | refine Bor.fn1 ?_ | refine Bor.bnd1 ?_ | refine Bor.agg1 ?_ | refine Bor.ptr0 (by first | (simp; done) | (simp; rfl) | assumption | (simp [*]; done)) ?_ | refine Bor.ref0 (by first | (simp; done) | (simp; rfl) | (simp [iv, bv]; done)) (by simp) (by simp)) ?_)) <;> simp [-List.map_take, -List.map_drop, -List.map_tail, run_guard, run_guardD, resultsA, resA, Nat.add_assoc, sprV])
    | ((first | (with_reducible refine guardS_split ?_ ?_)) <;> intro qb <;> (have qp := qb; try simp only [psq] at qp) <;> simp [-List.map_take, -List.map_drop, -List.map_tail, run_guard, run_guardD, resultsA, resA, Nat.add_assoc, sprV, qb])
  all_goals (try clear hnx)
  all_goals first | (simp_all [isSpread]; done) | (simp_all [isSpread]; omega) | (rw [Bool.eq_iff_iff]; simp_all [isSpread]; done) | (rw [Bool.eq_iff_iff]; simp_all [isSpread]; omega) | omega | (simp only [isSpread]; grind) | grind
end Go.AE.Tryz
end

section
/- Contracts of the program's readers: tasks, groups, worlds. -/
set_option linter.unusedSimpArgs false
set_option linter.unusedVariables false
set_option maxRecDepth 8000
set_option maxHeartbeats 2000000
namespace Go.AE.Tryz
open Go.Proofs

-- impl.hasNode
theorem c_hasNode {n : Int} : PC ctx.P 340 [.int .i64 n] (.bool (hasNode n)) := by
  refine PC.of okC Tryz.func340 rfl rfl (by kernel_rfl) (Nat.le_of_ble_eq_true rfl) (.bool _) fun h nx hnx => ?_
  show goC ctx _ _ (.fin (RetP _ _ _ _ _))
  try simp [-List.map_take, -List.map_drop, -List.map_tail, run_guard, run_guardD, resultsA, resA, Nat.add_assoc]
  repeat'
    first
    | done
    | ((first
        | ((with_reducible show doCall _ _ _ 165 _ _); refine call_pc (c_within) ?_)) <;> simp [-List.map_take, -List.map_drop, -List.map_tail, run_guard, run_guardD, resultsA, resA, Nat.add_assoc])
    | ((first | (with_reducible refine guardS_split ?_ ?_)) <;> intro qb <;> (have qp := qb; try simp only [psq] at qp) <;> simp [-List.map_take, -List.map_drop, -List.map_tail, run_guard, run_guardD, resultsA, resA, Nat.add_assoc, qb])
  all_goals (try clear hnx)
  all_goals first | (simp_all [hasNode]; done) | (simp_all [hasNode]; omega) | (rw [Bool.eq_iff_iff]; simp_all [hasNode]; done) | (rw [Bool.eq_iff_iff]; simp_all [hasNode]; omega) | omega | (simp only [hasNode]; grind) | grind
-- impl.hasB
theorem c_hasB {n : Int} : PC ctx.P 341 [.int .i64 n] (.bool (hasB n)) := by
  refine PC.of okC Tryz.func341 rfl rfl (by kernel_rfl) (Nat.le_of_ble_eq_true rfl) (.bool _) fun h nx hnx => ?_
  show goC ctx _ _ (.fin (RetP _ _ _ _ _))
  try simp [-List.map_take, -List.map_drop, -List.map_tail, run_guard, run_guardD, resultsA, resA, Nat.add_assoc]
  repeat'
    first
    | done
    | ((first | (with_reducible refine guardS_split ?_ ?_)) <;> intro qb <;> (have qp := qb; try simp only [psq] at qp) <;> simp [-List.map_take, -List.map_drop, -List.map_tail, run_guard, run_guardD, resultsA, resA, Nat.add_assoc, qb])
  all_goals (try clear hnx)
  all_goals first | (simp_all [hasB]; done) | (simp_all [hasB]; omega) | (rw [Bool.eq_iff_iff]; simp_all [hasB]; done) | (rw [Bool.eq_iff_iff]; simp_all [hasB]; omega) | omega | (simp only [hasB]; grind) | grind
-- impl.InsOk
theorem c_InsOk {x : Inn} : PC ctx.P 265 [.agg (innC x)] (.bool (innOk x)) := by
  refine PC.of okC Tryz.func265 rfl rfl (by kernel_rfl) (Nat.le_of_ble_eq_true rfl) (.bool _) fun h nx hnx => ?_
  show goC ctx _ _ (.fin (RetP _ _ _ _ _))
  try simp [-List.map_take, -List.map_drop, -List.map_tail, run_guard, run_guardD, resultsA, resA, Nat.add_assoc, innC]
  repeat'
    first
    | done
    | ((first
        | ((with_reducible show doCall _ _ _ 340 _ _); refine call_pc (c_hasNode) ?_)
        | ((with_reducible show doCall _ _ _ 341 _ _); refine call_pc (c_hasB) ?_)
        | ((with_reducible show doCall _ _ _ 165 _ _); refine call_pc (c_within) ?_)) <;> simp [-List.map_take, -List.map_drop, -List.map_tail, run_guard, run_guardD, resultsA, resA, Nat.add_assoc, innC])
    | ((first | (with_reducible refine guardS_split ?_ ?_) | (with_reducible refine condS_split ?_ ?_)) <;> intro qb <;> (have qp := qb; try simp only [psq] at qp) <;> simp [-List.map_take, -List.map_drop, -List.map_tail, run_guard, run_guardD, resultsA, resA, Nat.add_assoc, innC, qb])
  all_goals (try clear hnx)
  all_goals first | (simp_all [innOk]; done) | (simp_all [innOk]; omega) | (rw [Bool.eq_iff_iff]; simp_all [innOk]; done) | (rw [Bool.eq_iff_iff]; simp_all [innOk]; omega) | omega | (simp only [innOk]; grind) | grind
-- impl.ProgOk$1
theorem c_ProgOk1 {x : Inn} : PC ctx.P 264 [.agg (innC x)] (.bool (!innOk x)) := by
  refine PC.of okC Tryz.func264 rfl rfl (by kernel_rfl) (Nat.le_of_ble_eq_true rfl) (.bool _) fun h nx hnx => ?_
  show goC ctx _ _ (.fin (RetP _ _ _ _ _))
  try simp [-List.map_take, -List.map_drop, -List.map_tail, run_guard, run_guardD, resultsA, resA, Nat.add_assoc]
  repeat'
    first
    | done
    | ((first
        | ((with_reducible show doCall _ _ _ 265 _ _); refine call_pc (c_InsOk) ?_)) <;> simp [-List.map_take, -List.map_drop, -List.map_tail, run_guard, run_guardD, resultsA, resA, Nat.add_assoc])
-- impl.ProgOk
theorem c_ProgOk {p : Bool} {l : List Inn} : PC ctx.P 161 [.view p 3 (l.map innC)] (.bool (progOk l)) := by
  refine PC.of okC Tryz.func161 rfl rfl (by kernel_rfl) (Nat.le_of_ble_eq_true rfl) (.bool _) fun h nx hnx => ?_
  show goC ctx _ _ (.fin (RetP _ _ _ _ _))
  try simp [-List.map_take, -List.map_drop, -List.map_tail, run_guard, run_guardD, resultsA, resA, Nat.add_assoc]
  repeat'
    first
    | done
    | ((first
        | ((with_reducible show lenS _ _ _ _ _ _); refine lenS_slice rfl fun _ => ?_)
        | ((with_reducible show doCall _ _ _ 263 _ _); refine call_pc (c_ContainsFunc_Ins (q := fun x => !innOk x) (fun x _ => c_ProgOk1)) ?_)) <;> simp [-List.map_take, -List.map_drop, -List.map_tail, run_guard, run_guardD, resultsA, resA, Nat.add_assoc])
    | ((first | (with_reducible refine guardS_split ?_ ?_)) <;> intro qb <;> (have qp := qb; try simp only [psq] at qp) <;> simp [-List.map_take, -List.map_drop, -List.map_tail, run_guard, run_guardD, resultsA, resA, Nat.add_assoc, qb])
  all_goals (try clear hnx)
  all_goals first | (simp_all [progOk]; done) | (simp_all [progOk]; omega) | (rw [Bool.eq_iff_iff]; simp_all [progOk]; done) | (rw [Bool.eq_iff_iff]; simp_all [progOk]; omega) | omega | (simp only [progOk]; grind) | grind
-- impl.TaskOk
theorem c_TaskOk {t : Tsk} : PC ctx.P 285 [.agg (tskC t)] (.bool (tskOk t)) := by
  refine PC.of okC Tryz.func285 rfl rfl (by kernel_rfl) (Nat.le_of_ble_eq_true rfl) (.bool _) fun h nx hnx => ?_
  show goC ctx _ _ (.fin (RetP _ _ _ _ _))
  try simp [-List.map_take, -List.map_drop, -List.map_tail, run_guard, run_guardD, resultsA, resA, Nat.add_assoc, tskC]
  repeat'
    first
    | done
    | ((first
        | ((with_reducible show doCall _ _ _ 165 _ _); refine call_pc (c_within) ?_)
        | (with_reducible refine go_draw (i := 3) [(0, [], []), (1, [], []), (2, [], []), (3, [], []), (4, [], []), (5, [.tmp 34], []), (6, [], []), (7, [], []), (8, [], []), (9, [], []), (10, [], []), (11, [], []), (12, [], []), (13, [], []), (14, [], []), (15, [], []), (16, [], [])] (by kernel_rfl) ?_)) <;> simp [-List.map_take, -List.map_drop, -List.map_tail, run_guard, run_guardD, resultsA, resA, Nat.add_assoc, tskC])
    | ((first | (with_reducible refine guardD_split ?_ ?_) | (with_reducible refine guardS_split ?_ ?_) | (with_reducible refine condS_split ?_ ?_)) <;> intro qb <;> (have qp := qb; try simp only [psq] at qp) <;> simp [-List.map_take, -List.map_drop, -List.map_tail, run_guard, run_guardD, resultsA, resA, Nat.add_assoc, tskC, qb])
  all_goals (try clear hnx)
  all_goals first | (simp_all [tskOk]; done) | (simp_all [tskOk]; omega) | (rw [Bool.eq_iff_iff]; simp_all [tskOk]; done) | (rw [Bool.eq_iff_iff]; simp_all [tskOk]; omega) | omega | (simp only [tskOk]; grind) | grind
-- impl.TasksOk$1
theorem c_TasksOk1 {t : Tsk} : PC ctx.P 284 [.agg (tskC t)] (.bool (!tskOk t)) := by
  refine PC.of okC Tryz.func284 rfl rfl (by kernel_rfl) (Nat.le_of_ble_eq_true rfl) (.bool _) fun h nx hnx => ?_
  show goC ctx _ _ (.fin (RetP _ _ _ _ _))
  try simp [-List.map_take, -List.map_drop, -List.map_tail, run_guard, run_guardD, resultsA, resA, Nat.add_assoc]
  repeat'
    first
    | done
    | ((first
        | ((with_reducible show doCall _ _ _ 285 _ _); refine call_pc (c_TaskOk) ?_)) <;> simp [-List.map_take, -List.map_drop, -List.map_tail, run_guard, run_guardD, resultsA, resA, Nat.add_assoc])
-- impl.TasksOk
theorem c_TasksOk {p : Bool} {l : List Tsk} : PC ctx.P 173 [.view p 9 (l.map tskC)] (.bool (tasksOk l)) := by
  refine PC.of okC Tryz.func173 rfl rfl (by kernel_rfl) (Nat.le_of_ble_eq_true rfl) (.bool _) fun h nx hnx => ?_
  show goC ctx _ _ (.fin (RetP _ _ _ _ _))
  try simp [-List.map_take, -List.map_drop, -List.map_tail, run_guard, run_guardD, resultsA, resA, Nat.add_assoc]
  repeat'
    first
    | done
    | ((first
        | ((with_reducible show lenS _ _ _ _ _ _); refine lenS_slice rfl fun _ => ?_)
        | ((with_reducible show doCall _ _ _ 283 _ _); refine call_pc (c_ContainsFunc_Task (q := fun x => !tskOk x) (fun x _ => c_TasksOk1)) ?_)) <;> simp [-List.map_take, -List.map_drop, -List.map_tail, run_guard, run_guardD, resultsA, resA, Nat.add_assoc])
    | ((first | (with_reducible refine guardS_split ?_ ?_)) <;> intro qb <;> (have qp := qb; try simp only [psq] at qp) <;> simp [-List.map_take, -List.map_drop, -List.map_tail, run_guard, run_guardD, resultsA, resA, Nat.add_assoc, qb])
  all_goals (try clear hnx)
  all_goals first | (simp_all [tasksOk]; done) | (simp_all [tasksOk]; omega) | (rw [Bool.eq_iff_iff]; simp_all [tasksOk]; done) | (rw [Bool.eq_iff_iff]; simp_all [tasksOk]; omega) | omega | (simp only [tasksOk]; grind) | grind
-- impl.isAfter
theorem c_isAfter {a b : Int} : PC ctx.P 279 [.int .i64 a, .int .i64 b] (.bool (isAfter a b)) := by
  refine PC.of okC Tryz.func279 rfl rfl (by kernel_rfl) (Nat.le_of_ble_eq_true rfl) (.bool _) fun h nx hnx => ?_
  show goC ctx _ _ (.fin (RetP _ _ _ _ _))
  try simp [-List.map_take, -List.map_drop, -List.map_tail, run_guard, run_guardD, resultsA, resA, Nat.add_assoc]
  repeat'
    first
    | done
    | ((first
        | ((with_reducible show doCall _ _ _ 165 _ _); refine call_pc (c_within) ?_)) <;> simp [-List.map_take, -List.map_drop, -List.map_tail, run_guard, run_guardD, resultsA, resA, Nat.add_assoc])
    | ((first | (with_reducible refine guardS_split ?_ ?_)) <;> intro qb <;> (have qp := qb; try simp only [psq] at qp) <;> simp [-List.map_take, -List.map_drop, -List.map_tail, run_guard, run_guardD, resultsA, resA, Nat.add_assoc, qb])
  all_goals (try clear hnx)
  all_goals first | (simp_all [isAfter]; done) | (simp_all [isAfter]; omega) | (rw [Bool.eq_iff_iff]; simp_all [isAfter]; done) | (rw [Bool.eq_iff_iff]; simp_all [isAfter]; omega) | omega | (simp only [isAfter]; grind) | grind
-- (impl.Afters).at$1
theorem c_afsAt1 {x : Afr} {h : Han} : PC ctx.P 351 [.agg (afrC x), .vptr (hanC h)] (.bool (x.han == h)) := by
  refine PC.of okC Tryz.func351 rfl rfl (by kernel_rfl) (Nat.le_of_ble_eq_true rfl) (.bool _) fun h nx hnx => ?_
  show goC ctx _ _ (.fin (RetP _ _ _ _ _))
  try simp [-List.map_take, -List.map_drop, -List.map_tail, run_guard, run_guardD, resultsA, resA, Nat.add_assoc, afrC, hanC, han_eq, lfOf, cellsEq, cellEq]
-- (impl.Afters).at
theorem c_afsAt {F : Nat → Bool} {a : Afs} {x : Han} : PC ctx.P 281 [.agg (afsV F a), .agg (hanC x)] (.int .i64 (afsAt a.list x)) := by
  refine PC.of okC Tryz.func281 rfl rfl (by kernel_rfl) (Nat.le_of_ble_eq_true rfl) (.int _ _) fun h nx hnx => ?_
  show goC ctx _ _ (.fin (RetP _ _ _ _ _))
  try simp [-List.map_take, -List.map_drop, -List.map_tail, run_guard, run_guardD, resultsA, resA, Nat.add_assoc, afsV, afsAt]
  repeat'
    first
    | done
    | ((first
        | ((with_reducible show doCall _ _ _ 305 _ _); refine call_pcB (c_IndexFunc_After (q := fun y => y.han == x) (fv := .fn 351 [.vptr (hanC x)]) (fun x _ => c_afsAt1)) (by first | exact .bool _ | exact .int _ _ | exact .str _) (by repeat' first | exact Bors.nil | refine Bors.cons ?_ ?_ | exact Bor.same _ | refine Bor.fn1 ?_ | refine Bor.bnd1 ?_ | refine Bor.agg1 ?_ | refine Bor.ptr0 (by first | (simp; done) | (simp; rfl) | assumption | (simp [*]; done)) ?_ | refine Bor.ref0 (by first | (simp; done) | (simp; rfl) | (simp [iv, bv]; done)) (by simp) (by simp)) ?_)) <;> simp [-List.map_take, -List.map_drop, -List.map_tail, run_guard, run_guardD, resultsA, resA, Nat.add_assoc, afsV, afsAt])
-- (impl.World).isTimer
theorem c_isTimer {F : Nat → Bool} {w : Wld} {t : Tmr} : PC ctx.P 168 [.agg (wldV F w), .agg (tmrC t)] (.bool (isTimer w t)) := by
  refine PC.of okC Tryz.func168 rfl rfl (by kernel_rfl) (Nat.le_of_ble_eq_true rfl) (.bool _) fun h nx hnx => ?_
  show goC ctx _ _ (.fin (RetP _ _ _ _ _))
  try simp [-List.map_take, -List.map_drop, -List.map_tail, run_guard, run_guardD, resultsA, resA, Nat.add_assoc, wldV, tmrC]
  repeat'
    first
    | done
    | ((first
        | ((with_reducible show doCall _ _ _ 172 _ _); refine call_pc (c_isIn_Node) ?_)
        | ((with_reducible show doCall _ _ _ 275 _ _); refine call_pc (c_isIn_Task) ?_)) <;> simp [-List.map_take, -List.map_drop, -List.map_tail, run_guard, run_guardD, resultsA, resA, Nat.add_assoc, wldV, tmrC])
    | ((first | (with_reducible refine condS_split ?_ ?_)) <;> intro qb <;> (have qp := qb; try simp only [psq] at qp) <;> simp [-List.map_take, -List.map_drop, -List.map_tail, run_guard, run_guardD, resultsA, resA, Nat.add_assoc, wldV, tmrC, qb])
  all_goals (try clear hnx)
  all_goals first | (simp_all [isTimer]; done) | (simp_all [isTimer]; omega) | (rw [Bool.eq_iff_iff]; simp_all [isTimer]; done) | (rw [Bool.eq_iff_iff]; simp_all [isTimer]; omega) | omega | (simp only [isTimer]; grind) | grind
-- (impl.World).isSight
theorem c_isSight {F : Nat → Bool} {w : Wld} {s : Sgt} : PC ctx.P 179 [.agg (wldV F w), .agg (sgtC s)] (.bool (isSight w s)) := by
  refine PC.of okC Tryz.func179 rfl rfl (by kernel_rfl) (Nat.le_of_ble_eq_true rfl) (.bool _) fun h nx hnx => ?_
  show goC ctx _ _ (.fin (RetP _ _ _ _ _))
  try simp [-List.map_take, -List.map_drop, -List.map_tail, run_guard, run_guardD, resultsA, resA, Nat.add_assoc, wldV, sgtC]
  repeat'
    first
    | done
    | ((first
        | ((with_reducible show doCall _ _ _ 172 _ _); refine call_pc (c_isIn_Node) ?_)
        | ((with_reducible show doCall _ _ _ 165 _ _); refine call_pc (c_within) ?_)
        | ((with_reducible show doCall _ _ _ 296 _ _); refine call_pc (c_size_Event) ?_)
        | (with_reducible refine go_draw (i := 1) [(0, [], []), (1, [], []), (2, [], []), (3, [], []), (4, [], []), (5, [], []), (6, [], []), (7, [], []), (8, [], []), (9, [], []), (10, [], []), (11, [.tmp 12], []), (12, [], []), (13, [], []), (14, [], [])] (by kernel_rfl) ?_)) <;> simp [-List.map_take, -List.map_drop, -List.map_tail, run_guard, run_guardD, resultsA, resA, Nat.add_assoc, wldV, sgtC])
    | ((first | (with_reducible refine guardD_split ?_ ?_) | (with_reducible refine guardS_split ?_ ?_) | (with_reducible refine condS_split ?_ ?_)) <;> intro qb <;> (have qp := qb; try simp only [psq] at qp) <;> simp [-List.map_take, -List.map_drop, -List.map_tail, run_guard, run_guardD, resultsA, resA, Nat.add_assoc, wldV, sgtC, qb])
  all_goals (try clear hnx)
  all_goals first | (simp_all [isSight]; done) | (simp_all [isSight]; omega) | (rw [Bool.eq_iff_iff]; simp_all [isSight]; done) | (rw [Bool.eq_iff_iff]; simp_all [isSight]; omega) | omega | (simp only [isSight]; grind) | grind
-- (impl.World).isTask
theorem c_isTask {F : Nat → Bool} {w : Wld} {t : Tsk} : PC ctx.P 175 [.agg (wldV F w), .agg (tskC t)] (.bool (isTask w t)) := by
  refine PC.lim (n := w.groups.length) (x := .agg (wldV F w)) (by simp) (.agg (x := .view (F 12) 5 (w.groups.map (grpV (F 13)))) (by simp [wldV]) (.here (by simp))) ⟨_, Tryz.func175, by kernel_rfl, by kernel_rfl⟩ fun hlim => ?_
  refine PC.of okC Tryz.func175 rfl rfl (by kernel_rfl) (Nat.le_of_ble_eq_true rfl) (.bool _) fun h nx hnx => ?_
  show goC ctx _ _ (.fin (RetP _ _ _ _ _))
  try simp [-List.map_take, -List.map_drop, -List.map_tail, run_guard, run_guardD, resultsA, resA, Nat.add_assoc, wldV, tskC, prgV, wrap_pred hlim]
  repeat'
    first
    | done
    | ((first
        | ((with_reducible show iaddrS _ _ _ _ _ _ _); refine iaddr_map rfl (by first | omega | (simp; done) | (simp; omega) | (simp [inR, isIn] at *; done) | (simp [inR, isIn] at *; omega)) (by first | omega | (simp; done) | (simp; omega) | (simp [inR, isIn] at *; done) | (simp [inR, isIn] at *; omega)) ?_)
        | ((with_reducible show doCall _ _ _ 287 _ _); refine call_pc (c_isIn_Prog) ?_)
        | ((with_reducible show doCall _ _ _ 79 _ _); refine call_pc (c_size_Ins) ?_)
        | ((with_reducible show doCall _ _ _ 288 _ _); refine call_pc (c_size_Group) ?_)
        | ((with_reducible show doCall _ _ _ 165 _ _); refine call_pc (c_within) ?_)
        | ((with_reducible show doCall _ _ _ 172 _ _); refine call_pc (c_isIn_Node) ?_)
        | ((with_reducible show doCall _ _ _ 289 _ _); refine call_pc (c_isIn_Group) ?_)
        | (with_reducible refine go_draw (i := 1) [(0, [], []), (1, [], []), (2, [], []), (3, [], []), (4, [], []), (5, [], []), (6, [], []), (7, [], []), (8, [], []), (9, [], []), (10, [], []), (11, [], []), (12, [], []), (13, [], []), (14, [], []), (15, [.tmp 12], []), (16, [], []), (17, [], []), (18, [], []), (19, [], []), (20, [], []), (21, [], []), (22, [], []), (23, [.tmp 24], []), (24, [], []), (25, [], []), (26, [], []), (27, [], [])] (by kernel_rfl) ?_)) <;> simp [-List.map_take, -List.map_drop, -List.map_tail, run_guard, run_guardD, resultsA, resA, Nat.add_assoc, wldV, tskC, prgV, wrap_pred hlim])
    | ((first | (with_reducible refine guardD_split ?_ ?_) | (with_reducible refine condS_split ?_ ?_)) <;> intro qb <;> (have qp := qb; try simp only [psq] at qp) <;> simp [-List.map_take, -List.map_drop, -List.map_tail, run_guard, run_guardD, resultsA, resA, Nat.add_assoc, wldV, tskC, prgV, wrap_pred hlim, qb])
  all_goals (try clear hnx)
  all_goals first | (simp_all [isTask]; done) | (simp_all [isTask]; omega) | (rw [Bool.eq_iff_iff]; simp_all [isTask]; done) | (rw [Bool.eq_iff_iff]; simp_all [isTask]; omega) | omega | (simp only [isTask]; grind) | grind
-- (impl.World).isGroup$1
theorem c_isGroup1 {F : Nat → Bool} {w : Wld} {n : Int} : PC ctx.P 293 [.int .i64 n, .vptr (wldV F w)] (.bool (!isIn n w.tasks)) := by
  refine PC.of okC Tryz.func293 rfl rfl (by kernel_rfl) (Nat.le_of_ble_eq_true rfl) (.bool _) fun h nx hnx => ?_
  show goC ctx _ _ (.fin (RetP _ _ _ _ _))
  try simp [-List.map_take, -List.map_drop, -List.map_tail, run_guard, run_guardD, resultsA, resA, Nat.add_assoc, wldV]
  repeat'
    first
    | done
    | ((first
        | ((with_reducible show doCall _ _ _ 275 _ _); refine call_pc (c_isIn_Task) ?_)) <;> simp [-List.map_take, -List.map_drop, -List.map_tail, run_guard, run_guardD, resultsA, resA, Nat.add_assoc, wldV])
-- impl.WorldOk$1
theorem c_WorldOk1 {F : Nat → Bool} {w : Wld} {e : Evt} : PC ctx.P 164 [.agg (evtC e), .vptr (wldV F w)] (.bool (inR e.time 0 w.now)) := by
  refine PC.of okC Tryz.func164 rfl rfl (by kernel_rfl) (Nat.le_of_ble_eq_true rfl) (.bool _) fun h nx hnx => ?_
  show goC ctx _ _ (.fin (RetP _ _ _ _ _))
  try simp [-List.map_take, -List.map_drop, -List.map_tail, run_guard, run_guardD, resultsA, resA, Nat.add_assoc, wldV, evtC]
  repeat'
    first
    | done
    | ((first
        | ((with_reducible show doCall _ _ _ 165 _ _); refine call_pc (c_within) ?_)) <;> simp [-List.map_take, -List.map_drop, -List.map_tail, run_guard, run_guardD, resultsA, resA, Nat.add_assoc, wldV, evtC])
-- impl.WorldOk$2
theorem c_WorldOk2 {F : Nat → Bool} {w : Wld} {x : Afr} : PC ctx.P 171 [.agg (afrC x), .vptr (wldV F w)] (.bool (isIn x.node w.tree)) := by
  refine PC.of okC Tryz.func171 rfl rfl (by kernel_rfl) (Nat.le_of_ble_eq_true rfl) (.bool _) fun h nx hnx => ?_
  show goC ctx _ _ (.fin (RetP _ _ _ _ _))
  try simp [-List.map_take, -List.map_drop, -List.map_tail, run_guard, run_guardD, resultsA, resA, Nat.add_assoc, wldV, afrC]
  repeat'
    first
    | done
    | ((first
        | ((with_reducible show doCall _ _ _ 172 _ _); refine call_pc (c_isIn_Node) ?_)) <;> simp [-List.map_take, -List.map_drop, -List.map_tail, run_guard, run_guardD, resultsA, resA, Nat.add_assoc, wldV, afrC])
-- impl.WorldOk$3
theorem c_WorldOk3 {n : Int} : PC ctx.P 181 [.int .i64 n] (.bool (inR n 0 99)) := by
  refine PC.of okC Tryz.func181 rfl rfl (by kernel_rfl) (Nat.le_of_ble_eq_true rfl) (.bool _) fun h nx hnx => ?_
  show goC ctx _ _ (.fin (RetP _ _ _ _ _))
  try simp [-List.map_take, -List.map_drop, -List.map_tail, run_guard, run_guardD, resultsA, resA, Nat.add_assoc]
  repeat'
    first
    | done
    | ((first
        | ((with_reducible show doCall _ _ _ 165 _ _); refine call_pc (c_within) ?_)) <;> simp [-List.map_take, -List.map_drop, -List.map_tail, run_guard, run_guardD, resultsA, resA, Nat.add_assoc])
-- impl.WorldOk$4
theorem c_WorldOk4 {n : Int} : PC ctx.P 182 [.int .i64 n] (.bool (inR n 0 99)) := by
  refine PC.of okC Tryz.func182 rfl rfl (by kernel_rfl) (Nat.le_of_ble_eq_true rfl) (.bool _) fun h nx hnx => ?_
  show goC ctx _ _ (.fin (RetP _ _ _ _ _))
  try simp [-List.map_take, -List.map_drop, -List.map_tail, run_guard, run_guardD, resultsA, resA, Nat.add_assoc]
  repeat'
    first
    | done
    | ((first
        | ((with_reducible show doCall _ _ _ 165 _ _); refine call_pc (c_within) ?_)) <;> simp [-List.map_take, -List.map_drop, -List.map_tail, run_guard, run_guardD, resultsA, resA, Nat.add_assoc])
end Go.AE.Tryz
end

section
/- Contracts of the program's readers: timers, chains, events. -/
set_option linter.unusedSimpArgs false
set_option linter.unusedVariables false
set_option maxRecDepth 8000
set_option maxHeartbeats 2000000
namespace Go.AE.Tryz
open Go.Proofs

-- impl.TimersOk
theorem c_TimersOk {F : Nat → Bool} {t : Tms} : PC ctx.P 166 [.agg (tmsV F t)] (.bool (tmsOk t)) := by
  refine PC.lim (n := t.list.length) (x := .agg (tmsV F t)) (by simp) (.agg (x := .view (F 7) 5 (t.list.map tmrC)) (by simp [tmsV]) (.here (by simp))) ⟨_, Tryz.func166, by kernel_rfl, by kernel_rfl⟩ fun hlim => ?_
  refine PC.of okC Tryz.func166 rfl rfl (by kernel_rfl) (Nat.le_of_ble_eq_true rfl) (.bool _) fun h nx hnx => ?_
  show goC ctx _ _ (.fin (RetP _ _ _ _ _))
  try simp [-List.map_take, -List.map_drop, -List.map_tail, run_guard, run_guardD, resultsA, resA, Nat.add_assoc, tmsV]
  repeat'
    first
    | done
    | ((first
        | ((with_reducible show lenS _ _ _ _ _ _); refine lenS_slice rfl fun _ => ?_)
        | ((with_reducible show iaddrS _ _ _ _ _ _ _); refine iaddr_map rfl (by first | omega | (simp; done) | (simp; omega) | (simp [inR, isIn] at *; done) | (simp [inR, isIn] at *; omega)) (by first | omega | (simp; done) | (simp; omega) | (simp [inR, isIn] at *; done) | (simp [inR, isIn] at *; omega)) ?_)
        | ((with_reducible show doCall _ _ _ 165 _ _); refine call_pc (c_within) ?_)
        | ((with_reducible show doCall _ _ _ 270 _ _); refine call_pc (c_HeapOk) ?_)) <;> simp [-List.map_take, -List.map_drop, -List.map_tail, run_guard, run_guardD, resultsA, resA, Nat.add_assoc, tmsV])
    | ((first | (with_reducible refine guardS_split ?_ ?_) | (with_reducible refine condS_split ?_ ?_)) <;> intro qb <;> (have qp := qb; try simp only [psq] at qp) <;> simp [-List.map_take, -List.map_drop, -List.map_tail, run_guard, run_guardD, resultsA, resA, Nat.add_assoc, tmsV, qb])
  · all_goals (try clear hnx)
    all_goals first | (simp_all [tmsOk]; done) | (simp_all [tmsOk]; omega) | (rw [Bool.eq_iff_iff]; simp_all [tmsOk]; done) | (rw [Bool.eq_iff_iff]; simp_all [tmsOk]; omega) | omega | (simp only [tmsOk]; grind) | grind
  · all_goals (try clear hnx)
    all_goals first | (simp_all [tmsOk]; done) | (simp_all [tmsOk]; omega) | (rw [Bool.eq_iff_iff]; simp_all [tmsOk]; done) | (rw [Bool.eq_iff_iff]; simp_all [tmsOk]; omega) | omega | (simp only [tmsOk]; grind) | grind
  · all_goals (try clear hnx)
    all_goals first | (simp_all [tmsOk]; done) | (simp_all [tmsOk]; omega) | (rw [Bool.eq_iff_iff]; simp_all [tmsOk]; done) | (rw [Bool.eq_iff_iff]; simp_all [tmsOk]; omega) | omega | (simp only [tmsOk]; grind) | grind
  · refine go_upP [2, 3, 4, 6, 26, 27, 28, 29, 30, 31, 32, 33, 34, 35, 36, 37, 38, 39, 40, 41, 42, 43, 44, 45, 46, 47, 48, 49, 50, 51, 52, 53, 54, 55, 56, 57, 58, 59] (t.list.length) (fun (i : Nat) a => [(26, .int .i64 i), (3, .int .i64 a.1), (4, .int .i64 a.2)]) (fun i_ a_ h_ _ => (fun i (a : Int × Int) _ => tmsRise t.next (t.list.drop i) a.1 = tmsRise t.next t.list (-1) ∧ a.2 + cntB (·.armed) (t.list.drop i) = cntB (·.armed) t.list ∧ 0 ≤ a.2 ∧ a.2 ≤ i) i_ a_ h_) ((-1, 0)) (by simp) ?_ keep_rfl (Nat.le_refl _) ?_
    · simp
    · intro i a tm h' n' hle hJ hE hn' next hnx
      try dsimp only at hJ
      have hK : KeepB nx h' h := KeepB.sub hE (by repeat' first | exact hE2 | exact hK2 | exact hE | exact hK | exact keep_rfl | refine keep_upd_of (by omega) ?_ | refine KeepB.sub hE2 ?_ (by omega)) (by omega)
      simp [-List.map_take, -List.map_drop, -List.map_tail]
      have e1 : h' (nx) = some (.obj (tmsV F t)) := by have := hE (nx) (by omega); simpa [tmsV] using this
      have e1n : ∀ k, ((nx) = n' + k) = False := fun k => by simp only [eq_iff_iff, iff_false]; omega
      have e1m : ((nx) = n') = False := by simp only [eq_iff_iff, iff_false]; omega
      try simp [-List.map_take, -List.map_drop, -List.map_tail, run_guard, run_guardD, resultsA, resA, Nat.add_assoc, tmsV, tmrC, e1, e1n, e1m]
      repeat'
        first
        | done
        | ((first
            | ((with_reducible show lenS _ _ _ _ _ _); refine lenS_slice rfl fun _ => ?_)
            | ((with_reducible show iaddrS _ _ _ _ _ _ _); refine iaddr_map rfl (by first | omega | (simp; done) | (simp; omega) | (simp [inR, isIn] at *; done) | (simp [inR, isIn] at *; omega)) (by first | omega | (simp; done) | (simp; omega) | (simp [inR, isIn] at *; done) | (simp [inR, isIn] at *; omega)) ?_)
            | ((with_reducible show doCall _ _ _ 165 _ _); refine call_pc (c_within) ?_)
            | ((with_reducible show doCall _ _ _ 271 _ _); refine call_pcB (c_ContainsFunc_Twig (q := fun h => decide (tmsAt t.list h.seq < 0) || (!(gt t.list (tmsAt t.list h.seq)).armed || (gt t.list (tmsAt t.list h.seq)).due != h.due)) (fv := .fn 272 [.vptr (tmsV F t)]) (fun x _ => c_TimersOk1)) (by first | exact .bool _ | exact .int _ _ | exact .str _) (by repeat' first | exact Bors.nil | refine Bors.cons ?_ ?_ | exact Bor.same _ | refine Bor.fn1 ?_ | refine Bor.bnd1 ?_ | refine Bor.agg1 ?_ | refine Bor.ptr0 (by first | (simp; done) | (simp; rfl) | assumption | (simp [*]; done)) ?_ | refine Bor.ref0 (by first | (simp; done) | (simp; rfl) | (simp [iv, bv]; done)) (by simp) (by simp)) ?_)) <;> simp [-List.map_take, -List.map_drop, -List.map_tail, run_guard, run_guardD, resultsA, resA, Nat.add_assoc, tmsV, tmrC, e1, e1n, e1m])
        | ((first | (with_reducible refine guardS_split ?_ ?_) | (with_reducible refine condS_split ?_ ?_)) <;> intro qb <;> (have qp := qb; try simp only [psq] at qp) <;> simp [-List.map_take, -List.map_drop, -List.map_tail, run_guard, run_guardD, resultsA, resA, Nat.add_assoc, tmsV, tmrC, e1, e1n, e1m, qb])
      all_goals
        first
        | (have hlt : i < t.list.length := (by omega)
           rw [drop_gt hlt] at hJ
           first
           | (refine ⟨?_, (by repeat' first | exact hE2 | exact hK2 | exact hE | exact hK | exact keep_rfl | refine keep_upd_of (by omega) ?_ | refine KeepB.sub hE2 ?_ (by omega))⟩; clear hnx; (try simp only [tmsRise, tmsOk, cntB_cons, cntB_nil] at hJ ⊢); grind)
           | skip)
        | skip
      · simp only [LIM] at hlim
        refine hnx.go ((gt t.list (i : Int)).seq, a.2 + 1) ?_ ?_ ?_ ?_ ?_ ?_
        · omega
        · simp [i64_ok (x := (i : Int) + 1) (by omega), i64_ok (x := a.2 + 1) (by omega)]
        · simp
        · exact (by repeat' first | exact hE2 | exact hK2 | exact hE | exact hK | exact keep_rfl | refine keep_upd_of (by omega) ?_ | refine KeepB.sub hE2 ?_ (by omega))
        · first | omega | (simp; omega)
        dsimp only
        simp only [tmsRise, cntB_cons] at hJ
        grind
      · simp only [LIM] at hlim
        refine hnx.go ((gt t.list (i : Int)).seq, a.2) ?_ ?_ ?_ ?_ ?_ ?_
        · omega
        · simp [i64_ok (x := (i : Int) + 1) (by omega)]
        · simp
        · exact (by repeat' first | exact hE2 | exact hK2 | exact hE | exact hK | exact keep_rfl | refine keep_upd_of (by omega) ?_ | refine KeepB.sub hE2 ?_ (by omega))
        · first | omega | (simp; omega)
        dsimp only
        simp only [tmsRise, cntB_cons] at hJ
        grind
      all_goals
        obtain rfl : i = t.list.length := (by omega)
        refine ⟨?_, (by repeat' first | exact hE2 | exact hK2 | exact hE | exact hK | exact keep_rfl | refine keep_upd_of (by omega) ?_ | refine KeepB.sub hE2 ?_ (by omega))⟩
        simp only [List.drop_length, tmsRise, tmsOk, cntB_nil] at hJ ⊢
        grind
-- impl.chain
theorem c_chain {p : Bool} {t : List Nod} {n : Int} (ht : treeOk t = true) (h0 : 0 ≤ n) (h1 : n < t.length) : PC ctx.P 198 [.view p 5 (t.map nodC), .int .i64 n] (.view true 1 ((chain t n).map iv)) := by
  have hl60 := treeOk_len ht
  refine PC.of okC Tryz.func198 rfl rfl (by kernel_rfl) (Nat.le_of_ble_eq_true rfl) (.vmap iv_fz) fun h nx hnx => ?_
  show goC ctx _ _ (.fin (RetP _ _ _ _ _))
  try simp [-List.map_take, -List.map_drop, -List.map_tail, run_guard, run_guardD, resultsA, resA, Nat.add_assoc]
  repeat'
    first
    | done
    | ((first
        | ((with_reducible show iaddrS _ _ _ _ _ _ _); refine iaddr_map rfl (by first | omega | (simp; done) | (simp; omega) | (simp [inR, isIn] at *; done) | (simp [inR, isIn] at *; omega)) (by first | omega | (simp; done) | (simp; omega) | (simp [inR, isIn] at *; done) | (simp [inR, isIn] at *; omega)) ?_)
        | ((with_reducible show appS _ _ _ _ _ _ _ _); refine app_end rfl rfl (by decide) (by decide) (by first | (simp [-List.map_take, -List.map_drop, -List.map_tail, run_guard, run_guardD, resultsA, resA, Nat.add_assoc]; done) | (simp [-List.map_take, -List.map_drop, -List.map_tail, run_guard, run_guardD, resultsA, resA, Nat.add_assoc]; rfl)) (by first | (simp [-List.map_take, -List.map_drop, -List.map_tail, run_guard, run_guardD, resultsA, resA, Nat.add_assoc]; done) | (simp [-List.map_take, -List.map_drop, -List.map_tail, run_guard, run_guardD, resultsA, resA, Nat.add_assoc]; rfl)) (by first | (simp; done) | (simp; omega)) (by first | (simp only [MLIM, LIM] at *; simp; omega) | (simp only [MLIM]; simp; omega)) (by simp [iv, bv]) ?_)) <;> simp [-List.map_take, -List.map_drop, -List.map_tail, run_guard, run_guardD, resultsA, resA, Nat.add_assoc])
    | ((first | (with_reducible refine guardS_split ?_ ?_) | (with_reducible refine condS_split ?_ ?_)) <;> intro qb <;> (have qp := qb; try simp only [psq] at qp) <;> simp [-List.map_take, -List.map_drop, -List.map_tail, run_guard, run_guardD, resultsA, resA, Nat.add_assoc, qb])
  refine go_dnP (h0 := h) (nx0 := nx) [1, 5, 8, 9, 10, 11, 12, 13, 14, 15, 16, 17, 18, 19, 20, 21, 22, 23, 24, 25, 26, 27, 28, 29, 30] (fun a => [(1, .int .i64 a.1), (5, .ref a.2.2 1 0 (a.2.1.length + 1))]) (fun a => a.1.toNat) (fun (a : Int × List Int × Nat) h' n' => 0 ≤ a.1 ∧ a.1 < t.length ∧ nx ≤ a.2.2 ∧ h' a.2.2 = some (.row 1 ((a.2.1 ++ [a.1]).map iv)) ∧ a.2.1 ++ chain t a.1 = chain t n ∧ (a.2.1.length : Int) + a.1 ≤ n ∧ a.2.2 < n') ((n, [], nx + 2)) (by simp) ?_ (by repeat' first | exact hE2 | exact hK2 | exact hE | exact hK | exact keep_rfl | refine keep_upd_of (by omega) ?_ | refine KeepB.sub hE2 ?_ (by omega)) (by omega) ?_
  · simp [h0, h1, iv]
  · intro a tm h' n' hJ hE hn' next hnx
    try dsimp only at hJ
    have hK : KeepB nx h' h := KeepB.sub hE (by repeat' first | exact hE2 | exact hK2 | exact hE | exact hK | exact keep_rfl | refine keep_upd_of (by omega) ?_ | refine KeepB.sub hE2 ?_ (by omega)) (by omega)
    obtain ⟨m, pre, id⟩ := a
    obtain ⟨g0, g1, g2, g3, g4, g5, g6⟩ := hJ
    dsimp only at g0 g1 g2 g3 g4 g5 g6 ⊢
    have hs := chain_step ht g0 g1
    have hu := treeOk_up ht g0 g1
    have k1 : ∀ k, (id = n' + k) = False := fun k => by simp only [eq_iff_iff, iff_false]; omega
    try simp [-List.map_take, -List.map_drop, -List.map_tail, run_guard, run_guardD, resultsA, resA, Nat.add_assoc, nodC, g3, k1, iv]
    repeat'
      first
      | done
      | ((first
          | ((with_reducible show iaddrS _ _ _ _ _ _ _); refine iaddr_map rfl (by first | omega | (simp; done) | (simp; omega) | (simp [inR, isIn] at *; done) | (simp [inR, isIn] at *; omega)) (by first | omega | (simp; done) | (simp; omega) | (simp [inR, isIn] at *; done) | (simp [inR, isIn] at *; omega)) ?_)
          | ((with_reducible show appS _ _ _ _ _ _ _ _); refine app_end rfl rfl (by decide) (by decide) (by first | (simp [-List.map_take, -List.map_drop, -List.map_tail, run_guard, run_guardD, resultsA, resA, Nat.add_assoc, nodC, g3, k1, iv]; done) | (simp [-List.map_take, -List.map_drop, -List.map_tail, run_guard, run_guardD, resultsA, resA, Nat.add_assoc, nodC, g3, k1, iv]; rfl)) (by first | (simp [-List.map_take, -List.map_drop, -List.map_tail, run_guard, run_guardD, resultsA, resA, Nat.add_assoc, nodC, g3, k1, iv]; done) | (simp [-List.map_take, -List.map_drop, -List.map_tail, run_guard, run_guardD, resultsA, resA, Nat.add_assoc, nodC, g3, k1, iv]; rfl)) (by first | (simp; done) | (simp; omega)) (by first | (simp only [MLIM, LIM] at *; simp; omega) | (simp only [MLIM]; simp; omega)) (by simp [iv, bv]) ?_)) <;> simp [-List.map_take, -List.map_drop, -List.map_tail, run_guard, run_guardD, resultsA, resA, Nat.add_assoc, nodC, g3, k1, iv])
      | ((first | (with_reducible refine guardS_split ?_ ?_) | (with_reducible refine condS_split ?_ ?_)) <;> intro qb <;> (have qp := qb; try simp only [psq] at qp) <;> simp [-List.map_take, -List.map_drop, -List.map_tail, run_guard, run_guardD, resultsA, resA, Nat.add_assoc, nodC, g3, k1, iv, qb])
    · have hk : (gt t m).kind ≠ 0 := by omega
      have hu' := hu hk
      refine hnx.go ((gt t m).up, pre ++ [m], n' + 23) ?_ ?_ ?_ ?_ ?_ ?_
      · simp; omega
      · simp
      · simp
      · exact (by repeat' first | exact hE2 | exact hK2 | exact hE | exact hK | exact keep_rfl | refine keep_upd_of (by omega) ?_ | refine KeepB.sub hE2 ?_ (by omega))
      · first | omega | (simp; omega)
      dsimp only
      refine ⟨by omega, by omega, by omega, by simp [iv], ?_, by simp; omega, by simp⟩
      rw [if_neg (by simp; omega)] at hs
      rw [← g4, hs]; simp
    all_goals
      refine ⟨?_, (by repeat' first | exact hE2 | exact hK2 | exact hE | exact hK | exact keep_rfl | refine keep_upd_of (by omega) ?_ | refine KeepB.sub hE2 ?_ (by omega))⟩
      rw [if_pos (by simp; omega)] at hs
      rw [← g4, hs, List.take_of_length_le (by simp)]; simp [iv]

-- impl.firstOf
theorem c_firstOf {p q : Bool} {t : List Nod} {l : List Evt} {n : Int} (ht : treeOk t = true) (h0 : 0 ≤ n) (h1 : n < t.length) :
    PC ctx.P 91 [.view p 5 (t.map nodC), .view q 4 (l.map evtC), .int .i64 n] (.tup [.agg (evtC ((firstOf t l n).getD ⟨0, 0, 0, 0⟩)), .bool (firstOf t l n).isSome]) := by
  refine PC.lim (n := l.length) (x := .view q 4 (l.map evtC)) (by simp) (.here (by simp)) ⟨_, Tryz.func91, by kernel_rfl, by kernel_rfl⟩ fun hlim => ?_
  refine PC.of okC Tryz.func91 rfl rfl (by kernel_rfl) (Nat.le_of_ble_eq_true rfl) (.tup _ (by simp; exact .agg _ (evtC_fz _))) fun h nx hnx => ?_
  show goC ctx _ _ (.fin (RetP _ _ _ _ _))
  try simp [-List.map_take, -List.map_drop, -List.map_tail, run_guard, run_guardD, resultsA, resA, Nat.add_assoc]
  repeat'
    first
    | done
    | ((first
        | ((with_reducible show lenS _ _ _ _ _ _); refine lenS_slice rfl fun _ => ?_)
        | ((with_reducible show iaddrS _ _ _ _ _ _ _); refine iaddr_map rfl (by first | omega | (simp; done) | (simp; omega) | (simp [inR, isIn] at *; done) | (simp [inR, isIn] at *; omega)) (by first | omega | (simp; done) | (simp; omega) | (simp [inR, isIn] at *; done) | (simp [inR, isIn] at *; omega)) ?_)
        | ((with_reducible show doCall _ _ _ 198 _ _); refine call_pc (c_chain ht h0 h1) ?_)) <;> simp [-List.map_take, -List.map_drop, -List.map_tail, run_guard, run_guardD, resultsA, resA, Nat.add_assoc])
    | ((first | (with_reducible refine condS_split ?_ ?_)) <;> intro qb <;> (have qp := qb; try simp only [psq] at qp) <;> simp [-List.map_take, -List.map_drop, -List.map_tail, run_guard, run_guardD, resultsA, resA, Nat.add_assoc, qb])
  refine go_upP [7, 10, 16, 17, 18, 19, 20, 21, 22, 23, 24, 25] (l.length) (fun (i : Nat) a => [(16, .int .i64 i)]) (fun i_ a_ h_ _ => (fun i (_ : Unit) _ => (l.drop i).find? (fun e => (chain t n).contains e.node) = firstOf t l n) i_ a_ h_) (()) (by simp) ?_ keep_rfl (Nat.le_refl _) ?_
  · simp [firstOf]
  · intro i a tm h' n' hle hJ hE hn' next hnx
    try dsimp only at hJ
    have hK : KeepB nx h' h := KeepB.sub hE (by repeat' first | exact hE2 | exact hK2 | exact hE | exact hK | exact keep_rfl | refine keep_upd_of (by omega) ?_ | refine KeepB.sub hE2 ?_ (by omega)) (by omega)
    simp [-List.map_take, -List.map_drop, -List.map_tail]
    have e1 : h' (nx) = some (.obj [.int .i64 0, .int .i64 0, .int .i64 0, .int .i64 0]) := by have := hE (nx) (by omega); simpa using this
    have e1n : ∀ k, ((nx) = n' + k) = False := fun k => by simp only [eq_iff_iff, iff_false]; omega
    have e1m : ((nx) = n') = False := by simp only [eq_iff_iff, iff_false]; omega
    try simp [-List.map_take, -List.map_drop, -List.map_tail, run_guard, run_guardD, resultsA, resA, Nat.add_assoc, evtC, e1, e1n, e1m]
    repeat'
      first
      | done
      | ((first
          | ((with_reducible show lenS _ _ _ _ _ _); refine lenS_slice rfl fun _ => ?_)
          | ((with_reducible show iaddrS _ _ _ _ _ _ _); refine iaddr_map rfl (by first | omega | (simp; done) | (simp; omega) | (simp [inR, isIn] at *; done) | (simp [inR, isIn] at *; omega)) (by first | omega | (simp; done) | (simp; omega) | (simp [inR, isIn] at *; done) | (simp [inR, isIn] at *; omega)) ?_)
          | ((with_reducible show doCall _ _ _ 88 _ _); refine call_pc (c_Contains) ?_)) <;> simp [-List.map_take, -List.map_drop, -List.map_tail, run_guard, run_guardD, resultsA, resA, Nat.add_assoc, evtC, e1, e1n, e1m])
      | ((first | (with_reducible refine condS_split ?_ ?_)) <;> intro qb <;> (have qp := qb; try simp only [psq] at qp) <;> simp [-List.map_take, -List.map_drop, -List.map_tail, run_guard, run_guardD, resultsA, resA, Nat.add_assoc, evtC, e1, e1n, e1m, qb])
    · have hf : firstOf t l n = some (gt l i) := by rw [drop_gt (xs := l) (i := i) (by omega), List.find?_cons] at hJ; simpa [qp] using hJ.symm
      refine ⟨by simp [hf], (by repeat' first | exact hE2 | exact hK2 | exact hE | exact hK | exact keep_rfl | refine keep_upd_of (by omega) ?_ | refine KeepB.sub hE2 ?_ (by omega))⟩
    · have hf : (l.drop (i + 1)).find? (fun e => (chain t n).contains e.node) = firstOf t l n := by rw [drop_gt (xs := l) (i := i) (by omega), List.find?_cons] at hJ; simpa [qp] using hJ
      refine hnx.go () ?_ ?_ ?_ ?_ ?_ ?_
      · omega
      · simp [wrap_succ (show i < l.length by omega) hlim]
      · simp
      · exact (by repeat' first | exact hE2 | exact hK2 | exact hE | exact hK | exact keep_rfl | refine keep_upd_of (by omega) ?_ | refine KeepB.sub hE2 ?_ (by omega))
      · first | omega | (simp; omega)
      exact hf
    · have hf : firstOf t l n = none := by rw [← hJ, List.drop_eq_nil_of_le (by omega)]; rfl
      refine ⟨by simp [hf], (by repeat' first | exact hE2 | exact hK2 | exact hE | exact hK | exact keep_rfl | refine keep_upd_of (by omega) ?_ | refine KeepB.sub hE2 ?_ (by omega))⟩

-- (impl.Event).fits
theorem c_fits {p q : Bool} {t : List Nod} {l : List Evt} {e : Evt} (ht : treeOk t = true) : PC ctx.P 267 [.agg (evtC e), .view p 5 (t.map nodC), .view q 4 (l.map evtC)] (.bool (fits t l e)) := by
  refine PC.lim (n := l.length) (x := .view q 4 (l.map evtC)) (by simp) (.here (by simp)) ⟨_, Tryz.func267, by kernel_rfl, by kernel_rfl⟩ fun hlim => ?_
  by_cases hev : isEvent t e = true
  · have hb : 0 ≤ e.node ∧ e.node < t.length := by
      unfold isEvent at hev; split at hev
      · cases hev
      · rename_i h2; simpa [isIn_true] using h2
    refine PC.of okC Tryz.func267 rfl rfl (by kernel_rfl) (Nat.le_of_ble_eq_true rfl) (.bool _) fun h nx hnx => ?_
    show goC ctx _ _ (.fin (RetP _ _ _ _ _))
    try simp [-List.map_take, -List.map_drop, -List.map_tail, run_guard, run_guardD, resultsA, resA, Nat.add_assoc, evtC, wrap_pred hlim, hev]
    repeat'
      first
      | done
      | ((first
          | ((with_reducible show lenS _ _ _ _ _ _); refine lenS_slice rfl fun _ => ?_)
          | ((with_reducible show iaddrS _ _ _ _ _ _ _); refine iaddr_map rfl (by first | omega | (simp; done) | (simp; omega) | (simp [inR, isIn] at *; done) | (simp [inR, isIn] at *; omega)) (by first | omega | (simp; done) | (simp; omega) | (simp [inR, isIn] at *; done) | (simp [inR, isIn] at *; omega)) ?_)
          | ((with_reducible show doCall _ _ _ 342 _ _); refine call_pc (c_isEvent (e := e)) ?_)
          | ((with_reducible show doCall _ _ _ 91 _ _); refine call_pc (c_firstOf ht hb.1 hb.2) ?_)
          | (with_reducible refine go_draw (i := 1) [(0, [], []), (1, [], []), (2, [], []), (3, [], []), (4, [], []), (5, [], []), (6, [], []), (7, [], []), (8, [], []), (9, [], []), (10, [], []), (11, [], []), (12, [], []), (13, [], []), (14, [], []), (15, [], []), (16, [], []), (17, [], []), (18, [], []), (19, [], []), (20, [], [])] (by kernel_rfl) ?_)) <;> simp [-List.map_take, -List.map_drop, -List.map_tail, run_guard, run_guardD, resultsA, resA, Nat.add_assoc, evtC, wrap_pred hlim, hev])
      | ((first | (with_reducible refine guardD_split ?_ ?_) | (with_reducible refine condS_split ?_ ?_)) <;> intro qb <;> (have qp := qb; try simp only [psq] at qp) <;> simp [-List.map_take, -List.map_drop, -List.map_tail, run_guard, run_guardD, resultsA, resA, Nat.add_assoc, evtC, wrap_pred hlim, hev, qb])
    all_goals (try clear hnx)
    all_goals first | (simp_all [fits]; done) | (simp_all [fits]; omega) | (rw [Bool.eq_iff_iff]; simp_all [fits]; done) | (rw [Bool.eq_iff_iff]; simp_all [fits]; omega) | omega | (simp only [fits]; grind) | grind
  · refine PC.of okC Tryz.func267 rfl rfl (by kernel_rfl) (Nat.le_of_ble_eq_true rfl) (.bool _) fun h nx hnx => ?_
    show goC ctx _ _ (.fin (RetP _ _ _ _ _))
    try simp [-List.map_take, -List.map_drop, -List.map_tail, run_guard, run_guardD, resultsA, resA, Nat.add_assoc, evtC, hev]
    repeat'
      first
      | done
      | ((first
          | ((with_reducible show lenS _ _ _ _ _ _); refine lenS_slice rfl fun _ => ?_)
          | ((with_reducible show iaddrS _ _ _ _ _ _ _); refine iaddr_map rfl (by first | omega | (simp; done) | (simp; omega) | (simp [inR, isIn] at *; done) | (simp [inR, isIn] at *; omega)) (by first | omega | (simp; done) | (simp; omega) | (simp [inR, isIn] at *; done) | (simp [inR, isIn] at *; omega)) ?_)
          | ((with_reducible show doCall _ _ _ 342 _ _); refine call_pc (c_isEvent (e := e)) ?_)
          | (with_reducible refine go_draw (i := 1) [(0, [], []), (1, [], []), (2, [], []), (3, [], []), (4, [], []), (5, [], []), (6, [], []), (7, [], []), (8, [], []), (9, [], []), (10, [], []), (11, [], []), (12, [], []), (13, [], []), (14, [], []), (15, [], []), (16, [], []), (17, [], []), (18, [], []), (19, [], []), (20, [], [])] (by kernel_rfl) ?_)) <;> simp [-List.map_take, -List.map_drop, -List.map_tail, run_guard, run_guardD, resultsA, resA, Nat.add_assoc, evtC, hev])
      | ((first | (with_reducible refine guardD_split ?_ ?_) | (with_reducible refine condS_split ?_ ?_)) <;> intro qb <;> (have qp := qb; try simp only [psq] at qp) <;> simp [-List.map_take, -List.map_drop, -List.map_tail, run_guard, run_guardD, resultsA, resA, Nat.add_assoc, evtC, hev, qb])
    all_goals (try clear hnx)
    all_goals first | (simp_all [fits]; done) | (simp_all [fits]; omega) | (rw [Bool.eq_iff_iff]; simp_all [fits]; done) | (rw [Bool.eq_iff_iff]; simp_all [fits]; omega) | omega | (simp only [fits]; grind) | grind
end Go.AE.Tryz
end

section
/- Contracts of the program's readers: events, worlds. -/
set_option linter.unusedSimpArgs false
set_option linter.unusedVariables false
set_option maxRecDepth 8000
set_option maxHeartbeats 2000000
namespace Go.AE.Tryz
open Go.Proofs

-- impl.EventsOk
theorem c_EventsOk {p q : Bool} {t : List Nod} {l : List Evt} : PC ctx.P 162 [.view p 5 (t.map nodC), .view q 4 (l.map evtC)] (.bool (eventsOk t l)) := by
  refine PC.lim (n := l.length) (x := .view q 4 (l.map evtC)) (by simp) (.here (by simp)) ⟨_, Tryz.func162, by kernel_rfl, by kernel_rfl⟩ fun hlim => ?_
  by_cases ht : treeOk t = true
  · refine PC.of okC Tryz.func162 rfl rfl (by kernel_rfl) (Nat.le_of_ble_eq_true rfl) (.bool _) fun h nx hnx => ?_
    show goC ctx _ _ (.fin (RetP _ _ _ _ _))
    try simp [-List.map_take, -List.map_drop, -List.map_tail, run_guard, run_guardD, resultsA, resA, Nat.add_assoc, ht]
    repeat'
      first
      | done
      | ((first
          | ((with_reducible show lenS _ _ _ _ _ _); refine lenS_slice rfl fun _ => ?_)
          | ((with_reducible show iaddrS _ _ _ _ _ _ _); refine iaddr_map rfl (by first | omega | (simp; done) | (simp; omega) | (simp [inR, isIn] at *; done) | (simp [inR, isIn] at *; omega)) (by first | omega | (simp; done) | (simp; omega) | (simp [inR, isIn] at *; done) | (simp [inR, isIn] at *; omega)) ?_)
          | ((with_reducible show sliceS _ _ _ _ _ _ _ _); refine slice_to rfl (by first | omega | (simp; done) | (simp; omega) | (simp [inR, isIn] at *; done) | (simp [inR, isIn] at *; omega)) (by first | omega | (simp; done) | (simp; omega) | (simp [inR, isIn] at *; done) | (simp [inR, isIn] at *; omega)) ?_)
          | ((with_reducible show sliceS _ _ _ _ _ _ _ _); refine slice_from rfl (by first | omega | (simp; done) | (simp; omega) | (simp [inR, isIn] at *; done) | (simp [inR, isIn] at *; omega)) (by first | omega | (simp; done) | (simp; omega) | (simp [inR, isIn] at *; done) | (simp [inR, isIn] at *; omega)) ?_)
          | ((with_reducible show sliceS _ _ _ _ _ _ _ _); refine slice_mid rfl (by first | omega | (simp; done) | (simp; omega) | (simp [inR, isIn] at *; done) | (simp [inR, isIn] at *; omega)) (by first | omega | (simp; done) | (simp; omega) | (simp [inR, isIn] at *; done) | (simp [inR, isIn] at *; omega)) (by first | omega | (simp; done) | (simp; omega) | (simp [inR, isIn] at *; done) | (simp [inR, isIn] at *; omega)) ?_)
          | ((with_reducible show sliceI _ _ _ _ _ _ _ _ _ _ _); refine sliceI_to rfl (by first | omega | (simp; done) | (simp; omega) | (simp [inR, isIn] at *; done) | (simp [inR, isIn] at *; omega)) (by first | omega | (simp; done) | (simp; omega) | (simp [inR, isIn] at *; done) | (simp [inR, isIn] at *; omega)) ?_)
          | ((with_reducible show sliceI _ _ _ _ _ _ _ _ _ _ _); refine sliceI_from rfl (by first | omega | (simp; done) | (simp; omega) | (simp [inR, isIn] at *; done) | (simp [inR, isIn] at *; omega)) (by first | omega | (simp; done) | (simp; omega) | (simp [inR, isIn] at *; done) | (simp [inR, isIn] at *; omega)) ?_)
          | ((with_reducible show sliceI _ _ _ _ _ _ _ _ _ _ _); refine sliceI_mid rfl (by first | omega | (simp; done) | (simp; omega) | (simp [inR, isIn] at *; done) | (simp [inR, isIn] at *; omega)) (by first | omega | (simp; done) | (simp; omega) | (simp [inR, isIn] at *; done) | (simp [inR, isIn] at *; omega)) (by first | omega | (simp; done) | (simp; omega) | (simp [inR, isIn] at *; done) | (simp [inR, isIn] at *; omega)) ?_)
          | ((with_reducible show doCall _ _ _ 266 _ _); refine call_pc (c_TreeOk) ?_)
          | (with_reducible refine go_draw (i := 6) [(0, [], []), (1, [], []), (2, [], []), (3, [], []), (4, [], []), (5, [], []), (6, [], [])] (by kernel_rfl) ?_)) <;> simp [-List.map_take, -List.map_drop, -List.map_tail, run_guard, run_guardD, resultsA, resA, Nat.add_assoc, ht])
      | ((first | (with_reducible refine condS_split ?_ ?_)) <;> intro qb <;> (have qp := qb; try simp only [psq] at qp) <;> simp [-List.map_take, -List.map_drop, -List.map_tail, run_guard, run_guardD, resultsA, resA, Nat.add_assoc, ht, qb])
    refine go_upP [4, 5, 6, 12, 13, 14, 15, 16, 17, 18, 19, 20, 21, 22, 23, 24] (l.length) (fun (i : Nat) a => [(12, .int .i64 i)]) (fun i_ a_ h_ _ => (fun i (_ : Unit) _ => allI (fun i e => fits t (l.take i.toNat) e) (l.drop i) i = allI (fun i e => fits t (l.take i.toNat) e) l 0) i_ a_ h_) (()) (by simp) ?_ keep_rfl (Nat.le_refl _) ?_
    · simp
    · intro i a tm h' n' hle hJ hE hn' next hnx
      try dsimp only at hJ
      have hK : KeepB nx h' h := KeepB.sub hE (by repeat' first | exact hE2 | exact hK2 | exact hE | exact hK | exact keep_rfl | refine keep_upd_of (by omega) ?_ | refine KeepB.sub hE2 ?_ (by omega)) (by omega)
      simp [-List.map_take, -List.map_drop, -List.map_tail]
      try simp [-List.map_take, -List.map_drop, -List.map_tail, run_guard, run_guardD, resultsA, resA, Nat.add_assoc]
      repeat'
        first
        | done
        | ((first
            | ((with_reducible show lenS _ _ _ _ _ _); refine lenS_slice rfl fun _ => ?_)
            | ((with_reducible show iaddrS _ _ _ _ _ _ _); refine iaddr_map rfl (by first | omega | (simp; done) | (simp; omega) | (simp [inR, isIn] at *; done) | (simp [inR, isIn] at *; omega)) (by first | omega | (simp; done) | (simp; omega) | (simp [inR, isIn] at *; done) | (simp [inR, isIn] at *; omega)) ?_)
            | ((with_reducible show sliceS _ _ _ _ _ _ _ _); refine slice_to rfl (by first | omega | (simp; done) | (simp; omega) | (simp [inR, isIn] at *; done) | (simp [inR, isIn] at *; omega)) (by first | omega | (simp; done) | (simp; omega) | (simp [inR, isIn] at *; done) | (simp [inR, isIn] at *; omega)) ?_)
            | ((with_reducible show sliceS _ _ _ _ _ _ _ _); refine slice_from rfl (by first | omega | (simp; done) | (simp; omega) | (simp [inR, isIn] at *; done) | (simp [inR, isIn] at *; omega)) (by first | omega | (simp; done) | (simp; omega) | (simp [inR, isIn] at *; done) | (simp [inR, isIn] at *; omega)) ?_)
            | ((with_reducible show sliceS _ _ _ _ _ _ _ _); refine slice_mid rfl (by first | omega | (simp; done) | (simp; omega) | (simp [inR, isIn] at *; done) | (simp [inR, isIn] at *; omega)) (by first | omega | (simp; done) | (simp; omega) | (simp [inR, isIn] at *; done) | (simp [inR, isIn] at *; omega)) (by first | omega | (simp; done) | (simp; omega) | (simp [inR, isIn] at *; done) | (simp [inR, isIn] at *; omega)) ?_)
            | ((with_reducible show sliceI _ _ _ _ _ _ _ _ _ _ _); refine sliceI_to rfl (by first | omega | (simp; done) | (simp; omega) | (simp [inR, isIn] at *; done) | (simp [inR, isIn] at *; omega)) (by first | omega | (simp; done) | (simp; omega) | (simp [inR, isIn] at *; done) | (simp [inR, isIn] at *; omega)) ?_)
            | ((with_reducible show sliceI _ _ _ _ _ _ _ _ _ _ _); refine sliceI_from rfl (by first | omega | (simp; done) | (simp; omega) | (simp [inR, isIn] at *; done) | (simp [inR, isIn] at *; omega)) (by first | omega | (simp; done) | (simp; omega) | (simp [inR, isIn] at *; done) | (simp [inR, isIn] at *; omega)) ?_)
            | ((with_reducible show sliceI _ _ _ _ _ _ _ _ _ _ _); refine sliceI_mid rfl (by first | omega | (simp; done) | (simp; omega) | (simp [inR, isIn] at *; done) | (simp [inR, isIn] at *; omega)) (by first | omega | (simp; done) | (simp; omega) | (simp [inR, isIn] at *; done) | (simp [inR, isIn] at *; omega)) (by first | omega | (simp; done) | (simp; omega) | (simp [inR, isIn] at *; done) | (simp [inR, isIn] at *; omega)) ?_)
            | ((with_reducible show doCall _ _ _ 267 _ _); refine call_pc (c_fits ht) ?_)
            | (with_reducible refine go_draw (i := 6) [(0, [], []), (1, [], []), (2, [], []), (3, [], []), (4, [], []), (5, [], []), (6, [], [])] (by kernel_rfl) ?_)) <;> simp [-List.map_take, -List.map_drop, -List.map_tail, run_guard, run_guardD, resultsA, resA, Nat.add_assoc])
        | ((first | (with_reducible refine condS_split ?_ ?_)) <;> intro qb <;> (have qp := qb; try simp only [psq] at qp) <;> simp [-List.map_take, -List.map_drop, -List.map_tail, run_guard, run_guardD, resultsA, resA, Nat.add_assoc, qb])
      all_goals
        first
        | (have hlt : i < l.length := (by first | omega | (simp at *; omega))
           rw [drop_gt hlt] at hJ
           first
           | (refine hnx.go (()) ?_ ?_ ?_ ?_ ?_ ?_; omega; (simp [wrap_succ hlt hlim]); (simp); exact (by repeat' first | exact hE2 | exact hK2 | exact hE | exact hK | exact keep_rfl | refine keep_upd_of (by omega) ?_ | refine KeepB.sub hE2 ?_ (by omega)); (first | omega | (simp; omega)); (try dsimp only); clear hnx; first | ((try simp only [List.drop_length, Int.toNat_natCast, allI, eventsOk] at hJ ⊢); grind) | (simp_all [allI, eventsOk]; done) | (simp_all; omega))
           | (refine ⟨?_, (by repeat' first | exact hE2 | exact hK2 | exact hE | exact hK | exact keep_rfl | refine keep_upd_of (by omega) ?_ | refine KeepB.sub hE2 ?_ (by omega))⟩; clear hnx; first | ((try simp only [List.drop_length, Int.toNat_natCast, allI, eventsOk] at hJ ⊢); grind) | (simp_all [allI, eventsOk]; done) | (simp_all; omega)))
        | (obtain rfl : i = l.length := (by first | omega | (simp at *; omega))
           refine ⟨?_, (by repeat' first | exact hE2 | exact hK2 | exact hE | exact hK | exact keep_rfl | refine keep_upd_of (by omega) ?_ | refine KeepB.sub hE2 ?_ (by omega))⟩; clear hnx; first | ((try simp only [List.drop_length, Int.toNat_natCast, allI, eventsOk] at hJ ⊢); grind) | (simp_all [allI, eventsOk]; done) | (simp_all; omega))
  · refine PC.of okC Tryz.func162 rfl rfl (by kernel_rfl) (Nat.le_of_ble_eq_true rfl) (.bool _) fun h nx hnx => ?_
    show goC ctx _ _ (.fin (RetP _ _ _ _ _))
    try simp [-List.map_take, -List.map_drop, -List.map_tail, run_guard, run_guardD, resultsA, resA, Nat.add_assoc, ht]
    repeat'
      first
      | done
      | ((first
          | ((with_reducible show lenS _ _ _ _ _ _); refine lenS_slice rfl fun _ => ?_)
          | ((with_reducible show iaddrS _ _ _ _ _ _ _); refine iaddr_map rfl (by first | omega | (simp; done) | (simp; omega) | (simp [inR, isIn] at *; done) | (simp [inR, isIn] at *; omega)) (by first | omega | (simp; done) | (simp; omega) | (simp [inR, isIn] at *; done) | (simp [inR, isIn] at *; omega)) ?_)
          | ((with_reducible show sliceS _ _ _ _ _ _ _ _); refine slice_to rfl (by first | omega | (simp; done) | (simp; omega) | (simp [inR, isIn] at *; done) | (simp [inR, isIn] at *; omega)) (by first | omega | (simp; done) | (simp; omega) | (simp [inR, isIn] at *; done) | (simp [inR, isIn] at *; omega)) ?_)
          | ((with_reducible show sliceS _ _ _ _ _ _ _ _); refine slice_from rfl (by first | omega | (simp; done) | (simp; omega) | (simp [inR, isIn] at *; done) | (simp [inR, isIn] at *; omega)) (by first | omega | (simp; done) | (simp; omega) | (simp [inR, isIn] at *; done) | (simp [inR, isIn] at *; omega)) ?_)
          | ((with_reducible show sliceS _ _ _ _ _ _ _ _); refine slice_mid rfl (by first | omega | (simp; done) | (simp; omega) | (simp [inR, isIn] at *; done) | (simp [inR, isIn] at *; omega)) (by first | omega | (simp; done) | (simp; omega) | (simp [inR, isIn] at *; done) | (simp [inR, isIn] at *; omega)) (by first | omega | (simp; done) | (simp; omega) | (simp [inR, isIn] at *; done) | (simp [inR, isIn] at *; omega)) ?_)
          | ((with_reducible show sliceI _ _ _ _ _ _ _ _ _ _ _); refine sliceI_to rfl (by first | omega | (simp; done) | (simp; omega) | (simp [inR, isIn] at *; done) | (simp [inR, isIn] at *; omega)) (by first | omega | (simp; done) | (simp; omega) | (simp [inR, isIn] at *; done) | (simp [inR, isIn] at *; omega)) ?_)
          | ((with_reducible show sliceI _ _ _ _ _ _ _ _ _ _ _); refine sliceI_from rfl (by first | omega | (simp; done) | (simp; omega) | (simp [inR, isIn] at *; done) | (simp [inR, isIn] at *; omega)) (by first | omega | (simp; done) | (simp; omega) | (simp [inR, isIn] at *; done) | (simp [inR, isIn] at *; omega)) ?_)
          | ((with_reducible show sliceI _ _ _ _ _ _ _ _ _ _ _); refine sliceI_mid rfl (by first | omega | (simp; done) | (simp; omega) | (simp [inR, isIn] at *; done) | (simp [inR, isIn] at *; omega)) (by first | omega | (simp; done) | (simp; omega) | (simp [inR, isIn] at *; done) | (simp [inR, isIn] at *; omega)) (by first | omega | (simp; done) | (simp; omega) | (simp [inR, isIn] at *; done) | (simp [inR, isIn] at *; omega)) ?_)
          | ((with_reducible show doCall _ _ _ 266 _ _); refine call_pc (c_TreeOk) ?_)
          | (with_reducible refine go_draw (i := 6) [(0, [], []), (1, [], []), (2, [], []), (3, [], []), (4, [], []), (5, [], []), (6, [], [])] (by kernel_rfl) ?_)) <;> simp [-List.map_take, -List.map_drop, -List.map_tail, run_guard, run_guardD, resultsA, resA, Nat.add_assoc, ht])
      | ((first | (with_reducible refine condS_split ?_ ?_)) <;> intro qb <;> (have qp := qb; try simp only [psq] at qp) <;> simp [-List.map_take, -List.map_drop, -List.map_tail, run_guard, run_guardD, resultsA, resA, Nat.add_assoc, ht, qb])
    all_goals (try clear hnx)
    all_goals first | (simp_all [eventsOk]; done) | (simp_all [eventsOk]; omega) | (rw [Bool.eq_iff_iff]; simp_all [eventsOk]; done) | (rw [Bool.eq_iff_iff]; simp_all [eventsOk]; omega) | omega | (simp only [eventsOk]; grind) | grind
-- impl.AftersOk
theorem c_AftersOk {F : Nat → Bool} {x : Afs} : PC ctx.P 169 [.agg (afsV F x)] (.bool (afsOk x)) := by
  refine PC.lim (n := x.list.length) (x := .agg (afsV F x)) (by simp) (.agg (x := .view (F 10) 5 (x.list.map afrC)) (by simp [afsV]) (.here (by simp))) ⟨_, Tryz.func169, by kernel_rfl, by kernel_rfl⟩ fun hlim => ?_
  by_cases hs : sltOk x.slots = true
  · have hl : x.slots.used.length = x.slots.ages.length := by simp [sltOk] at hs; omega
    refine PC.of okC Tryz.func169 rfl rfl (by kernel_rfl) (Nat.le_of_ble_eq_true rfl) (.bool _) fun h nx hnx => ?_
    show goC ctx _ _ (.fin (RetP _ _ _ _ _))
    try simp [-List.map_take, -List.map_drop, -List.map_tail, run_guard, run_guardD, resultsA, resA, Nat.add_assoc, afsV, hs]
    repeat'
      first
      | done
      | ((first
          | ((with_reducible show lenS _ _ _ _ _ _); refine lenS_slice rfl fun _ => ?_)
          | ((with_reducible show iaddrS _ _ _ _ _ _ _); refine iaddr_map rfl (by first | omega | (simp; done) | (simp; omega) | (simp [inR, isIn] at *; done) | (simp [inR, isIn] at *; omega)) (by first | omega | (simp; done) | (simp; omega) | (simp [inR, isIn] at *; done) | (simp [inR, isIn] at *; omega)) ?_)
          | ((with_reducible show doCall _ _ _ 276 _ _); refine call_pc (c_SlotsOk (s := x.slots) (F := F)) ?_)
          | ((with_reducible show doCall _ _ _ 277 _ _); refine call_pc (c_size_After) ?_)
          | ((with_reducible show doCall _ _ _ 278 _ _); refine call_pc (c_used (s := x.slots) (F := F)) ?_)
          | (with_reducible refine go_draw (i := 1) [(0, [], []), (1, [], []), (2, [], []), (3, [], []), (4, [], []), (5, [], []), (6, [], []), (8, [], []), (9, [], []), (7, [.tmp 13], []), (10, [], []), (11, [], []), (12, [], [])] (by kernel_rfl) ?_)) <;> simp [-List.map_take, -List.map_drop, -List.map_tail, run_guard, run_guardD, resultsA, resA, Nat.add_assoc, afsV, hs])
      | ((first | (with_reducible refine guardD_split ?_ ?_) | (with_reducible refine guardS_split ?_ ?_) | (with_reducible refine condS_split ?_ ?_)) <;> intro qb <;> (have qp := qb; try simp only [psq] at qp) <;> simp [-List.map_take, -List.map_drop, -List.map_tail, run_guard, run_guardD, resultsA, resA, Nat.add_assoc, afsV, hs, qb])
    · simp only [afsOk]; grind
    · refine go_upP [2, 3, 4, 21, 22, 23, 24, 25, 26, 27, 28, 29, 30, 31, 32, 33, 34, 35, 36, 37, 38, 39, 40, 41, 42, 43, 44, 45, 46, 47, 48] (x.list.length) (fun (i : Nat) a => [(21, .int .i64 i)]) (fun i_ a_ h_ _ => (fun i (_ : Unit) _ => allI (fun i y => isAfter y.node y.fn && (sltHolds x.slots y.han && afsAt x.list y.han == i)) (x.list.drop i) i = allI (fun i y => isAfter y.node y.fn && (sltHolds x.slots y.han && afsAt x.list y.han == i)) x.list 0) i_ a_ h_) (()) (by simp) ?_ keep_rfl (Nat.le_refl _) ?_
      · simp
      · intro i a tm h' n' hle hJ hE hn' next hnx
        try dsimp only at hJ
        have hK : KeepB nx h' h := KeepB.sub hE (by repeat' first | exact hE2 | exact hK2 | exact hE | exact hK | exact keep_rfl | refine keep_upd_of (by omega) ?_ | refine KeepB.sub hE2 ?_ (by omega)) (by omega)
        simp [-List.map_take, -List.map_drop, -List.map_tail]
        have e1 : h' (nx) = some (.obj (afsV F x)) := by have := hE (nx) (by omega); simpa [afsV] using this
        have e1n : ∀ k, ((nx) = n' + k) = False := fun k => by simp only [eq_iff_iff, iff_false]; omega
        have e1m : ((nx) = n') = False := by simp only [eq_iff_iff, iff_false]; omega
        try simp [-List.map_take, -List.map_drop, -List.map_tail, run_guard, run_guardD, resultsA, resA, Nat.add_assoc, afsV, afrC, e1, e1n, e1m]
        repeat'
          first
          | done
          | ((first
              | ((with_reducible show lenS _ _ _ _ _ _); refine lenS_slice rfl fun _ => ?_)
              | ((with_reducible show iaddrS _ _ _ _ _ _ _); refine iaddr_map rfl (by first | omega | (simp; done) | (simp; omega) | (simp [inR, isIn] at *; done) | (simp [inR, isIn] at *; omega)) (by first | omega | (simp; done) | (simp; omega) | (simp [inR, isIn] at *; done) | (simp [inR, isIn] at *; omega)) ?_)
              | ((with_reducible show doCall _ _ _ 279 _ _); refine call_pc (c_isAfter) ?_)
              | ((with_reducible show doCall _ _ _ 280 _ _); refine call_pc (c_holds (s := x.slots) (F := F) (x := (gt x.list (i : Int)).han) hl) ?_)
              | ((with_reducible show doCall _ _ _ 281 _ _); refine call_pc (c_afsAt (a := x) (F := F) (x := (gt x.list (i : Int)).han)) ?_)
              | (with_reducible refine go_draw (i := 1) [(0, [], []), (1, [], []), (2, [], []), (3, [], []), (4, [], []), (5, [], []), (6, [], []), (8, [], []), (9, [], []), (7, [.tmp 13], []), (10, [], []), (11, [], []), (12, [], [])] (by kernel_rfl) ?_)) <;> simp [-List.map_take, -List.map_drop, -List.map_tail, run_guard, run_guardD, resultsA, resA, Nat.add_assoc, afsV, afrC, e1, e1n, e1m])
          | ((first | (with_reducible refine guardD_split ?_ ?_) | (with_reducible refine guardS_split ?_ ?_) | (with_reducible refine condS_split ?_ ?_)) <;> intro qb <;> (have qp := qb; try simp only [psq] at qp) <;> simp [-List.map_take, -List.map_drop, -List.map_tail, run_guard, run_guardD, resultsA, resA, Nat.add_assoc, afsV, afrC, e1, e1n, e1m, qb])
        all_goals
          first
          | (have hlt : i < x.list.length := (by first | omega | (simp at *; omega))
             rw [drop_gt hlt] at hJ
             first
             | (refine hnx.go (()) ?_ ?_ ?_ ?_ ?_ ?_; omega; (simp [wrap_succ hlt hlim]); (simp); exact (by repeat' first | exact hE2 | exact hK2 | exact hE | exact hK | exact keep_rfl | refine keep_upd_of (by omega) ?_ | refine KeepB.sub hE2 ?_ (by omega)); (first | omega | (simp; omega)); (try dsimp only); clear hnx; first | ((try simp only [List.drop_length, Int.toNat_natCast, allI, afsOk] at hJ ⊢); grind) | (simp_all [allI, afsOk]; done) | (simp_all; omega))
             | (refine ⟨?_, (by repeat' first | exact hE2 | exact hK2 | exact hE | exact hK | exact keep_rfl | refine keep_upd_of (by omega) ?_ | refine KeepB.sub hE2 ?_ (by omega))⟩; clear hnx; first | ((try simp only [List.drop_length, Int.toNat_natCast, allI, afsOk] at hJ ⊢); grind) | (simp_all [allI, afsOk]; done) | (simp_all; omega)))
          | (obtain rfl : i = x.list.length := (by first | omega | (simp at *; omega))
             refine ⟨?_, (by repeat' first | exact hE2 | exact hK2 | exact hE | exact hK | exact keep_rfl | refine keep_upd_of (by omega) ?_ | refine KeepB.sub hE2 ?_ (by omega))⟩; clear hnx; first | ((try simp only [List.drop_length, Int.toNat_natCast, allI, afsOk] at hJ ⊢); grind) | (simp_all [allI, afsOk]; done) | (simp_all; omega))
  · refine PC.of okC Tryz.func169 rfl rfl (by kernel_rfl) (Nat.le_of_ble_eq_true rfl) (.bool _) fun h nx hnx => ?_
    show goC ctx _ _ (.fin (RetP _ _ _ _ _))
    try simp [-List.map_take, -List.map_drop, -List.map_tail, run_guard, run_guardD, resultsA, resA, Nat.add_assoc, afsV, hs]
    repeat'
      first
      | done
      | ((first
          | ((with_reducible show lenS _ _ _ _ _ _); refine lenS_slice rfl fun _ => ?_)
          | ((with_reducible show iaddrS _ _ _ _ _ _ _); refine iaddr_map rfl (by first | omega | (simp; done) | (simp; omega) | (simp [inR, isIn] at *; done) | (simp [inR, isIn] at *; omega)) (by first | omega | (simp; done) | (simp; omega) | (simp [inR, isIn] at *; done) | (simp [inR, isIn] at *; omega)) ?_)
          | ((with_reducible show doCall _ _ _ 276 _ _); refine call_pc (c_SlotsOk (s := x.slots) (F := F)) ?_)
          | (with_reducible refine go_draw (i := 1) [(0, [], []), (1, [], []), (2, [], []), (3, [], []), (4, [], []), (5, [], []), (6, [], []), (8, [], []), (9, [], []), (7, [.tmp 13], []), (10, [], []), (11, [], []), (12, [], [])] (by kernel_rfl) ?_)) <;> simp [-List.map_take, -List.map_drop, -List.map_tail, run_guard, run_guardD, resultsA, resA, Nat.add_assoc, afsV, hs])
      | ((first | (with_reducible refine guardD_split ?_ ?_) | (with_reducible refine guardS_split ?_ ?_) | (with_reducible refine condS_split ?_ ?_)) <;> intro qb <;> (have qp := qb; try simp only [psq] at qp) <;> simp [-List.map_take, -List.map_drop, -List.map_tail, run_guard, run_guardD, resultsA, resA, Nat.add_assoc, afsV, hs, qb])
    all_goals (try clear hnx)
    all_goals first | (simp_all [afsOk]; done) | (simp_all [afsOk]; omega) | (rw [Bool.eq_iff_iff]; simp_all [afsOk]; done) | (rw [Bool.eq_iff_iff]; simp_all [afsOk]; omega) | omega | (simp only [afsOk]; grind) | grind
-- impl.GroupOk
theorem c_GroupOk {p : Bool} {g : Grp} : PC ctx.P 292 [.agg (grpV p g)] (.bool (grpOk g)) := by
  refine PC.lim (n := g.waits.length) (x := .agg (grpV p g)) (by simp) (.agg (x := .view p 1 (g.waits.map iv)) (by simp [grpV]) (.here (by simp))) ⟨_, Tryz.func292, by kernel_rfl, by kernel_rfl⟩ fun hlim => ?_
  refine PC.of okC Tryz.func292 rfl rfl (by kernel_rfl) (Nat.le_of_ble_eq_true rfl) (.bool _) fun h nx hnx => ?_
  show goC ctx _ _ (.fin (RetP _ _ _ _ _))
  try simp [-List.map_take, -List.map_drop, -List.map_tail, run_guard, run_guardD, resultsA, resA, Nat.add_assoc, grpV]
  repeat'
    first
    | done
    | ((first
        | ((with_reducible show lenS _ _ _ _ _ _); refine lenS_slice rfl fun _ => ?_)
        | ((with_reducible show iaddrS _ _ _ _ _ _ _); refine iaddr_map rfl (by first | omega | (simp; done) | (simp; omega) | (simp [inR, isIn] at *; done) | (simp [inR, isIn] at *; omega)) (by first | omega | (simp; done) | (simp; omega) | (simp [inR, isIn] at *; done) | (simp [inR, isIn] at *; omega)) ?_)
        | ((with_reducible show sliceS _ _ _ _ _ _ _ _); refine slice_to rfl (by first | omega | (simp; done) | (simp; omega) | (simp [inR, isIn] at *; done) | (simp [inR, isIn] at *; omega)) (by first | omega | (simp; done) | (simp; omega) | (simp [inR, isIn] at *; done) | (simp [inR, isIn] at *; omega)) ?_)
        | ((with_reducible show sliceS _ _ _ _ _ _ _ _); refine slice_from rfl (by first | omega | (simp; done) | (simp; omega) | (simp [inR, isIn] at *; done) | (simp [inR, isIn] at *; omega)) (by first | omega | (simp; done) | (simp; omega) | (simp [inR, isIn] at *; done) | (simp [inR, isIn] at *; omega)) ?_)
        | ((with_reducible show sliceS _ _ _ _ _ _ _ _); refine slice_mid rfl (by first | omega | (simp; done) | (simp; omega) | (simp [inR, isIn] at *; done) | (simp [inR, isIn] at *; omega)) (by first | omega | (simp; done) | (simp; omega) | (simp [inR, isIn] at *; done) | (simp [inR, isIn] at *; omega)) (by first | omega | (simp; done) | (simp; omega) | (simp [inR, isIn] at *; done) | (simp [inR, isIn] at *; omega)) ?_)
        | ((with_reducible show doCall _ _ _ 165 _ _); refine call_pc (c_within) ?_)) <;> simp [-List.map_take, -List.map_drop, -List.map_tail, run_guard, run_guardD, resultsA, resA, Nat.add_assoc, grpV])
    | ((first | (with_reducible refine guardS_split ?_ ?_) | (with_reducible refine condS_split ?_ ?_)) <;> intro qb <;> (have qp := qb; try simp only [psq] at qp) <;> simp [-List.map_take, -List.map_drop, -List.map_tail, run_guard, run_guardD, resultsA, resA, Nat.add_assoc, grpV, qb])
  all_goals first | (clear hnx; simp only [grpOk]; grind) | skip
  all_goals
    refine go_upP [2, 3, 4, 58, 59, 60, 61, 62, 63, 64, 65, 66, 67, 68, 69, 70, 71, 72, 73, 74] (g.waits.length) (fun (i : Nat) a => [(58, .int .i64 i)]) (fun i_ a_ h_ _ => (fun i (_ : Unit) _ => allI (fun i n => inR n 0 59 && !(g.waits.take i.toNat).contains n) (g.waits.drop i) i = allI (fun i n => inR n 0 59 && !(g.waits.take i.toNat).contains n) g.waits 0) i_ a_ h_) (()) (by simp) ?_ keep_rfl (Nat.le_refl _) ?_
    · simp
    · intro i a tm h' n' hle hJ hE hn' next hnx
      try dsimp only at hJ
      have hK : KeepB nx h' h := KeepB.sub hE (by repeat' first | exact hE2 | exact hK2 | exact hE | exact hK | exact keep_rfl | refine keep_upd_of (by omega) ?_ | refine KeepB.sub hE2 ?_ (by omega)) (by omega)
      simp [-List.map_take, -List.map_drop, -List.map_tail]
      have e1 : h' (nx) = some (.obj (grpV p g)) := by have := hE (nx) (by omega); simpa [grpV] using this
      have e1n : ∀ k, ((nx) = n' + k) = False := fun k => by simp only [eq_iff_iff, iff_false]; omega
      have e1m : ((nx) = n') = False := by simp only [eq_iff_iff, iff_false]; omega
      try simp [-List.map_take, -List.map_drop, -List.map_tail, run_guard, run_guardD, resultsA, resA, Nat.add_assoc, grpV, iv, e1, e1n, e1m]
      repeat'
        first
        | done
        | ((first
            | ((with_reducible show lenS _ _ _ _ _ _); refine lenS_slice rfl fun _ => ?_)
            | ((with_reducible show iaddrS _ _ _ _ _ _ _); refine iaddr_map rfl (by first | omega | (simp; done) | (simp; omega) | (simp [inR, isIn] at *; done) | (simp [inR, isIn] at *; omega)) (by first | omega | (simp; done) | (simp; omega) | (simp [inR, isIn] at *; done) | (simp [inR, isIn] at *; omega)) ?_)
            | ((with_reducible show sliceS _ _ _ _ _ _ _ _); refine slice_to rfl (by first | omega | (simp; done) | (simp; omega) | (simp [inR, isIn] at *; done) | (simp [inR, isIn] at *; omega)) (by first | omega | (simp; done) | (simp; omega) | (simp [inR, isIn] at *; done) | (simp [inR, isIn] at *; omega)) ?_)
            | ((with_reducible show sliceS _ _ _ _ _ _ _ _); refine slice_from rfl (by first | omega | (simp; done) | (simp; omega) | (simp [inR, isIn] at *; done) | (simp [inR, isIn] at *; omega)) (by first | omega | (simp; done) | (simp; omega) | (simp [inR, isIn] at *; done) | (simp [inR, isIn] at *; omega)) ?_)
            | ((with_reducible show sliceS _ _ _ _ _ _ _ _); refine slice_mid rfl (by first | omega | (simp; done) | (simp; omega) | (simp [inR, isIn] at *; done) | (simp [inR, isIn] at *; omega)) (by first | omega | (simp; done) | (simp; omega) | (simp [inR, isIn] at *; done) | (simp [inR, isIn] at *; omega)) (by first | omega | (simp; done) | (simp; omega) | (simp [inR, isIn] at *; done) | (simp [inR, isIn] at *; omega)) ?_)
            | ((with_reducible show doCall _ _ _ 165 _ _); refine call_pc (c_within) ?_)
            | ((with_reducible show doCall _ _ _ 88 _ _); refine call_pc (c_Contains) ?_)) <;> simp [-List.map_take, -List.map_drop, -List.map_tail, run_guard, run_guardD, resultsA, resA, Nat.add_assoc, grpV, iv, e1, e1n, e1m])
        | ((first | (with_reducible refine guardS_split ?_ ?_) | (with_reducible refine condS_split ?_ ?_)) <;> intro qb <;> (have qp := qb; try simp only [psq] at qp) <;> simp [-List.map_take, -List.map_drop, -List.map_tail, run_guard, run_guardD, resultsA, resA, Nat.add_assoc, grpV, iv, e1, e1n, e1m, qb])
      all_goals
        first
        | (have hlt : i < g.waits.length := (by first | omega | (simp at *; omega))
           rw [drop_gt hlt] at hJ
           first
           | (refine hnx.go (()) ?_ ?_ ?_ ?_ ?_ ?_; omega; (simp [wrap_succ hlt hlim]); (simp); exact (by repeat' first | exact hE2 | exact hK2 | exact hE | exact hK | exact keep_rfl | refine keep_upd_of (by omega) ?_ | refine KeepB.sub hE2 ?_ (by omega)); (first | omega | (simp; omega)); (try dsimp only); clear hnx; first | ((try simp only [List.drop_length, Int.toNat_natCast, allI, grpOk] at hJ ⊢); grind) | (simp_all [allI, grpOk]; done) | (simp_all; omega))
           | (refine ⟨?_, (by repeat' first | exact hE2 | exact hK2 | exact hE | exact hK | exact keep_rfl | refine keep_upd_of (by omega) ?_ | refine KeepB.sub hE2 ?_ (by omega))⟩; clear hnx; first | ((try simp only [List.drop_length, Int.toNat_natCast, allI, grpOk] at hJ ⊢); grind) | (simp_all [allI, grpOk]; done) | (simp_all; omega)))
        | (obtain rfl : i = g.waits.length := (by first | omega | (simp at *; omega))
           refine ⟨?_, (by repeat' first | exact hE2 | exact hK2 | exact hE | exact hK | exact keep_rfl | refine keep_upd_of (by omega) ?_ | refine KeepB.sub hE2 ?_ (by omega))⟩; clear hnx; first | ((try simp only [List.drop_length, Int.toNat_natCast, allI, grpOk] at hJ ⊢); grind) | (simp_all [allI, grpOk]; done) | (simp_all; omega))
end Go.AE.Tryz
end

section
/- Contracts of the program's readers: worlds. -/
set_option linter.unusedSimpArgs false
set_option linter.unusedVariables false
set_option maxRecDepth 8000
set_option maxHeartbeats 4000000
namespace Go.AE.Tryz
open Go.Proofs

-- (impl.World).isGroup
theorem c_isGroup {F : Nat → Bool} {p : Bool} {w : Wld} {g : Grp} : PC ctx.P 177 [.agg (wldV F w), .agg (grpV p g)] (.bool (isGroup w g)) := by
  refine PC.of okC Tryz.func177 rfl rfl (by kernel_rfl) (Nat.le_of_ble_eq_true rfl) (.bool _) fun h nx hnx => ?_
  show goC ctx _ _ (.fin (RetP _ _ _ _ _))
  try simp [-List.map_take, -List.map_drop, -List.map_tail, run_guard, run_guardD, resultsA, resA, Nat.add_assoc, wldV, nodC]
  repeat'
    first
    | done
    | ((first
        | ((with_reducible show iaddrS _ _ _ _ _ _ _); refine iaddr_map rfl (by first | omega | (simp; done) | (simp; omega) | (simp [inR, isIn] at *; done) | (simp [inR, isIn] at *; omega)) (by first | omega | (simp; done) | (simp; omega) | (simp [inR, isIn] at *; done) | (simp [inR, isIn] at *; omega)) ?_)
        | ((with_reducible show doCall _ _ _ 292 _ _); refine call_pc (c_GroupOk (g := g) (p := p)) ?_)
        | ((with_reducible show doCall _ _ _ 172 _ _); refine call_pc (c_isIn_Node) ?_)
        | ((with_reducible show doCall _ _ _ 268 _ _); refine call_pcB (c_ContainsFunc_int64 (q := fun i => !isIn i w.tasks) (fv := .fn 293 [.vptr (wldV F w)]) (fun x _ => c_isGroup1)) (by first | exact .bool _ | exact .int _ _ | exact .str _) (by repeat' first | exact Bors.nil | refine Bors.cons ?_ ?_ | exact Bor.same _ | refine Bor.fn1 ?_ | refine Bor.bnd1 ?_ | refine Bor.agg1 ?_ | refine Bor.ptr0 (by first | (simp; done) | (simp; rfl) | assumption | (simp [*]; done)) ?_ | refine Bor.ref0 (by first | (simp; done) | (simp; rfl) | (simp [iv, bv]; done)) (by simp) (by simp)) ?_)) <;> simp [-List.map_take, -List.map_drop, -List.map_tail, run_guard, run_guardD, resultsA, resA, Nat.add_assoc, wldV, nodC])
    | ((first | (with_reducible refine guardS_split ?_ ?_)) <;> intro qb <;> (have qp := qb; try simp only [psq] at qp) <;> simp [-List.map_take, -List.map_drop, -List.map_tail, run_guard, run_guardD, resultsA, resA, Nat.add_assoc, wldV, nodC, qb])
  all_goals (try clear hnx)
  all_goals first | (simp_all [isGroup]; done) | (simp_all [isGroup]; omega) | (rw [Bool.eq_iff_iff]; simp_all [isGroup]; done) | (rw [Bool.eq_iff_iff]; simp_all [isGroup]; omega) | omega | (simp only [isGroup]; grind) | grind
-- impl.WorldOk
theorem c_WorldOk {F : Nat → Bool} {w : Wld} : PC ctx.P 68 [.agg (wldV F w)] (.bool (wldOk w)) := by
  refine PC.of okC Tryz.func68 rfl rfl (by kernel_rfl) (Nat.le_of_ble_eq_true rfl) (.bool _) fun h nx hnx => ?_
  show goC ctx _ _ (.fin (RetP _ _ _ _ _))
  try simp [-List.map_take, -List.map_drop, -List.map_tail, run_guard, run_guardD, resultsA, resA, Nat.add_assoc, wldV]
  repeat'
    first
    | done
    | ((first
        | ((with_reducible show lenS _ _ _ _ _ _); refine lenS_slice rfl fun _ => ?_)
        | ((with_reducible show doCall _ _ _ 160 _ _); refine call_pc (c_all_Prog (q := progOk) (.fn _ _) (fun x _ => c_ProgOk)) ?_)
        | ((with_reducible show doCall _ _ _ 162 _ _); refine call_pc (c_EventsOk) ?_)
        | ((with_reducible show doCall _ _ _ 163 _ _); refine call_pc (c_isSpread (s := w.spread) (F := F)) ?_)
        | ((with_reducible show doCall _ _ _ 82 _ _); refine call_pcB (c_all_Event (q := fun e => inR e.time 0 w.now) (fv := .fn 164 [.vptr (wldV F w)]) (.fn _ _) (fun x _ => c_WorldOk1)) (by first | exact .bool _ | exact .int _ _ | exact .str _) (by repeat' first | exact Bors.nil | refine Bors.cons ?_ ?_ | exact Bor.same _ | refine Bor.fn1 ?_ | refine Bor.bnd1 ?_ | refine Bor.agg1 ?_ | refine Bor.ptr0 (by first | (simp; done) | (simp; rfl) | assumption | (simp [*]; done)) ?_ | refine Bor.ref0 (by first | (simp; done) | (simp; rfl) | (simp [iv, bv]; done)) (by simp) (by simp)) ?_)
        | ((with_reducible show doCall _ _ _ 166 _ _); refine call_pc (c_TimersOk (t := w.timers) (F := F)) ?_)
        | ((with_reducible show doCall _ _ _ 167 _ _); refine call_pc (c_all_Timer (q := isTimer w) (.bnd _ _) (fun x _ => c_isTimer (F := F))) ?_)
        | ((with_reducible show doCall _ _ _ 169 _ _); refine call_pc (c_AftersOk (x := w.afters) (F := F)) ?_)
        | ((with_reducible show doCall _ _ _ 170 _ _); refine call_pcB (c_all_After (q := fun a => isIn a.node w.tree) (fv := .fn 171 [.vptr (wldV F w)]) (.fn _ _) (fun x _ => c_WorldOk2)) (by first | exact .bool _ | exact .int _ _ | exact .str _) (by repeat' first | exact Bors.nil | refine Bors.cons ?_ ?_ | exact Bor.same _ | refine Bor.fn1 ?_ | refine Bor.bnd1 ?_ | refine Bor.agg1 ?_ | refine Bor.ptr0 (by first | (simp; done) | (simp; rfl) | assumption | (simp [*]; done)) ?_ | refine Bor.ref0 (by first | (simp; done) | (simp; rfl) | (simp [iv, bv]; done)) (by simp) (by simp)) ?_)
        | ((with_reducible show doCall _ _ _ 173 _ _); refine call_pc (c_TasksOk) ?_)
        | ((with_reducible show doCall _ _ _ 174 _ _); refine call_pc (c_all_Task (q := isTask w) (.bnd _ _) (fun x _ => c_isTask (F := F))) ?_)
        | ((with_reducible show doCall _ _ _ 176 _ _); refine call_pc (c_all_Group (q := isGroup w) (.bnd _ _) (fun x _ => c_isGroup (F := F))) ?_)
        | ((with_reducible show doCall _ _ _ 178 _ _); refine call_pc (c_all_Sight (q := isSight w) (.bnd _ _) (fun x _ => c_isSight (F := F))) ?_)
        | ((with_reducible show doCall _ _ _ 180 _ _); refine call_pc (c_all_int64 (q := fun n => inR n 0 99) (.fn _ _) (fun x _ => c_WorldOk3)) ?_)
        | ((with_reducible show doCall _ _ _ 180 _ _); refine call_pc (c_all_int64 (q := fun n => inR n 0 99) (.fn _ _) (fun x _ => c_WorldOk4)) ?_)) <;> simp [-List.map_take, -List.map_drop, -List.map_tail, run_guard, run_guardD, resultsA, resA, Nat.add_assoc, wldV])
    | ((first | (with_reducible refine guardS_split ?_ ?_) | (with_reducible refine condS_split ?_ ?_)) <;> intro qb <;> (have qp := qb; try simp only [psq] at qp) <;> simp [-List.map_take, -List.map_drop, -List.map_tail, run_guard, run_guardD, resultsA, resA, Nat.add_assoc, wldV, qb])
  all_goals (try clear hnx)
  all_goals first | (simp_all [wldOk]; done) | (simp_all [wldOk]; omega) | (rw [Bool.eq_iff_iff]; simp_all [wldOk]; done) | (rw [Bool.eq_iff_iff]; simp_all [wldOk]; omega) | omega | (simp only [wldOk]; grind) | grind
end Go.AE.Tryz
end

section
/- Picks that are enabled, built one after the other. -/
namespace Go.AE
set_option linter.unusedVariables false
theorem ready_rest {l : List Tsk} {i : Nat} {acc : List Int} (hi : i < l.length) (h : acc ++ pickI (fun _ t => t.state == 0) (fun i _ => i) (l.drop i) i = readyIn l) :
    (if ((gt l (i : Int)).state == 0) = true then acc ++ [(i : Int)] else acc) ++ pickI (fun _ t => t.state == 0) (fun i _ => i) (l.drop (i + 1)) ((i + 1 : Nat) : Int) = readyIn l := by
  rw [drop_gt hi, pickI_cons] at h
  rw [← h]
  split <;> simp
theorem pickI_len {α β : Type} (q : Int → α → Bool) (f : Int → α → β) : ∀ (l : List α) (k : Int), (pickI q f l k).length ≤ l.length
  | [], k => by simp [pickI]
  | x :: xs, k => by rw [pickI_cons]; have := pickI_len q f xs (k + 1); split <;> simp <;> omega
theorem readyIn_len (l : List Tsk) : (readyIn l).length ≤ l.length := pickI_len _ _ _ _
/-- The picks of tasks. -/
def pkTasks (l : List Int) : List Pik := l.map fun i => ⟨1, i⟩
def pkDrain (w : Wld) : List Pik := if isDue w.now (nextDue w.timers) then [⟨2, 0⟩] else []
def pkTell (w : Wld) : List Pik := if 0 < w.spread.work.length then [⟨3, 0⟩] else []
def pkStart (w : Wld) : List Pik := if w.afters.list.any (·.queued) then [⟨4, 0⟩] else []
theorem enabled_eq (w : Wld) : enabled w = pkTasks (readyIn w.tasks) ++ (pkDrain w ++ (pkTell w ++ pkStart w)) := rfl
theorem pkTasks_snoc (l : List Int) (i : Int) : pkTasks (l ++ [i]) = pkTasks l ++ [⟨1, i⟩] := by simp [pkTasks]
theorem pikC_mk (k i : Int) : pikC ⟨k, i⟩ = [.int .i64 k, .int .i64 i] := rfl
end Go.AE
end
