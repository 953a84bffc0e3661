/- Contracts of the seat's functions: what each answers, for all arguments. -/
import Derived.Test.YthgdlmhlijnefaaGreatB2
import Derived.Test.YthgdlmhlijnefaaGreatB1
import Derived.Test.YthgdlmhlijnefaaGreatA3
section
/- Contracts of the laws' marks. -/
set_option linter.unusedSimpArgs false
set_option linter.unusedVariables false
set_option maxRecDepth 8000
set_option maxHeartbeats 4000000
namespace Go.AE.Tryz
open Go.Proofs

def mkNod (k : Int) : Nod := ⟨k, k + 1, k + 2, k + 3, k + 4⟩
-- laws.markNodeS
theorem m_markNodeS {id : Nat} {xs : List Nod} {k : Int} (hlim : xs.length ≤ LIM) (h0 : 0 ≤ k) (h1 : k ≤ 1152921504606846976) : AC ctx.P 98 [.ref id 5 0 xs.length, .int .i64 k] (fun h _ => h id = some (.row 5 (xs.map nodC)))
    (fun h nx v h' nx' => v = .int .i64 (k + (5 : Nat) * xs.length) ∧ h' id = some (.row 5 ((markL mkNod 5 k xs.length).map nodC)) ∧ ∀ j, j < nx → j ≠ id → h' j = h j) := by
  refine AC.of okC Tryz.func98 rfl rfl (by kernel_rfl) (Nat.le_of_ble_eq_true rfl) fun h nx hfr hnx hpre => ?_
  show goC ctx _ _ (.fin (RetQ _ _ _))
  have hid : id < nx := hnx id (by rw [hpre]; simp)
  try simp [-List.map_take, -List.map_drop, -List.map_tail, run_guard, run_guardD, resultsA, resA, Nat.add_assoc]
  repeat'
    first
    | done
    | ((first
        | ((with_reducible show lenS _ _ _ _ _ _); refine lenS_slice rfl fun _ => ?_)
        | ((with_reducible show iaddrS _ _ _ _ _ _ _); refine iaddr_map rfl omA omA ?_)) <;> simp [-List.map_take, -List.map_drop, -List.map_tail, run_guard, run_guardD, resultsA, resA, Nat.add_assoc])
    | ((first | (with_reducible refine condS_split ?_ ?_)) <;> intro qb <;> (have qp := qb; try simp only [psq] at qp) <;> simp [-List.map_take, -List.map_drop, -List.map_tail, run_guard, run_guardD, resultsA, resA, Nat.add_assoc, qb])
  refine go_upP (h0 := h) (nx0 := 0) [1, 5, 6, 7, 8, 9, 10, 11, 12, 13, 14, 15, 16, 17, 18, 19, 20, 21, 22, 23, 24, 25, 26, 27, 28, 29, 30, 31, 32, 33, 34, 35, 36, 37, 38, 39, 40, 41, 42, 43, 44, 45, 46] (xs.length) (fun (i : Nat) a => [(5, .int .i64 i), (1, .int .i64 (k + (5 : Nat) * i))]) (fun i (_ : Unit) h' n' => h' id = some (.row 5 (markF nodC mkNod 5 k xs i)) ∧ (∀ j, j < nx → j ≠ id → h' j = h j) ∧ nx ≤ n') (()) (by simp) ?_ (fun j hj => absurd hj (by omega)) (Nat.zero_le _) ?_
  · simp [markF_0, hpre]
  · intro i a tm h' n' hle hJ hE hn' next hnx
    try dsimp only at hJ
    simp [-List.map_take, -List.map_drop, -List.map_tail]
    obtain ⟨hJ, hJf, hJn⟩ := hJ
    by_cases hlt : i < xs.length
    · have hl : (markF nodC mkNod 5 k xs i).length = xs.length := markF_len (by omega)
      rw [markF_self hlt] at hJ
      have hlim0 := hlim
      simp only [LIM] at hlim
      try simp [-List.map_take, -List.map_drop, -List.map_tail, run_guard, run_guardD, resultsA, resA, Nat.add_assoc, hJ, nodC, i64_ok (x := k + 5 * (i : Int) + 1) (by omega), i64_ok (x := k + 5 * (i : Int) + 1 + 1) (by omega), i64_ok (x := k + 5 * (i : Int) + 1 + 1 + 1) (by omega), i64_ok (x := k + 5 * (i : Int) + 1 + 1 + 1 + 1) (by omega), i64_ok (x := k + 5 * (i : Int) + 1 + 1 + 1 + 1 + 1) (by omega)]
      repeat'
        first
        | done
        | ((first
            | ((with_reducible show lenS _ _ _ _ _ _); refine lenS_slice rfl fun _ => ?_)
            | ((with_reducible show iaddrS _ _ _ _ _ _ _); refine iaddr_map rfl omA omA ?_)
            | (((with_reducible show iaddrS _ _ _ _ (.ref _ _ _ _) _ _); refine iaddr_ref rfl (by omega) (by omega) ?_))
            | (((with_reducible show storeE _ _ _ _ _ _ _ _ _); refine storeE_fld (xs := markF nodC mkNod 5 k xs i) (by first | exact hJ | exact upd_same _ _ _) (by omega) rfl rfl (by omega) ?_))) <;> simp [-List.map_take, -List.map_drop, -List.map_tail, run_guard, run_guardD, resultsA, resA, Nat.add_assoc, hJ, nodC, i64_ok (x := k + 5 * (i : Int) + 1) (by omega), i64_ok (x := k + 5 * (i : Int) + 1 + 1) (by omega), i64_ok (x := k + 5 * (i : Int) + 1 + 1 + 1) (by omega), i64_ok (x := k + 5 * (i : Int) + 1 + 1 + 1 + 1) (by omega), i64_ok (x := k + 5 * (i : Int) + 1 + 1 + 1 + 1 + 1) (by omega)])
        | ((first | (with_reducible refine condS_split ?_ ?_)) <;> intro qb <;> (have qp := qb; try simp only [psq] at qp) <;> simp [-List.map_take, -List.map_drop, -List.map_tail, run_guard, run_guardD, resultsA, resA, Nat.add_assoc, hJ, nodC, i64_ok (x := k + 5 * (i : Int) + 1) (by omega), i64_ok (x := k + 5 * (i : Int) + 1 + 1) (by omega), i64_ok (x := k + 5 * (i : Int) + 1 + 1 + 1) (by omega), i64_ok (x := k + 5 * (i : Int) + 1 + 1 + 1 + 1) (by omega), i64_ok (x := k + 5 * (i : Int) + 1 + 1 + 1 + 1 + 1) (by omega), qb])
      all_goals first
      | omega
      | (refine hnx.go () ?_ ?_ ?_ ?_ ?_ ?_
         · omega
         · simp [wrap_succ hlt hlim0] <;> omega
         · simp
         · exact fun j hj => absurd hj (by omega)
         · exact Nat.zero_le _
         try dsimp only
         refine ⟨?_, fun j hj hji => ?_, by omega⟩
         · rw [← markF_set hlt]
           simp [mkNod, nodC, Int.add_assoc]
         · simp [hji]
           exact hJf j hj hji)
    · try simp [-List.map_take, -List.map_drop, -List.map_tail, run_guard, run_guardD, resultsA, resA, Nat.add_assoc, hJ, hlt]
      repeat'
        first
        | done
        | ((first
            | ((with_reducible show lenS _ _ _ _ _ _); refine lenS_slice rfl fun _ => ?_)
            | ((with_reducible show iaddrS _ _ _ _ _ _ _); refine iaddr_map rfl omA omA ?_)) <;> simp [-List.map_take, -List.map_drop, -List.map_tail, run_guard, run_guardD, resultsA, resA, Nat.add_assoc, hJ, hlt])
        | ((first | (with_reducible refine condS_split ?_ ?_)) <;> intro qb <;> (have qp := qb; try simp only [psq] at qp) <;> simp [-List.map_take, -List.map_drop, -List.map_tail, run_guard, run_guardD, resultsA, resA, Nat.add_assoc, hJ, hlt, qb])
      refine ⟨by omega, ?_, hJf⟩
      have : i = xs.length := by omega
      subst this
      exact markF_end (Nat.le_refl _)

def mkEvt (k : Int) : Evt := ⟨k, k + 1, k + 2, k + 3⟩
-- laws.markEventS
theorem m_markEventS {id : Nat} {xs : List Evt} {k : Int} (hlim : xs.length ≤ LIM) (h0 : 0 ≤ k) (h1 : k ≤ 1152921504606846976) : AC ctx.P 99 [.ref id 4 0 xs.length, .int .i64 k] (fun h _ => h id = some (.row 4 (xs.map evtC)))
    (fun h nx v h' nx' => v = .int .i64 (k + (4 : Nat) * xs.length) ∧ h' id = some (.row 4 ((markL mkEvt 4 k xs.length).map evtC)) ∧ ∀ j, j < nx → j ≠ id → h' j = h j) := by
  refine AC.of okC Tryz.func99 rfl rfl (by kernel_rfl) (Nat.le_of_ble_eq_true rfl) fun h nx hfr hnx hpre => ?_
  show goC ctx _ _ (.fin (RetQ _ _ _))
  have hid : id < nx := hnx id (by rw [hpre]; simp)
  try simp [-List.map_take, -List.map_drop, -List.map_tail, run_guard, run_guardD, resultsA, resA, Nat.add_assoc]
  repeat'
    first
    | done
    | ((first
        | ((with_reducible show lenS _ _ _ _ _ _); refine lenS_slice rfl fun _ => ?_)
        | ((with_reducible show iaddrS _ _ _ _ _ _ _); refine iaddr_map rfl omA omA ?_)) <;> simp [-List.map_take, -List.map_drop, -List.map_tail, run_guard, run_guardD, resultsA, resA, Nat.add_assoc])
    | ((first | (with_reducible refine condS_split ?_ ?_)) <;> intro qb <;> (have qp := qb; try simp only [psq] at qp) <;> simp [-List.map_take, -List.map_drop, -List.map_tail, run_guard, run_guardD, resultsA, resA, Nat.add_assoc, qb])
  refine go_upP (h0 := h) (nx0 := 0) [1, 5, 6, 7, 8, 9, 10, 11, 12, 13, 14, 15, 16, 17, 18, 19, 20, 21, 22, 23, 24, 25, 26, 27, 28, 29, 30, 31, 32, 33, 34, 35, 36, 37, 38, 39] (xs.length) (fun (i : Nat) a => [(5, .int .i64 i), (1, .int .i64 (k + (4 : Nat) * i))]) (fun i (_ : Unit) h' n' => h' id = some (.row 4 (markF evtC mkEvt 4 k xs i)) ∧ (∀ j, j < nx → j ≠ id → h' j = h j) ∧ nx ≤ n') (()) (by simp) ?_ (fun j hj => absurd hj (by omega)) (Nat.zero_le _) ?_
  · simp [markF_0, hpre]
  · intro i a tm h' n' hle hJ hE hn' next hnx
    try dsimp only at hJ
    simp [-List.map_take, -List.map_drop, -List.map_tail]
    obtain ⟨hJ, hJf, hJn⟩ := hJ
    by_cases hlt : i < xs.length
    · have hl : (markF evtC mkEvt 4 k xs i).length = xs.length := markF_len (by omega)
      rw [markF_self hlt] at hJ
      have hlim0 := hlim
      simp only [LIM] at hlim
      try simp [-List.map_take, -List.map_drop, -List.map_tail, run_guard, run_guardD, resultsA, resA, Nat.add_assoc, hJ, evtC, i64_ok (x := k + 4 * (i : Int) + 1) (by omega), i64_ok (x := k + 4 * (i : Int) + 1 + 1) (by omega), i64_ok (x := k + 4 * (i : Int) + 1 + 1 + 1) (by omega), i64_ok (x := k + 4 * (i : Int) + 1 + 1 + 1 + 1) (by omega)]
      repeat'
        first
        | done
        | ((first
            | ((with_reducible show lenS _ _ _ _ _ _); refine lenS_slice rfl fun _ => ?_)
            | ((with_reducible show iaddrS _ _ _ _ _ _ _); refine iaddr_map rfl omA omA ?_)
            | (((with_reducible show iaddrS _ _ _ _ (.ref _ _ _ _) _ _); refine iaddr_ref rfl (by omega) (by omega) ?_))
            | (((with_reducible show storeE _ _ _ _ _ _ _ _ _); refine storeE_fld (xs := markF evtC mkEvt 4 k xs i) (by first | exact hJ | exact upd_same _ _ _) (by omega) rfl rfl (by omega) ?_))) <;> simp [-List.map_take, -List.map_drop, -List.map_tail, run_guard, run_guardD, resultsA, resA, Nat.add_assoc, hJ, evtC, i64_ok (x := k + 4 * (i : Int) + 1) (by omega), i64_ok (x := k + 4 * (i : Int) + 1 + 1) (by omega), i64_ok (x := k + 4 * (i : Int) + 1 + 1 + 1) (by omega), i64_ok (x := k + 4 * (i : Int) + 1 + 1 + 1 + 1) (by omega)])
        | ((first | (with_reducible refine condS_split ?_ ?_)) <;> intro qb <;> (have qp := qb; try simp only [psq] at qp) <;> simp [-List.map_take, -List.map_drop, -List.map_tail, run_guard, run_guardD, resultsA, resA, Nat.add_assoc, hJ, evtC, i64_ok (x := k + 4 * (i : Int) + 1) (by omega), i64_ok (x := k + 4 * (i : Int) + 1 + 1) (by omega), i64_ok (x := k + 4 * (i : Int) + 1 + 1 + 1) (by omega), i64_ok (x := k + 4 * (i : Int) + 1 + 1 + 1 + 1) (by omega), qb])
      all_goals first
      | omega
      | (refine hnx.go () ?_ ?_ ?_ ?_ ?_ ?_
         · omega
         · simp [wrap_succ hlt hlim0] <;> omega
         · simp
         · exact fun j hj => absurd hj (by omega)
         · exact Nat.zero_le _
         try dsimp only
         refine ⟨?_, fun j hj hji => ?_, by omega⟩
         · rw [← markF_set hlt]
           simp [mkEvt, evtC, Int.add_assoc]
         · simp [hji]
           exact hJf j hj hji)
    · try simp [-List.map_take, -List.map_drop, -List.map_tail, run_guard, run_guardD, resultsA, resA, Nat.add_assoc, hJ, hlt]
      repeat'
        first
        | done
        | ((first
            | ((with_reducible show lenS _ _ _ _ _ _); refine lenS_slice rfl fun _ => ?_)
            | ((with_reducible show iaddrS _ _ _ _ _ _ _); refine iaddr_map rfl omA omA ?_)) <;> simp [-List.map_take, -List.map_drop, -List.map_tail, run_guard, run_guardD, resultsA, resA, Nat.add_assoc, hJ, hlt])
        | ((first | (with_reducible refine condS_split ?_ ?_)) <;> intro qb <;> (have qp := qb; try simp only [psq] at qp) <;> simp [-List.map_take, -List.map_drop, -List.map_tail, run_guard, run_guardD, resultsA, resA, Nat.add_assoc, hJ, hlt, qb])
      refine ⟨by omega, ?_, hJf⟩
      have : i = xs.length := by omega
      subst this
      exact markF_end (Nat.le_refl _)

def mkTwg (k : Int) : Twg := ⟨k, k + 1, k + 2⟩
-- laws.markTwigS
theorem m_markTwigS {id : Nat} {xs : List Twg} {k : Int} (hlim : xs.length ≤ LIM) (h0 : 0 ≤ k) (h1 : k ≤ 1152921504606846976) : AC ctx.P 211 [.ref id 3 0 xs.length, .int .i64 k] (fun h _ => h id = some (.row 3 (xs.map twgC)))
    (fun h nx v h' nx' => v = .int .i64 (k + (3 : Nat) * xs.length) ∧ h' id = some (.row 3 ((markL mkTwg 3 k xs.length).map twgC)) ∧ ∀ j, j < nx → j ≠ id → h' j = h j) := by
  refine AC.of okC Tryz.func211 rfl rfl (by kernel_rfl) (Nat.le_of_ble_eq_true rfl) fun h nx hfr hnx hpre => ?_
  show goC ctx _ _ (.fin (RetQ _ _ _))
  have hid : id < nx := hnx id (by rw [hpre]; simp)
  try simp [-List.map_take, -List.map_drop, -List.map_tail, run_guard, run_guardD, resultsA, resA, Nat.add_assoc]
  repeat'
    first
    | done
    | ((first
        | ((with_reducible show lenS _ _ _ _ _ _); refine lenS_slice rfl fun _ => ?_)
        | ((with_reducible show iaddrS _ _ _ _ _ _ _); refine iaddr_map rfl omA omA ?_)) <;> simp [-List.map_take, -List.map_drop, -List.map_tail, run_guard, run_guardD, resultsA, resA, Nat.add_assoc])
    | ((first | (with_reducible refine condS_split ?_ ?_)) <;> intro qb <;> (have qp := qb; try simp only [psq] at qp) <;> simp [-List.map_take, -List.map_drop, -List.map_tail, run_guard, run_guardD, resultsA, resA, Nat.add_assoc, qb])
  refine go_upP (h0 := h) (nx0 := 0) [1, 5, 6, 7, 8, 9, 10, 11, 12, 13, 14, 15, 16, 17, 18, 19, 20, 21, 22, 23, 24, 25, 26, 27, 28, 29, 30, 31, 32] (xs.length) (fun (i : Nat) a => [(5, .int .i64 i), (1, .int .i64 (k + (3 : Nat) * i))]) (fun i (_ : Unit) h' n' => h' id = some (.row 3 (markF twgC mkTwg 3 k xs i)) ∧ (∀ j, j < nx → j ≠ id → h' j = h j) ∧ nx ≤ n') (()) (by simp) ?_ (fun j hj => absurd hj (by omega)) (Nat.zero_le _) ?_
  · simp [markF_0, hpre]
  · intro i a tm h' n' hle hJ hE hn' next hnx
    try dsimp only at hJ
    simp [-List.map_take, -List.map_drop, -List.map_tail]
    obtain ⟨hJ, hJf, hJn⟩ := hJ
    by_cases hlt : i < xs.length
    · have hl : (markF twgC mkTwg 3 k xs i).length = xs.length := markF_len (by omega)
      rw [markF_self hlt] at hJ
      have hlim0 := hlim
      simp only [LIM] at hlim
      try simp [-List.map_take, -List.map_drop, -List.map_tail, run_guard, run_guardD, resultsA, resA, Nat.add_assoc, hJ, twgC, i64_ok (x := k + 3 * (i : Int) + 1) (by omega), i64_ok (x := k + 3 * (i : Int) + 1 + 1) (by omega), i64_ok (x := k + 3 * (i : Int) + 1 + 1 + 1) (by omega)]
      repeat'
        first
        | done
        | ((first
            | ((with_reducible show lenS _ _ _ _ _ _); refine lenS_slice rfl fun _ => ?_)
            | ((with_reducible show iaddrS _ _ _ _ _ _ _); refine iaddr_map rfl omA omA ?_)
            | (((with_reducible show iaddrS _ _ _ _ (.ref _ _ _ _) _ _); refine iaddr_ref rfl (by omega) (by omega) ?_))
            | (((with_reducible show storeE _ _ _ _ _ _ _ _ _); refine storeE_fld (xs := markF twgC mkTwg 3 k xs i) (by first | exact hJ | exact upd_same _ _ _) (by omega) rfl rfl (by omega) ?_))) <;> simp [-List.map_take, -List.map_drop, -List.map_tail, run_guard, run_guardD, resultsA, resA, Nat.add_assoc, hJ, twgC, i64_ok (x := k + 3 * (i : Int) + 1) (by omega), i64_ok (x := k + 3 * (i : Int) + 1 + 1) (by omega), i64_ok (x := k + 3 * (i : Int) + 1 + 1 + 1) (by omega)])
        | ((first | (with_reducible refine condS_split ?_ ?_)) <;> intro qb <;> (have qp := qb; try simp only [psq] at qp) <;> simp [-List.map_take, -List.map_drop, -List.map_tail, run_guard, run_guardD, resultsA, resA, Nat.add_assoc, hJ, twgC, i64_ok (x := k + 3 * (i : Int) + 1) (by omega), i64_ok (x := k + 3 * (i : Int) + 1 + 1) (by omega), i64_ok (x := k + 3 * (i : Int) + 1 + 1 + 1) (by omega), qb])
      all_goals first
      | omega
      | (refine hnx.go () ?_ ?_ ?_ ?_ ?_ ?_
         · omega
         · simp [wrap_succ hlt hlim0] <;> omega
         · simp
         · exact fun j hj => absurd hj (by omega)
         · exact Nat.zero_le _
         try dsimp only
         refine ⟨?_, fun j hj hji => ?_, by omega⟩
         · rw [← markF_set hlt]
           simp [mkTwg, twgC, Int.add_assoc]
         · simp [hji]
           exact hJf j hj hji)
    · try simp [-List.map_take, -List.map_drop, -List.map_tail, run_guard, run_guardD, resultsA, resA, Nat.add_assoc, hJ, hlt]
      repeat'
        first
        | done
        | ((first
            | ((with_reducible show lenS _ _ _ _ _ _); refine lenS_slice rfl fun _ => ?_)
            | ((with_reducible show iaddrS _ _ _ _ _ _ _); refine iaddr_map rfl omA omA ?_)) <;> simp [-List.map_take, -List.map_drop, -List.map_tail, run_guard, run_guardD, resultsA, resA, Nat.add_assoc, hJ, hlt])
        | ((first | (with_reducible refine condS_split ?_ ?_)) <;> intro qb <;> (have qp := qb; try simp only [psq] at qp) <;> simp [-List.map_take, -List.map_drop, -List.map_tail, run_guard, run_guardD, resultsA, resA, Nat.add_assoc, hJ, hlt, qb])
      refine ⟨by omega, ?_, hJf⟩
      have : i = xs.length := by omega
      subst this
      exact markF_end (Nat.le_refl _)

def mkTmr (k : Int) : Tmr := ⟨k, k + 1, k + 2, k + 3, (k + 4).tmod 3 == 0⟩
-- laws.markTimerS
theorem m_markTimerS {id : Nat} {xs : List Tmr} {k : Int} (hlim : xs.length ≤ LIM) (h0 : 0 ≤ k) (h1 : k ≤ 1152921504606846976) : AC ctx.P 212 [.ref id 5 0 xs.length, .int .i64 k] (fun h _ => h id = some (.row 5 (xs.map tmrC)))
    (fun h nx v h' nx' => v = .int .i64 (k + (5 : Nat) * xs.length) ∧ h' id = some (.row 5 ((markL mkTmr 5 k xs.length).map tmrC)) ∧ ∀ j, j < nx → j ≠ id → h' j = h j) := by
  refine AC.of okC Tryz.func212 rfl rfl (by kernel_rfl) (Nat.le_of_ble_eq_true rfl) fun h nx hfr hnx hpre => ?_
  show goC ctx _ _ (.fin (RetQ _ _ _))
  have hid : id < nx := hnx id (by rw [hpre]; simp)
  try simp [-List.map_take, -List.map_drop, -List.map_tail, run_guard, run_guardD, resultsA, resA, Nat.add_assoc]
  repeat'
    first
    | done
    | ((first
        | ((with_reducible show lenS _ _ _ _ _ _); refine lenS_slice rfl fun _ => ?_)
        | ((with_reducible show iaddrS _ _ _ _ _ _ _); refine iaddr_map rfl omA omA ?_)) <;> simp [-List.map_take, -List.map_drop, -List.map_tail, run_guard, run_guardD, resultsA, resA, Nat.add_assoc])
    | ((first | (with_reducible refine condS_split ?_ ?_)) <;> intro qb <;> (have qp := qb; try simp only [psq] at qp) <;> simp [-List.map_take, -List.map_drop, -List.map_tail, run_guard, run_guardD, resultsA, resA, Nat.add_assoc, qb])
  refine go_upP (h0 := h) (nx0 := 0) [1, 5, 6, 7, 8, 9, 10, 11, 12, 13, 14, 15, 16, 17, 18, 19, 20, 21, 22, 23, 24, 25, 26, 27, 28, 29, 30, 31, 32, 33, 34, 35, 36, 37, 38, 39, 40, 41, 42, 43, 44, 45, 46, 47, 48] (xs.length) (fun (i : Nat) a => [(5, .int .i64 i), (1, .int .i64 (k + (5 : Nat) * i))]) (fun i (_ : Unit) h' n' => h' id = some (.row 5 (markF tmrC mkTmr 5 k xs i)) ∧ (∀ j, j < nx → j ≠ id → h' j = h j) ∧ nx ≤ n') (()) (by simp) ?_ (fun j hj => absurd hj (by omega)) (Nat.zero_le _) ?_
  · simp [markF_0, hpre]
  · intro i a tm h' n' hle hJ hE hn' next hnx
    try dsimp only at hJ
    simp [-List.map_take, -List.map_drop, -List.map_tail]
    obtain ⟨hJ, hJf, hJn⟩ := hJ
    by_cases hlt : i < xs.length
    · have hl : (markF tmrC mkTmr 5 k xs i).length = xs.length := markF_len (by omega)
      rw [markF_self hlt] at hJ
      have hlim0 := hlim
      simp only [LIM] at hlim
      try simp [-List.map_take, -List.map_drop, -List.map_tail, run_guard, run_guardD, resultsA, resA, Nat.add_assoc, hJ, tmrC, i64_ok (x := k + 5 * (i : Int) + 1) (by omega), i64_ok (x := k + 5 * (i : Int) + 1 + 1) (by omega), i64_ok (x := k + 5 * (i : Int) + 1 + 1 + 1) (by omega), i64_ok (x := k + 5 * (i : Int) + 1 + 1 + 1 + 1) (by omega), i64_ok (x := k + 5 * (i : Int) + 1 + 1 + 1 + 1 + 1) (by omega)]
      repeat'
        first
        | done
        | ((first
            | ((with_reducible show lenS _ _ _ _ _ _); refine lenS_slice rfl fun _ => ?_)
            | ((with_reducible show iaddrS _ _ _ _ _ _ _); refine iaddr_map rfl omA omA ?_)
            | (((with_reducible show iaddrS _ _ _ _ (.ref _ _ _ _) _ _); refine iaddr_ref rfl (by omega) (by omega) ?_))
            | (((with_reducible show storeE _ _ _ _ _ _ _ _ _); refine storeE_fld (xs := markF tmrC mkTmr 5 k xs i) (by first | exact hJ | exact upd_same _ _ _) (by omega) rfl rfl (by omega) ?_))) <;> simp [-List.map_take, -List.map_drop, -List.map_tail, run_guard, run_guardD, resultsA, resA, Nat.add_assoc, hJ, tmrC, i64_ok (x := k + 5 * (i : Int) + 1) (by omega), i64_ok (x := k + 5 * (i : Int) + 1 + 1) (by omega), i64_ok (x := k + 5 * (i : Int) + 1 + 1 + 1) (by omega), i64_ok (x := k + 5 * (i : Int) + 1 + 1 + 1 + 1) (by omega), i64_ok (x := k + 5 * (i : Int) + 1 + 1 + 1 + 1 + 1) (by omega)])
        | ((first | (with_reducible refine condS_split ?_ ?_)) <;> intro qb <;> (have qp := qb; try simp only [psq] at qp) <;> simp [-List.map_take, -List.map_drop, -List.map_tail, run_guard, run_guardD, resultsA, resA, Nat.add_assoc, hJ, tmrC, i64_ok (x := k + 5 * (i : Int) + 1) (by omega), i64_ok (x := k + 5 * (i : Int) + 1 + 1) (by omega), i64_ok (x := k + 5 * (i : Int) + 1 + 1 + 1) (by omega), i64_ok (x := k + 5 * (i : Int) + 1 + 1 + 1 + 1) (by omega), i64_ok (x := k + 5 * (i : Int) + 1 + 1 + 1 + 1 + 1) (by omega), qb])
      all_goals first
      | omega
      | (refine hnx.go () ?_ ?_ ?_ ?_ ?_ ?_
         · omega
         · simp [wrap_succ hlt hlim0] <;> omega
         · simp
         · exact fun j hj => absurd hj (by omega)
         · exact Nat.zero_le _
         try dsimp only
         refine ⟨?_, fun j hj hji => ?_, by omega⟩
         · rw [← markF_set hlt]
           simp [mkTmr, tmrC, Int.add_assoc]
         · simp [hji]
           exact hJf j hj hji)
    · try simp [-List.map_take, -List.map_drop, -List.map_tail, run_guard, run_guardD, resultsA, resA, Nat.add_assoc, hJ, hlt]
      repeat'
        first
        | done
        | ((first
            | ((with_reducible show lenS _ _ _ _ _ _); refine lenS_slice rfl fun _ => ?_)
            | ((with_reducible show iaddrS _ _ _ _ _ _ _); refine iaddr_map rfl omA omA ?_)) <;> simp [-List.map_take, -List.map_drop, -List.map_tail, run_guard, run_guardD, resultsA, resA, Nat.add_assoc, hJ, hlt])
        | ((first | (with_reducible refine condS_split ?_ ?_)) <;> intro qb <;> (have qp := qb; try simp only [psq] at qp) <;> simp [-List.map_take, -List.map_drop, -List.map_tail, run_guard, run_guardD, resultsA, resA, Nat.add_assoc, hJ, hlt, qb])
      refine ⟨by omega, ?_, hJf⟩
      have : i = xs.length := by omega
      subst this
      exact markF_end (Nat.le_refl _)

def mkAfr (k : Int) : Afr := ⟨⟨k, k + 1⟩, k + 2, k + 3, (k + 4).tmod 3 == 0⟩
-- laws.markAfterS
theorem m_markAfterS {id : Nat} {xs : List Afr} {k : Int} (hlim : xs.length ≤ LIM) (h0 : 0 ≤ k) (h1 : k ≤ 1152921504606846976) : AC ctx.P 214 [.ref id 5 0 xs.length, .int .i64 k] (fun h _ => h id = some (.row 5 (xs.map afrC)))
    (fun h nx v h' nx' => v = .int .i64 (k + (5 : Nat) * xs.length) ∧ h' id = some (.row 5 ((markL mkAfr 5 k xs.length).map afrC)) ∧ ∀ j, j < nx → j ≠ id → h' j = h j) := by
  refine AC.of okC Tryz.func214 rfl rfl (by kernel_rfl) (Nat.le_of_ble_eq_true rfl) fun h nx hfr hnx hpre => ?_
  show goC ctx _ _ (.fin (RetQ _ _ _))
  have hid : id < nx := hnx id (by rw [hpre]; simp)
  try simp [-List.map_take, -List.map_drop, -List.map_tail, run_guard, run_guardD, resultsA, resA, Nat.add_assoc]
  repeat'
    first
    | done
    | ((first
        | ((with_reducible show lenS _ _ _ _ _ _); refine lenS_slice rfl fun _ => ?_)
        | ((with_reducible show iaddrS _ _ _ _ _ _ _); refine iaddr_map rfl omA omA ?_)) <;> simp [-List.map_take, -List.map_drop, -List.map_tail, run_guard, run_guardD, resultsA, resA, Nat.add_assoc])
    | ((first | (with_reducible refine condS_split ?_ ?_)) <;> intro qb <;> (have qp := qb; try simp only [psq] at qp) <;> simp [-List.map_take, -List.map_drop, -List.map_tail, run_guard, run_guardD, resultsA, resA, Nat.add_assoc, qb])
  refine go_upP (h0 := h) (nx0 := 0) [1, 5, 6, 7, 8, 9, 10, 11, 12, 13, 14, 15, 16, 17, 18, 19, 20, 21, 22, 23, 24, 25, 26, 27, 28, 29, 30, 31, 32, 33, 34, 35, 36, 37, 38, 39, 40, 41, 42, 43, 44, 45, 46, 47, 48, 49, 50] (xs.length) (fun (i : Nat) a => [(5, .int .i64 i), (1, .int .i64 (k + (5 : Nat) * i))]) (fun i (_ : Unit) h' n' => h' id = some (.row 5 (markF afrC mkAfr 5 k xs i)) ∧ (∀ j, j < nx → j ≠ id → h' j = h j) ∧ nx ≤ n') (()) (by simp) ?_ (fun j hj => absurd hj (by omega)) (Nat.zero_le _) ?_
  · simp [markF_0, hpre]
  · intro i a tm h' n' hle hJ hE hn' next hnx
    try dsimp only at hJ
    simp [-List.map_take, -List.map_drop, -List.map_tail]
    obtain ⟨hJ, hJf, hJn⟩ := hJ
    by_cases hlt : i < xs.length
    · have hl : (markF afrC mkAfr 5 k xs i).length = xs.length := markF_len (by omega)
      rw [markF_self hlt] at hJ
      have hlim0 := hlim
      simp only [LIM] at hlim
      try simp [-List.map_take, -List.map_drop, -List.map_tail, run_guard, run_guardD, resultsA, resA, Nat.add_assoc, hJ, afrC, i64_ok (x := k + 5 * (i : Int) + 1) (by omega), i64_ok (x := k + 5 * (i : Int) + 1 + 1) (by omega), i64_ok (x := k + 5 * (i : Int) + 1 + 1 + 1) (by omega), i64_ok (x := k + 5 * (i : Int) + 1 + 1 + 1 + 1) (by omega), i64_ok (x := k + 5 * (i : Int) + 1 + 1 + 1 + 1 + 1) (by omega)]
      repeat'
        first
        | done
        | ((first
            | ((with_reducible show lenS _ _ _ _ _ _); refine lenS_slice rfl fun _ => ?_)
            | ((with_reducible show iaddrS _ _ _ _ _ _ _); refine iaddr_map rfl omA omA ?_)
            | (((with_reducible show iaddrS _ _ _ _ (.ref _ _ _ _) _ _); refine iaddr_ref rfl (by omega) (by omega) ?_))
            | (((with_reducible show storeE _ _ _ _ _ _ _ _ _); refine storeE_fld (xs := markF afrC mkAfr 5 k xs i) (by first | exact hJ | exact upd_same _ _ _) (by omega) rfl rfl (by omega) ?_))) <;> simp [-List.map_take, -List.map_drop, -List.map_tail, run_guard, run_guardD, resultsA, resA, Nat.add_assoc, hJ, afrC, i64_ok (x := k + 5 * (i : Int) + 1) (by omega), i64_ok (x := k + 5 * (i : Int) + 1 + 1) (by omega), i64_ok (x := k + 5 * (i : Int) + 1 + 1 + 1) (by omega), i64_ok (x := k + 5 * (i : Int) + 1 + 1 + 1 + 1) (by omega), i64_ok (x := k + 5 * (i : Int) + 1 + 1 + 1 + 1 + 1) (by omega)])
        | ((first | (with_reducible refine condS_split ?_ ?_)) <;> intro qb <;> (have qp := qb; try simp only [psq] at qp) <;> simp [-List.map_take, -List.map_drop, -List.map_tail, run_guard, run_guardD, resultsA, resA, Nat.add_assoc, hJ, afrC, i64_ok (x := k + 5 * (i : Int) + 1) (by omega), i64_ok (x := k + 5 * (i : Int) + 1 + 1) (by omega), i64_ok (x := k + 5 * (i : Int) + 1 + 1 + 1) (by omega), i64_ok (x := k + 5 * (i : Int) + 1 + 1 + 1 + 1) (by omega), i64_ok (x := k + 5 * (i : Int) + 1 + 1 + 1 + 1 + 1) (by omega), qb])
      all_goals first
      | omega
      | (refine hnx.go () ?_ ?_ ?_ ?_ ?_ ?_
         · omega
         · simp [wrap_succ hlt hlim0] <;> omega
         · simp
         · exact fun j hj => absurd hj (by omega)
         · exact Nat.zero_le _
         try dsimp only
         refine ⟨?_, fun j hj hji => ?_, by omega⟩
         · rw [← markF_set hlt]
           simp [mkAfr, afrC, Int.add_assoc]
         · simp [hji]
           exact hJf j hj hji)
    · try simp [-List.map_take, -List.map_drop, -List.map_tail, run_guard, run_guardD, resultsA, resA, Nat.add_assoc, hJ, hlt]
      repeat'
        first
        | done
        | ((first
            | ((with_reducible show lenS _ _ _ _ _ _); refine lenS_slice rfl fun _ => ?_)
            | ((with_reducible show iaddrS _ _ _ _ _ _ _); refine iaddr_map rfl omA omA ?_)) <;> simp [-List.map_take, -List.map_drop, -List.map_tail, run_guard, run_guardD, resultsA, resA, Nat.add_assoc, hJ, hlt])
        | ((first | (with_reducible refine condS_split ?_ ?_)) <;> intro qb <;> (have qp := qb; try simp only [psq] at qp) <;> simp [-List.map_take, -List.map_drop, -List.map_tail, run_guard, run_guardD, resultsA, resA, Nat.add_assoc, hJ, hlt, qb])
      refine ⟨by omega, ?_, hJf⟩
      have : i = xs.length := by omega
      subst this
      exact markF_end (Nat.le_refl _)

def mkTsk (k : Int) : Tsk := ⟨k, k + 1, k + 2, k + 3, k + 4, k + 5, k + 6, k + 7, k + 8⟩
-- laws.markTaskS
theorem m_markTaskS {id : Nat} {xs : List Tsk} {k : Int} (hlim : xs.length ≤ LIM) (h0 : 0 ≤ k) (h1 : k ≤ 1152921504606846976) : AC ctx.P 103 [.ref id 9 0 xs.length, .int .i64 k] (fun h _ => h id = some (.row 9 (xs.map tskC)))
    (fun h nx v h' nx' => v = .int .i64 (k + (9 : Nat) * xs.length) ∧ h' id = some (.row 9 ((markL mkTsk 9 k xs.length).map tskC)) ∧ ∀ j, j < nx → j ≠ id → h' j = h j) := by
  refine AC.of okC Tryz.func103 rfl rfl (by kernel_rfl) (Nat.le_of_ble_eq_true rfl) fun h nx hfr hnx hpre => ?_
  show goC ctx _ _ (.fin (RetQ _ _ _))
  have hid : id < nx := hnx id (by rw [hpre]; simp)
  try simp [-List.map_take, -List.map_drop, -List.map_tail, run_guard, run_guardD, resultsA, resA, Nat.add_assoc]
  repeat'
    first
    | done
    | ((first
        | ((with_reducible show lenS _ _ _ _ _ _); refine lenS_slice rfl fun _ => ?_)
        | ((with_reducible show iaddrS _ _ _ _ _ _ _); refine iaddr_map rfl omA omA ?_)) <;> simp [-List.map_take, -List.map_drop, -List.map_tail, run_guard, run_guardD, resultsA, resA, Nat.add_assoc])
    | ((first | (with_reducible refine condS_split ?_ ?_)) <;> intro qb <;> (have qp := qb; try simp only [psq] at qp) <;> simp [-List.map_take, -List.map_drop, -List.map_tail, run_guard, run_guardD, resultsA, resA, Nat.add_assoc, qb])
  refine go_upP (h0 := h) (nx0 := 0) [1, 5, 6, 7, 8, 9, 10, 11, 12, 13, 14, 15, 16, 17, 18, 19, 20, 21, 22, 23, 24, 25, 26, 27, 28, 29, 30, 31, 32, 33, 34, 35, 36, 37, 38, 39, 40, 41, 42, 43, 44, 45, 46, 47, 48, 49, 50, 51, 52, 53, 54, 55, 56, 57, 58, 59, 60, 61, 62, 63, 64, 65, 66, 67, 68, 69, 70, 71, 72, 73, 74] (xs.length) (fun (i : Nat) a => [(5, .int .i64 i), (1, .int .i64 (k + (9 : Nat) * i))]) (fun i (_ : Unit) h' n' => h' id = some (.row 9 (markF tskC mkTsk 9 k xs i)) ∧ (∀ j, j < nx → j ≠ id → h' j = h j) ∧ nx ≤ n') (()) (by simp) ?_ (fun j hj => absurd hj (by omega)) (Nat.zero_le _) ?_
  · simp [markF_0, hpre]
  · intro i a tm h' n' hle hJ hE hn' next hnx
    try dsimp only at hJ
    simp [-List.map_take, -List.map_drop, -List.map_tail]
    obtain ⟨hJ, hJf, hJn⟩ := hJ
    by_cases hlt : i < xs.length
    · have hl : (markF tskC mkTsk 9 k xs i).length = xs.length := markF_len (by omega)
      rw [markF_self hlt] at hJ
      have hlim0 := hlim
      simp only [LIM] at hlim
      try simp [-List.map_take, -List.map_drop, -List.map_tail, run_guard, run_guardD, resultsA, resA, Nat.add_assoc, hJ, tskC, i64_ok (x := k + 9 * (i : Int) + 1) (by omega), i64_ok (x := k + 9 * (i : Int) + 1 + 1) (by omega), i64_ok (x := k + 9 * (i : Int) + 1 + 1 + 1) (by omega), i64_ok (x := k + 9 * (i : Int) + 1 + 1 + 1 + 1) (by omega), i64_ok (x := k + 9 * (i : Int) + 1 + 1 + 1 + 1 + 1) (by omega), i64_ok (x := k + 9 * (i : Int) + 1 + 1 + 1 + 1 + 1 + 1) (by omega), i64_ok (x := k + 9 * (i : Int) + 1 + 1 + 1 + 1 + 1 + 1 + 1) (by omega), i64_ok (x := k + 9 * (i : Int) + 1 + 1 + 1 + 1 + 1 + 1 + 1 + 1) (by omega), i64_ok (x := k + 9 * (i : Int) + 1 + 1 + 1 + 1 + 1 + 1 + 1 + 1 + 1) (by omega)]
      repeat'
        first
        | done
        | ((first
            | ((with_reducible show lenS _ _ _ _ _ _); refine lenS_slice rfl fun _ => ?_)
            | ((with_reducible show iaddrS _ _ _ _ _ _ _); refine iaddr_map rfl omA omA ?_)
            | (((with_reducible show iaddrS _ _ _ _ (.ref _ _ _ _) _ _); refine iaddr_ref rfl (by omega) (by omega) ?_))
            | (((with_reducible show storeE _ _ _ _ _ _ _ _ _); refine storeE_fld (xs := markF tskC mkTsk 9 k xs i) (by first | exact hJ | exact upd_same _ _ _) (by omega) rfl rfl (by omega) ?_))) <;> simp [-List.map_take, -List.map_drop, -List.map_tail, run_guard, run_guardD, resultsA, resA, Nat.add_assoc, hJ, tskC, i64_ok (x := k + 9 * (i : Int) + 1) (by omega), i64_ok (x := k + 9 * (i : Int) + 1 + 1) (by omega), i64_ok (x := k + 9 * (i : Int) + 1 + 1 + 1) (by omega), i64_ok (x := k + 9 * (i : Int) + 1 + 1 + 1 + 1) (by omega), i64_ok (x := k + 9 * (i : Int) + 1 + 1 + 1 + 1 + 1) (by omega), i64_ok (x := k + 9 * (i : Int) + 1 + 1 + 1 + 1 + 1 + 1) (by omega), i64_ok (x := k + 9 * (i : Int) + 1 + 1 + 1 + 1 + 1 + 1 + 1) (by omega), i64_ok (x := k + 9 * (i : Int) + 1 + 1 + 1 + 1 + 1 + 1 + 1 + 1) (by omega), i64_ok (x := k + 9 * (i : Int) + 1 + 1 + 1 + 1 + 1 + 1 + 1 + 1 + 1) (by omega)])
        | ((first | (with_reducible refine condS_split ?_ ?_)) <;> intro qb <;> (have qp := qb; try simp only [psq] at qp) <;> simp [-List.map_take, -List.map_drop, -List.map_tail, run_guard, run_guardD, resultsA, resA, Nat.add_assoc, hJ, tskC, i64_ok (x := k + 9 * (i : Int) + 1) (by omega), i64_ok (x := k + 9 * (i : Int) + 1 + 1) (by omega), i64_ok (x := k + 9 * (i : Int) + 1 + 1 + 1) (by omega), i64_ok (x := k + 9 * (i : Int) + 1 + 1 + 1 + 1) (by omega), i64_ok (x := k + 9 * (i : Int) + 1 + 1 + 1 + 1 + 1) (by omega), i64_ok (x := k + 9 * (i : Int) + 1 + 1 + 1 + 1 + 1 + 1) (by omega), i64_ok (x := k + 9 * (i : Int) + 1 + 1 + 1 + 1 + 1 + 1 + 1) (by omega), i64_ok (x := k + 9 * (i : Int) + 1 + 1 + 1 + 1 + 1 + 1 + 1 + 1) (by omega), i64_ok (x := k + 9 * (i : Int) + 1 + 1 + 1 + 1 + 1 + 1 + 1 + 1 + 1) (by omega), qb])
      all_goals first
      | omega
      | (refine hnx.go () ?_ ?_ ?_ ?_ ?_ ?_
         · omega
         · simp [wrap_succ hlt hlim0] <;> omega
         · simp
         · exact fun j hj => absurd hj (by omega)
         · exact Nat.zero_le _
         try dsimp only
         refine ⟨?_, fun j hj hji => ?_, by omega⟩
         · rw [← markF_set hlt]
           simp [mkTsk, tskC, Int.add_assoc]
         · simp [hji]
           exact hJf j hj hji)
    · try simp [-List.map_take, -List.map_drop, -List.map_tail, run_guard, run_guardD, resultsA, resA, Nat.add_assoc, hJ, hlt]
      repeat'
        first
        | done
        | ((first
            | ((with_reducible show lenS _ _ _ _ _ _); refine lenS_slice rfl fun _ => ?_)
            | ((with_reducible show iaddrS _ _ _ _ _ _ _); refine iaddr_map rfl omA omA ?_)) <;> simp [-List.map_take, -List.map_drop, -List.map_tail, run_guard, run_guardD, resultsA, resA, Nat.add_assoc, hJ, hlt])
        | ((first | (with_reducible refine condS_split ?_ ?_)) <;> intro qb <;> (have qp := qb; try simp only [psq] at qp) <;> simp [-List.map_take, -List.map_drop, -List.map_tail, run_guard, run_guardD, resultsA, resA, Nat.add_assoc, hJ, hlt, qb])
      refine ⟨by omega, ?_, hJf⟩
      have : i = xs.length := by omega
      subst this
      exact markF_end (Nat.le_refl _)

def mkSgt (k : Int) : Sgt := ⟨k, k + 1, k + 2, k + 3⟩
-- laws.markSightS
theorem m_markSightS {id : Nat} {xs : List Sgt} {k : Int} (hlim : xs.length ≤ LIM) (h0 : 0 ≤ k) (h1 : k ≤ 1152921504606846976) : AC ctx.P 105 [.ref id 4 0 xs.length, .int .i64 k] (fun h _ => h id = some (.row 4 (xs.map sgtC)))
    (fun h nx v h' nx' => v = .int .i64 (k + (4 : Nat) * xs.length) ∧ h' id = some (.row 4 ((markL mkSgt 4 k xs.length).map sgtC)) ∧ ∀ j, j < nx → j ≠ id → h' j = h j) := by
  refine AC.of okC Tryz.func105 rfl rfl (by kernel_rfl) (Nat.le_of_ble_eq_true rfl) fun h nx hfr hnx hpre => ?_
  show goC ctx _ _ (.fin (RetQ _ _ _))
  have hid : id < nx := hnx id (by rw [hpre]; simp)
  try simp [-List.map_take, -List.map_drop, -List.map_tail, run_guard, run_guardD, resultsA, resA, Nat.add_assoc]
  repeat'
    first
    | done
    | ((first
        | ((with_reducible show lenS _ _ _ _ _ _); refine lenS_slice rfl fun _ => ?_)
        | ((with_reducible show iaddrS _ _ _ _ _ _ _); refine iaddr_map rfl omA omA ?_)) <;> simp [-List.map_take, -List.map_drop, -List.map_tail, run_guard, run_guardD, resultsA, resA, Nat.add_assoc])
    | ((first | (with_reducible refine condS_split ?_ ?_)) <;> intro qb <;> (have qp := qb; try simp only [psq] at qp) <;> simp [-List.map_take, -List.map_drop, -List.map_tail, run_guard, run_guardD, resultsA, resA, Nat.add_assoc, qb])
  refine go_upP (h0 := h) (nx0 := 0) [1, 5, 6, 7, 8, 9, 10, 11, 12, 13, 14, 15, 16, 17, 18, 19, 20, 21, 22, 23, 24, 25, 26, 27, 28, 29, 30, 31, 32, 33, 34, 35, 36, 37, 38, 39] (xs.length) (fun (i : Nat) a => [(5, .int .i64 i), (1, .int .i64 (k + (4 : Nat) * i))]) (fun i (_ : Unit) h' n' => h' id = some (.row 4 (markF sgtC mkSgt 4 k xs i)) ∧ (∀ j, j < nx → j ≠ id → h' j = h j) ∧ nx ≤ n') (()) (by simp) ?_ (fun j hj => absurd hj (by omega)) (Nat.zero_le _) ?_
  · simp [markF_0, hpre]
  · intro i a tm h' n' hle hJ hE hn' next hnx
    try dsimp only at hJ
    simp [-List.map_take, -List.map_drop, -List.map_tail]
    obtain ⟨hJ, hJf, hJn⟩ := hJ
    by_cases hlt : i < xs.length
    · have hl : (markF sgtC mkSgt 4 k xs i).length = xs.length := markF_len (by omega)
      rw [markF_self hlt] at hJ
      have hlim0 := hlim
      simp only [LIM] at hlim
      try simp [-List.map_take, -List.map_drop, -List.map_tail, run_guard, run_guardD, resultsA, resA, Nat.add_assoc, hJ, sgtC, i64_ok (x := k + 4 * (i : Int) + 1) (by omega), i64_ok (x := k + 4 * (i : Int) + 1 + 1) (by omega), i64_ok (x := k + 4 * (i : Int) + 1 + 1 + 1) (by omega), i64_ok (x := k + 4 * (i : Int) + 1 + 1 + 1 + 1) (by omega)]
      repeat'
        first
        | done
        | ((first
            | ((with_reducible show lenS _ _ _ _ _ _); refine lenS_slice rfl fun _ => ?_)
            | ((with_reducible show iaddrS _ _ _ _ _ _ _); refine iaddr_map rfl omA omA ?_)
            | (((with_reducible show iaddrS _ _ _ _ (.ref _ _ _ _) _ _); refine iaddr_ref rfl (by omega) (by omega) ?_))
            | (((with_reducible show storeE _ _ _ _ _ _ _ _ _); refine storeE_fld (xs := markF sgtC mkSgt 4 k xs i) (by first | exact hJ | exact upd_same _ _ _) (by omega) rfl rfl (by omega) ?_))) <;> simp [-List.map_take, -List.map_drop, -List.map_tail, run_guard, run_guardD, resultsA, resA, Nat.add_assoc, hJ, sgtC, i64_ok (x := k + 4 * (i : Int) + 1) (by omega), i64_ok (x := k + 4 * (i : Int) + 1 + 1) (by omega), i64_ok (x := k + 4 * (i : Int) + 1 + 1 + 1) (by omega), i64_ok (x := k + 4 * (i : Int) + 1 + 1 + 1 + 1) (by omega)])
        | ((first | (with_reducible refine condS_split ?_ ?_)) <;> intro qb <;> (have qp := qb; try simp only [psq] at qp) <;> simp [-List.map_take, -List.map_drop, -List.map_tail, run_guard, run_guardD, resultsA, resA, Nat.add_assoc, hJ, sgtC, i64_ok (x := k + 4 * (i : Int) + 1) (by omega), i64_ok (x := k + 4 * (i : Int) + 1 + 1) (by omega), i64_ok (x := k + 4 * (i : Int) + 1 + 1 + 1) (by omega), i64_ok (x := k + 4 * (i : Int) + 1 + 1 + 1 + 1) (by omega), qb])
      all_goals first
      | omega
      | (refine hnx.go () ?_ ?_ ?_ ?_ ?_ ?_
         · omega
         · simp [wrap_succ hlt hlim0] <;> omega
         · simp
         · exact fun j hj => absurd hj (by omega)
         · exact Nat.zero_le _
         try dsimp only
         refine ⟨?_, fun j hj hji => ?_, by omega⟩
         · rw [← markF_set hlt]
           simp [mkSgt, sgtC, Int.add_assoc]
         · simp [hji]
           exact hJf j hj hji)
    · try simp [-List.map_take, -List.map_drop, -List.map_tail, run_guard, run_guardD, resultsA, resA, Nat.add_assoc, hJ, hlt]
      repeat'
        first
        | done
        | ((first
            | ((with_reducible show lenS _ _ _ _ _ _); refine lenS_slice rfl fun _ => ?_)
            | ((with_reducible show iaddrS _ _ _ _ _ _ _); refine iaddr_map rfl omA omA ?_)) <;> simp [-List.map_take, -List.map_drop, -List.map_tail, run_guard, run_guardD, resultsA, resA, Nat.add_assoc, hJ, hlt])
        | ((first | (with_reducible refine condS_split ?_ ?_)) <;> intro qb <;> (have qp := qb; try simp only [psq] at qp) <;> simp [-List.map_take, -List.map_drop, -List.map_tail, run_guard, run_guardD, resultsA, resA, Nat.add_assoc, hJ, hlt, qb])
      refine ⟨by omega, ?_, hJf⟩
      have : i = xs.length := by omega
      subst this
      exact markF_end (Nat.le_refl _)

def mkInn (k : Int) : Inn := ⟨k, k + 1, k + 2⟩
-- laws.markInsS
theorem m_markInsS {id : Nat} {xs : List Inn} {k : Int} (hlim : xs.length ≤ LIM) (h0 : 0 ≤ k) (h1 : k ≤ 1152921504606846976) : AC ctx.P 209 [.ref id 3 0 xs.length, .int .i64 k] (fun h _ => h id = some (.row 3 (xs.map innC)))
    (fun h nx v h' nx' => v = .int .i64 (k + (3 : Nat) * xs.length) ∧ h' id = some (.row 3 ((markL mkInn 3 k xs.length).map innC)) ∧ ∀ j, j < nx → j ≠ id → h' j = h j) := by
  refine AC.of okC Tryz.func209 rfl rfl (by kernel_rfl) (Nat.le_of_ble_eq_true rfl) fun h nx hfr hnx hpre => ?_
  show goC ctx _ _ (.fin (RetQ _ _ _))
  have hid : id < nx := hnx id (by rw [hpre]; simp)
  try simp [-List.map_take, -List.map_drop, -List.map_tail, run_guard, run_guardD, resultsA, resA, Nat.add_assoc]
  repeat'
    first
    | done
    | ((first
        | ((with_reducible show lenS _ _ _ _ _ _); refine lenS_slice rfl fun _ => ?_)
        | ((with_reducible show iaddrS _ _ _ _ _ _ _); refine iaddr_map rfl omA omA ?_)) <;> simp [-List.map_take, -List.map_drop, -List.map_tail, run_guard, run_guardD, resultsA, resA, Nat.add_assoc])
    | ((first | (with_reducible refine condS_split ?_ ?_)) <;> intro qb <;> (have qp := qb; try simp only [psq] at qp) <;> simp [-List.map_take, -List.map_drop, -List.map_tail, run_guard, run_guardD, resultsA, resA, Nat.add_assoc, qb])
  refine go_upP (h0 := h) (nx0 := 0) [1, 5, 6, 7, 8, 9, 10, 11, 12, 13, 14, 15, 16, 17, 18, 19, 20, 21, 22, 23, 24, 25, 26, 27, 28, 29, 30, 31, 32] (xs.length) (fun (i : Nat) a => [(5, .int .i64 i), (1, .int .i64 (k + (3 : Nat) * i))]) (fun i (_ : Unit) h' n' => h' id = some (.row 3 (markF innC mkInn 3 k xs i)) ∧ (∀ j, j < nx → j ≠ id → h' j = h j) ∧ nx ≤ n') (()) (by simp) ?_ (fun j hj => absurd hj (by omega)) (Nat.zero_le _) ?_
  · simp [markF_0, hpre]
  · intro i a tm h' n' hle hJ hE hn' next hnx
    try dsimp only at hJ
    simp [-List.map_take, -List.map_drop, -List.map_tail]
    obtain ⟨hJ, hJf, hJn⟩ := hJ
    by_cases hlt : i < xs.length
    · have hl : (markF innC mkInn 3 k xs i).length = xs.length := markF_len (by omega)
      rw [markF_self hlt] at hJ
      have hlim0 := hlim
      simp only [LIM] at hlim
      try simp [-List.map_take, -List.map_drop, -List.map_tail, run_guard, run_guardD, resultsA, resA, Nat.add_assoc, hJ, innC, i64_ok (x := k + 3 * (i : Int) + 1) (by omega), i64_ok (x := k + 3 * (i : Int) + 1 + 1) (by omega), i64_ok (x := k + 3 * (i : Int) + 1 + 1 + 1) (by omega)]
      repeat'
        first
        | done
        | ((first
            | ((with_reducible show lenS _ _ _ _ _ _); refine lenS_slice rfl fun _ => ?_)
            | ((with_reducible show iaddrS _ _ _ _ _ _ _); refine iaddr_map rfl omA omA ?_)
            | (((with_reducible show iaddrS _ _ _ _ (.ref _ _ _ _) _ _); refine iaddr_ref rfl (by omega) (by omega) ?_))
            | (((with_reducible show storeE _ _ _ _ _ _ _ _ _); refine storeE_fld (xs := markF innC mkInn 3 k xs i) (by first | exact hJ | exact upd_same _ _ _) (by omega) rfl rfl (by omega) ?_))) <;> simp [-List.map_take, -List.map_drop, -List.map_tail, run_guard, run_guardD, resultsA, resA, Nat.add_assoc, hJ, innC, i64_ok (x := k + 3 * (i : Int) + 1) (by omega), i64_ok (x := k + 3 * (i : Int) + 1 + 1) (by omega), i64_ok (x := k + 3 * (i : Int) + 1 + 1 + 1) (by omega)])
        | ((first | (with_reducible refine condS_split ?_ ?_)) <;> intro qb <;> (have qp := qb; try simp only [psq] at qp) <;> simp [-List.map_take, -List.map_drop, -List.map_tail, run_guard, run_guardD, resultsA, resA, Nat.add_assoc, hJ, innC, i64_ok (x := k + 3 * (i : Int) + 1) (by omega), i64_ok (x := k + 3 * (i : Int) + 1 + 1) (by omega), i64_ok (x := k + 3 * (i : Int) + 1 + 1 + 1) (by omega), qb])
      all_goals first
      | omega
      | (refine hnx.go () ?_ ?_ ?_ ?_ ?_ ?_
         · omega
         · simp [wrap_succ hlt hlim0] <;> omega
         · simp
         · exact fun j hj => absurd hj (by omega)
         · exact Nat.zero_le _
         try dsimp only
         refine ⟨?_, fun j hj hji => ?_, by omega⟩
         · rw [← markF_set hlt]
           simp [mkInn, innC, Int.add_assoc]
         · simp [hji]
           exact hJf j hj hji)
    · try simp [-List.map_take, -List.map_drop, -List.map_tail, run_guard, run_guardD, resultsA, resA, Nat.add_assoc, hJ, hlt]
      repeat'
        first
        | done
        | ((first
            | ((with_reducible show lenS _ _ _ _ _ _); refine lenS_slice rfl fun _ => ?_)
            | ((with_reducible show iaddrS _ _ _ _ _ _ _); refine iaddr_map rfl omA omA ?_)) <;> simp [-List.map_take, -List.map_drop, -List.map_tail, run_guard, run_guardD, resultsA, resA, Nat.add_assoc, hJ, hlt])
        | ((first | (with_reducible refine condS_split ?_ ?_)) <;> intro qb <;> (have qp := qb; try simp only [psq] at qp) <;> simp [-List.map_take, -List.map_drop, -List.map_tail, run_guard, run_guardD, resultsA, resA, Nat.add_assoc, hJ, hlt, qb])
      refine ⟨by omega, ?_, hJf⟩
      have : i = xs.length := by omega
      subst this
      exact markF_end (Nat.le_refl _)

def mkPik (k : Int) : Pik := ⟨k, k + 1⟩
-- laws.markPickS
theorem m_markPickS {id : Nat} {xs : List Pik} {k : Int} (hlim : xs.length ≤ LIM) (h0 : 0 ≤ k) (h1 : k ≤ 1152921504606846976) : AC ctx.P 36 [.ref id 2 0 xs.length, .int .i64 k] (fun h _ => h id = some (.row 2 (xs.map pikC)))
    (fun h nx v h' nx' => v = .int .i64 (k + (2 : Nat) * xs.length) ∧ h' id = some (.row 2 ((markL mkPik 2 k xs.length).map pikC)) ∧ ∀ j, j < nx → j ≠ id → h' j = h j) := by
  refine AC.of okC Tryz.func36 rfl rfl (by kernel_rfl) (Nat.le_of_ble_eq_true rfl) fun h nx hfr hnx hpre => ?_
  show goC ctx _ _ (.fin (RetQ _ _ _))
  have hid : id < nx := hnx id (by rw [hpre]; simp)
  try simp [-List.map_take, -List.map_drop, -List.map_tail, run_guard, run_guardD, resultsA, resA, Nat.add_assoc]
  repeat'
    first
    | done
    | ((first
        | ((with_reducible show lenS _ _ _ _ _ _); refine lenS_slice rfl fun _ => ?_)
        | ((with_reducible show iaddrS _ _ _ _ _ _ _); refine iaddr_map rfl omA omA ?_)) <;> simp [-List.map_take, -List.map_drop, -List.map_tail, run_guard, run_guardD, resultsA, resA, Nat.add_assoc])
    | ((first | (with_reducible refine condS_split ?_ ?_)) <;> intro qb <;> (have qp := qb; try simp only [psq] at qp) <;> simp [-List.map_take, -List.map_drop, -List.map_tail, run_guard, run_guardD, resultsA, resA, Nat.add_assoc, qb])
  refine go_upP (h0 := h) (nx0 := 0) [1, 5, 6, 7, 8, 9, 10, 11, 12, 13, 14, 15, 16, 17, 18, 19, 20, 21, 22, 23, 24, 25] (xs.length) (fun (i : Nat) a => [(5, .int .i64 i), (1, .int .i64 (k + (2 : Nat) * i))]) (fun i (_ : Unit) h' n' => h' id = some (.row 2 (markF pikC mkPik 2 k xs i)) ∧ (∀ j, j < nx → j ≠ id → h' j = h j) ∧ nx ≤ n') (()) (by simp) ?_ (fun j hj => absurd hj (by omega)) (Nat.zero_le _) ?_
  · simp [markF_0, hpre]
  · intro i a tm h' n' hle hJ hE hn' next hnx
    try dsimp only at hJ
    simp [-List.map_take, -List.map_drop, -List.map_tail]
    obtain ⟨hJ, hJf, hJn⟩ := hJ
    by_cases hlt : i < xs.length
    · have hl : (markF pikC mkPik 2 k xs i).length = xs.length := markF_len (by omega)
      rw [markF_self hlt] at hJ
      have hlim0 := hlim
      simp only [LIM] at hlim
      try simp [-List.map_take, -List.map_drop, -List.map_tail, run_guard, run_guardD, resultsA, resA, Nat.add_assoc, hJ, pikC, i64_ok (x := k + 2 * (i : Int) + 1) (by omega), i64_ok (x := k + 2 * (i : Int) + 1 + 1) (by omega)]
      repeat'
        first
        | done
        | ((first
            | ((with_reducible show lenS _ _ _ _ _ _); refine lenS_slice rfl fun _ => ?_)
            | ((with_reducible show iaddrS _ _ _ _ _ _ _); refine iaddr_map rfl omA omA ?_)
            | (((with_reducible show iaddrS _ _ _ _ (.ref _ _ _ _) _ _); refine iaddr_ref rfl (by omega) (by omega) ?_))
            | (((with_reducible show storeE _ _ _ _ _ _ _ _ _); refine storeE_fld (xs := markF pikC mkPik 2 k xs i) (by first | exact hJ | exact upd_same _ _ _) (by omega) rfl rfl (by omega) ?_))) <;> simp [-List.map_take, -List.map_drop, -List.map_tail, run_guard, run_guardD, resultsA, resA, Nat.add_assoc, hJ, pikC, i64_ok (x := k + 2 * (i : Int) + 1) (by omega), i64_ok (x := k + 2 * (i : Int) + 1 + 1) (by omega)])
        | ((first | (with_reducible refine condS_split ?_ ?_)) <;> intro qb <;> (have qp := qb; try simp only [psq] at qp) <;> simp [-List.map_take, -List.map_drop, -List.map_tail, run_guard, run_guardD, resultsA, resA, Nat.add_assoc, hJ, pikC, i64_ok (x := k + 2 * (i : Int) + 1) (by omega), i64_ok (x := k + 2 * (i : Int) + 1 + 1) (by omega), qb])
      all_goals first
      | omega
      | (refine hnx.go () ?_ ?_ ?_ ?_ ?_ ?_
         · omega
         · simp [wrap_succ hlt hlim0] <;> omega
         · simp
         · exact fun j hj => absurd hj (by omega)
         · exact Nat.zero_le _
         try dsimp only
         refine ⟨?_, fun j hj hji => ?_, by omega⟩
         · rw [← markF_set hlt]
           simp [mkPik, pikC, Int.add_assoc]
         · simp [hji]
           exact hJf j hj hji)
    · try simp [-List.map_take, -List.map_drop, -List.map_tail, run_guard, run_guardD, resultsA, resA, Nat.add_assoc, hJ, hlt]
      repeat'
        first
        | done
        | ((first
            | ((with_reducible show lenS _ _ _ _ _ _); refine lenS_slice rfl fun _ => ?_)
            | ((with_reducible show iaddrS _ _ _ _ _ _ _); refine iaddr_map rfl omA omA ?_)) <;> simp [-List.map_take, -List.map_drop, -List.map_tail, run_guard, run_guardD, resultsA, resA, Nat.add_assoc, hJ, hlt])
        | ((first | (with_reducible refine condS_split ?_ ?_)) <;> intro qb <;> (have qp := qb; try simp only [psq] at qp) <;> simp [-List.map_take, -List.map_drop, -List.map_tail, run_guard, run_guardD, resultsA, resA, Nat.add_assoc, hJ, hlt, qb])
      refine ⟨by omega, ?_, hJf⟩
      have : i = xs.length := by omega
      subst this
      exact markF_end (Nat.le_refl _)

def mkInt (k : Int) : Int := k
-- laws.markInt64S
theorem m_markInt64S {id : Nat} {xs : List Int} {k : Int} (hlim : xs.length ≤ LIM) (h0 : 0 ≤ k) (h1 : k ≤ 1152921504606846976) : AC ctx.P 106 [.ref id 1 0 xs.length, .int .i64 k] (fun h _ => h id = some (.row 1 (xs.map iv)))
    (fun h nx v h' nx' => v = .int .i64 (k + (1 : Nat) * xs.length) ∧ h' id = some (.row 1 ((markL mkInt 1 k xs.length).map iv)) ∧ ∀ j, j < nx → j ≠ id → h' j = h j) := by
  refine AC.of okC Tryz.func106 rfl rfl (by kernel_rfl) (Nat.le_of_ble_eq_true rfl) fun h nx hfr hnx hpre => ?_
  show goC ctx _ _ (.fin (RetQ _ _ _))
  have hid : id < nx := hnx id (by rw [hpre]; simp)
  try simp [-List.map_take, -List.map_drop, -List.map_tail, run_guard, run_guardD, resultsA, resA, Nat.add_assoc]
  repeat'
    first
    | done
    | ((first
        | ((with_reducible show lenS _ _ _ _ _ _); refine lenS_slice rfl fun _ => ?_)
        | ((with_reducible show iaddrS _ _ _ _ _ _ _); refine iaddr_map rfl omA omA ?_)) <;> simp [-List.map_take, -List.map_drop, -List.map_tail, run_guard, run_guardD, resultsA, resA, Nat.add_assoc])
    | ((first | (with_reducible refine condS_split ?_ ?_)) <;> intro qb <;> (have qp := qb; try simp only [psq] at qp) <;> simp [-List.map_take, -List.map_drop, -List.map_tail, run_guard, run_guardD, resultsA, resA, Nat.add_assoc, qb])
  refine go_upP (h0 := h) (nx0 := 0) [1, 5, 6, 7, 8, 9, 10, 11, 12, 13, 14, 15, 16, 17] (xs.length) (fun (i : Nat) a => [(5, .int .i64 i), (1, .int .i64 (k + (1 : Nat) * i))]) (fun i (_ : Unit) h' n' => h' id = some (.row 1 (markF iv mkInt 1 k xs i)) ∧ (∀ j, j < nx → j ≠ id → h' j = h j) ∧ nx ≤ n') (()) (by simp) ?_ (fun j hj => absurd hj (by omega)) (Nat.zero_le _) ?_
  · simp [markF_0, hpre]
  · intro i a tm h' n' hle hJ hE hn' next hnx
    try dsimp only at hJ
    simp [-List.map_take, -List.map_drop, -List.map_tail]
    obtain ⟨hJ, hJf, hJn⟩ := hJ
    by_cases hlt : i < xs.length
    · have hl : (markF iv mkInt 1 k xs i).length = xs.length := markF_len (by omega)
      rw [markF_self hlt] at hJ
      have hlim0 := hlim
      simp only [LIM] at hlim
      try simp [-List.map_take, -List.map_drop, -List.map_tail, run_guard, run_guardD, resultsA, resA, Nat.add_assoc, hJ, iv, i64_ok (x := k + (i : Int) + 1) (by omega)]
      repeat'
        first
        | done
        | ((first
            | ((with_reducible show lenS _ _ _ _ _ _); refine lenS_slice rfl fun _ => ?_)
            | ((with_reducible show iaddrS _ _ _ _ _ _ _); refine iaddr_map rfl omA omA ?_)
            | (((with_reducible show iaddrS _ _ _ _ (.ref _ _ _ _) _ _); refine iaddr_ref rfl (by omega) (by omega) ?_))
            | (((with_reducible show storeE _ _ _ _ _ _ _ _ _); refine storeE_fld (xs := markF iv mkInt 1 k xs i) (by first | exact hJ | exact upd_same _ _ _) (by omega) rfl rfl (by omega) ?_))) <;> simp [-List.map_take, -List.map_drop, -List.map_tail, run_guard, run_guardD, resultsA, resA, Nat.add_assoc, hJ, iv, i64_ok (x := k + (i : Int) + 1) (by omega)])
        | ((first | (with_reducible refine condS_split ?_ ?_)) <;> intro qb <;> (have qp := qb; try simp only [psq] at qp) <;> simp [-List.map_take, -List.map_drop, -List.map_tail, run_guard, run_guardD, resultsA, resA, Nat.add_assoc, hJ, iv, i64_ok (x := k + (i : Int) + 1) (by omega), qb])
      all_goals first
      | omega
      | (refine hnx.go () ?_ ?_ ?_ ?_ ?_ ?_
         · omega
         · simp [wrap_succ hlt hlim0] <;> omega
         · simp
         · exact fun j hj => absurd hj (by omega)
         · exact Nat.zero_le _
         try dsimp only
         refine ⟨?_, fun j hj hji => ?_, by omega⟩
         · rw [← markF_set hlt]
           simp [mkInt, iv, Int.add_assoc]
         · simp [hji]
           exact hJf j hj hji)
    · try simp [-List.map_take, -List.map_drop, -List.map_tail, run_guard, run_guardD, resultsA, resA, Nat.add_assoc, hJ, hlt]
      repeat'
        first
        | done
        | ((first
            | ((with_reducible show lenS _ _ _ _ _ _); refine lenS_slice rfl fun _ => ?_)
            | ((with_reducible show iaddrS _ _ _ _ _ _ _); refine iaddr_map rfl omA omA ?_)) <;> simp [-List.map_take, -List.map_drop, -List.map_tail, run_guard, run_guardD, resultsA, resA, Nat.add_assoc, hJ, hlt])
        | ((first | (with_reducible refine condS_split ?_ ?_)) <;> intro qb <;> (have qp := qb; try simp only [psq] at qp) <;> simp [-List.map_take, -List.map_drop, -List.map_tail, run_guard, run_guardD, resultsA, resA, Nat.add_assoc, hJ, hlt, qb])
      refine ⟨by omega, ?_, hJf⟩
      have : i = xs.length := by omega
      subst this
      exact markF_end (Nat.le_refl _)

def mkBool (k : Int) : Bool := k.tmod 3 == 0
-- laws.markBoolS
theorem m_markBoolS {id : Nat} {xs : List Bool} {k : Int} (hlim : xs.length ≤ LIM) (h0 : 0 ≤ k) (h1 : k ≤ 1152921504606846976) : AC ctx.P 210 [.ref id 1 0 xs.length, .int .i64 k] (fun h _ => h id = some (.row 1 (xs.map bv)))
    (fun h nx v h' nx' => v = .int .i64 (k + (1 : Nat) * xs.length) ∧ h' id = some (.row 1 ((markL mkBool 1 k xs.length).map bv)) ∧ ∀ j, j < nx → j ≠ id → h' j = h j) := by
  refine AC.of okC Tryz.func210 rfl rfl (by kernel_rfl) (Nat.le_of_ble_eq_true rfl) fun h nx hfr hnx hpre => ?_
  show goC ctx _ _ (.fin (RetQ _ _ _))
  have hid : id < nx := hnx id (by rw [hpre]; simp)
  try simp [-List.map_take, -List.map_drop, -List.map_tail, run_guard, run_guardD, resultsA, resA, Nat.add_assoc]
  repeat'
    first
    | done
    | ((first
        | ((with_reducible show lenS _ _ _ _ _ _); refine lenS_slice rfl fun _ => ?_)
        | ((with_reducible show iaddrS _ _ _ _ _ _ _); refine iaddr_map rfl omA omA ?_)) <;> simp [-List.map_take, -List.map_drop, -List.map_tail, run_guard, run_guardD, resultsA, resA, Nat.add_assoc])
    | ((first | (with_reducible refine condS_split ?_ ?_)) <;> intro qb <;> (have qp := qb; try simp only [psq] at qp) <;> simp [-List.map_take, -List.map_drop, -List.map_tail, run_guard, run_guardD, resultsA, resA, Nat.add_assoc, qb])
  refine go_upP (h0 := h) (nx0 := 0) [1, 5, 6, 7, 8, 9, 10, 11, 12, 13, 14, 15, 16, 17, 18, 19] (xs.length) (fun (i : Nat) a => [(5, .int .i64 i), (1, .int .i64 (k + (1 : Nat) * i))]) (fun i (_ : Unit) h' n' => h' id = some (.row 1 (markF bv mkBool 1 k xs i)) ∧ (∀ j, j < nx → j ≠ id → h' j = h j) ∧ nx ≤ n') (()) (by simp) ?_ (fun j hj => absurd hj (by omega)) (Nat.zero_le _) ?_
  · simp [markF_0, hpre]
  · intro i a tm h' n' hle hJ hE hn' next hnx
    try dsimp only at hJ
    simp [-List.map_take, -List.map_drop, -List.map_tail]
    obtain ⟨hJ, hJf, hJn⟩ := hJ
    by_cases hlt : i < xs.length
    · have hl : (markF bv mkBool 1 k xs i).length = xs.length := markF_len (by omega)
      rw [markF_self hlt] at hJ
      have hlim0 := hlim
      simp only [LIM] at hlim
      try simp [-List.map_take, -List.map_drop, -List.map_tail, run_guard, run_guardD, resultsA, resA, Nat.add_assoc, hJ, bv, i64_ok (x := k + (i : Int) + 1) (by omega)]
      repeat'
        first
        | done
        | ((first
            | ((with_reducible show lenS _ _ _ _ _ _); refine lenS_slice rfl fun _ => ?_)
            | ((with_reducible show iaddrS _ _ _ _ _ _ _); refine iaddr_map rfl omA omA ?_)
            | (((with_reducible show iaddrS _ _ _ _ (.ref _ _ _ _) _ _); refine iaddr_ref rfl (by omega) (by omega) ?_))
            | (((with_reducible show storeE _ _ _ _ _ _ _ _ _); refine storeE_fld (xs := markF bv mkBool 1 k xs i) (by first | exact hJ | exact upd_same _ _ _) (by omega) rfl rfl (by omega) ?_))) <;> simp [-List.map_take, -List.map_drop, -List.map_tail, run_guard, run_guardD, resultsA, resA, Nat.add_assoc, hJ, bv, i64_ok (x := k + (i : Int) + 1) (by omega)])
        | ((first | (with_reducible refine condS_split ?_ ?_)) <;> intro qb <;> (have qp := qb; try simp only [psq] at qp) <;> simp [-List.map_take, -List.map_drop, -List.map_tail, run_guard, run_guardD, resultsA, resA, Nat.add_assoc, hJ, bv, i64_ok (x := k + (i : Int) + 1) (by omega), qb])
      all_goals first
      | omega
      | (refine hnx.go () ?_ ?_ ?_ ?_ ?_ ?_
         · omega
         · simp [wrap_succ hlt hlim0] <;> omega
         · simp
         · exact fun j hj => absurd hj (by omega)
         · exact Nat.zero_le _
         try dsimp only
         refine ⟨?_, fun j hj hji => ?_, by omega⟩
         · rw [← markF_set hlt]
           simp [mkBool, bv, Int.add_assoc]
         · simp [hji]
           exact hJf j hj hji)
    · try simp [-List.map_take, -List.map_drop, -List.map_tail, run_guard, run_guardD, resultsA, resA, Nat.add_assoc, hJ, hlt]
      repeat'
        first
        | done
        | ((first
            | ((with_reducible show lenS _ _ _ _ _ _); refine lenS_slice rfl fun _ => ?_)
            | ((with_reducible show iaddrS _ _ _ _ _ _ _); refine iaddr_map rfl omA omA ?_)) <;> simp [-List.map_take, -List.map_drop, -List.map_tail, run_guard, run_guardD, resultsA, resA, Nat.add_assoc, hJ, hlt])
        | ((first | (with_reducible refine condS_split ?_ ?_)) <;> intro qb <;> (have qp := qb; try simp only [psq] at qp) <;> simp [-List.map_take, -List.map_drop, -List.map_tail, run_guard, run_guardD, resultsA, resA, Nat.add_assoc, hJ, hlt, qb])
      refine ⟨by omega, ?_, hJf⟩
      have : i = xs.length := by omega
      subst this
      exact markF_end (Nat.le_refl _)

end Go.AE.Tryz
end

section
/- Contracts of the laws' marks of programs and groups. -/
set_option linter.unusedSimpArgs false
set_option linter.unusedVariables false
set_option maxRecDepth 8000
set_option maxHeartbeats 4000000
namespace Go.AE.Tryz
open Go.Proofs
-- laws.markInsSS
theorem m_markInsSS {id lo hi : Nat} {xs : List (List Inn)} {is : List Nat} {k : Int} (hl : is.length = xs.length) (hlim : xs.length ≤ LIM) (hli : ∀ x ∈ xs, x.length ≤ LIM) (h0 : 0 ≤ k) (h1 : k + 3 * lsum (·.length) xs ≤ 1152921504606846976) (hn : id ∉ is) :
    AC ctx.P 97 [.ref id 1 0 xs.length, .int .i64 k] (fun h _ => h id = some (.row 1 (List.zipWith prgR xs is)) ∧ Subs h 3 (fun x : List Inn => x.map innC) xs is lo hi)
    (fun h nx v h' nx' => v = .int .i64 (k + 3 * lsum (·.length) xs) ∧ Subs h' 3 (fun x : List Inn => x.map innC) (mkProgs xs k) is lo hi ∧ ∀ j, j < nx → j ∉ is → h' j = h j) := by
  refine AC.of okC Tryz.func97 rfl rfl (by kernel_rfl) (Nat.le_of_ble_eq_true rfl) fun h nx hfr hnx hpre => ?_
  show goC ctx _ _ (.fin (RetQ _ _ _))
  obtain ⟨hp1, hp2⟩ := hpre
  have hid : id < nx := hnx id (by rw [hp1]; simp)
  have hisn : ∀ j ∈ is, j < nx := by
    intro j hj
    obtain ⟨m, hm, rfl⟩ := List.getElem_of_mem hj
    exact hnx _ (by rw [hp2.row m (xs[m]'(by omega)) is[m] (List.getElem?_eq_getElem (by omega)) (List.getElem?_eq_getElem hm)]; simp)
  try simp [-List.map_take, -List.map_drop, -List.map_tail, run_guard, run_guardD, resultsA, resA, Nat.add_assoc]
  repeat'
    first
    | done
    | ((first
        | ((with_reducible show lenS _ _ _ _ _ _); refine lenS_slice rfl fun _ => ?_)
        | ((with_reducible show iaddrS _ _ _ _ _ _ _); refine iaddr_map rfl omA omA ?_)) <;> simp [-List.map_take, -List.map_drop, -List.map_tail, run_guard, run_guardD, resultsA, resA, Nat.add_assoc])
    | ((first | (with_reducible refine condS_split ?_ ?_)) <;> intro qb <;> (have qp := qb; try simp only [psq] at qp) <;> simp [-List.map_take, -List.map_drop, -List.map_tail, run_guard, run_guardD, resultsA, resA, Nat.add_assoc, qb])
  refine go_upP (h0 := h) (nx0 := 0) [1, 5, 6, 7, 8, 9, 10, 11, 12, 13, 14, 15, 16, 17] (xs.length) (fun (i : Nat) a => [(5, .int .i64 i), (1, .int .i64 (k + 3 * lsum (·.length) (xs.take i)))]) (fun i (_ : Unit) h' n' => Subs h' 3 (fun x : List Inn => x.map innC) (mkUpto xs k i) is lo hi ∧ (∀ j, j < nx → j ∉ is → h' j = h j) ∧ nx ≤ n') (()) (by simp) ?_ (fun j hj => absurd hj (by omega)) (Nat.zero_le _) ?_
  · simp [mkUpto, mkProgs, lsum, hp2]
  · intro i a tm h' n' hle hJ hE hn' next hnx
    try dsimp only at hJ
    simp [-List.map_take, -List.map_drop, -List.map_tail]
    obtain ⟨hJ, hJf, hJn⟩ := hJ
    have hrow : h' id = some (.row 1 (List.zipWith prgR xs is)) := by rw [hJf id hid hn]; exact hp1
    by_cases hlt : i < xs.length
    · have hz : (List.zipWith prgR xs is)[i]? = some [.ref is[i] 3 0 xs[i].length] := by rw [List.getElem?_zipWith, List.getElem?_eq_getElem hlt, List.getElem?_eq_getElem (by omega)]; rfl
      try simp [-List.map_take, -List.map_drop, -List.map_tail, run_guard, run_guardD, resultsA, resA, Nat.add_assoc, hrow]
      repeat'
        first
        | done
        | ((first
            | ((with_reducible show lenS _ _ _ _ _ _); refine lenS_slice rfl fun _ => ?_)
            | ((with_reducible show iaddrS _ _ _ _ _ _ _); refine iaddr_map rfl omA omA ?_)
            | (((with_reducible show iaddrS _ _ _ _ (.ref _ _ _ _) _ _); refine iaddr_ref rfl (by omega) (by omega) ?_))
            | (((with_reducible show loadE _ _ _ _ _ _ _ _); refine loadE_row hz ?_))) <;> simp [-List.map_take, -List.map_drop, -List.map_tail, run_guard, run_guardD, resultsA, resA, Nat.add_assoc, hrow])
        | ((first | (with_reducible refine condS_split ?_ ?_)) <;> intro qb <;> (have qp := qb; try simp only [psq] at qp) <;> simp [-List.map_take, -List.map_drop, -List.map_tail, run_guard, run_guardD, resultsA, resA, Nat.add_assoc, hrow, qb])
      have hb := lsum_take_le (·.length) xs i
      have hb2 := lsum_take (·.length) xs i hlt
      refine call_ac (m_markInsS (id := is[i]) (xs := xs[i]) (k := k + 3 * lsum (·.length) (xs.take i)) (hli _ (List.getElem_mem hlt)) (by omega) (by omega)) (hJ.row i xs[i] is[i] (mkUpto_get hlt) (List.getElem?_eq_getElem (by omega))) ?_
      rintro r h2 n2 ⟨rfl, hq, hqf⟩ hle2 hfr2
      dsimp only at hq hqf hle2
      try simp [-List.map_take, -List.map_drop, -List.map_tail, run_guard, run_guardD, resultsA, resA, Nat.add_assoc]
      repeat'
        first
        | done
        | ((first
            | ((with_reducible show lenS _ _ _ _ _ _); refine lenS_slice rfl fun _ => ?_)
            | ((with_reducible show iaddrS _ _ _ _ _ _ _); refine iaddr_map rfl omA omA ?_)) <;> simp [-List.map_take, -List.map_drop, -List.map_tail, run_guard, run_guardD, resultsA, resA, Nat.add_assoc])
        | ((first | (with_reducible refine condS_split ?_ ?_)) <;> intro qb <;> (have qp := qb; try simp only [psq] at qp) <;> simp [-List.map_take, -List.map_drop, -List.map_tail, run_guard, run_guardD, resultsA, resA, Nat.add_assoc, qb])
      refine hnx.go () ?_ ?_ ?_ ?_ ?_ ?_
      · omega
      · simp [wrap_succ hlt hlim]; omega
      · simp
      · exact fun j hj => absurd hj (by omega)
      · exact Nat.zero_le _
      try dsimp only
      refine ⟨?_, fun j hj hji => ?_, by omega⟩
      · rw [mkUpto_succ hlt]
        exact hJ.set (List.getElem?_eq_getElem (by omega)) hq fun j hj hne => hqf j (by have := hisn j hj; omega) hne
      · rw [hqf j (by omega) (fun e => hji (e ▸ List.getElem_mem (by omega)))]
        exact hJf j hj hji
      exact absurd hlt (by omega)
    · try simp [-List.map_take, -List.map_drop, -List.map_tail, run_guard, run_guardD, resultsA, resA, Nat.add_assoc, hrow, hlt]
      repeat'
        first
        | done
        | ((first
            | ((with_reducible show lenS _ _ _ _ _ _); refine lenS_slice rfl fun _ => ?_)
            | ((with_reducible show iaddrS _ _ _ _ _ _ _); refine iaddr_map rfl omA omA ?_)) <;> simp [-List.map_take, -List.map_drop, -List.map_tail, run_guard, run_guardD, resultsA, resA, Nat.add_assoc, hrow, hlt])
        | ((first | (with_reducible refine condS_split ?_ ?_)) <;> intro qb <;> (have qp := qb; try simp only [psq] at qp) <;> simp [-List.map_take, -List.map_drop, -List.map_tail, run_guard, run_guardD, resultsA, resA, Nat.add_assoc, hrow, hlt, qb])
      have e1 : xs.take i = xs := List.take_of_length_le (by omega)
      have e2 : mkUpto xs k i = mkProgs xs k := by rw [mkUpto, e1, List.drop_eq_nil_of_le (by omega), List.append_nil]
      rw [e2] at hJ
      exact ⟨by rw [e1], hJ, hJf⟩
end Go.AE.Tryz
end

section
/- Contracts of the laws' marks of groups. -/
set_option linter.unusedSimpArgs false
set_option linter.unusedVariables false
set_option maxRecDepth 8000
set_option maxHeartbeats 4000000
namespace Go.AE.Tryz
open Go.Proofs
-- laws.markGroupS
theorem m_markGroupS {id lo hi : Nat} {xs : List Grp} {is : List Nat} {k : Int} (hl : is.length = xs.length) (hlim : xs.length ≤ LIM) (hli : ∀ x ∈ xs, x.waits.length ≤ LIM) (h0 : 0 ≤ k) (h1 : k + lsum gsz xs ≤ 1152921504606846976) (hn : id ∉ is) :
    AC ctx.P 104 [.ref id 5 0 xs.length, .int .i64 k] (fun h _ => h id = some (.row 5 (List.zipWith grpR xs is)) ∧ Subs h 1 (fun x : Grp => x.waits.map iv) xs is lo hi)
    (fun h nx v h' nx' => v = .int .i64 (k + lsum gsz xs) ∧ h' id = some (.row 5 (List.zipWith grpR (mkGrps xs k) is)) ∧ Subs h' 1 (fun x : Grp => x.waits.map iv) (mkGrps xs k) is lo hi ∧ ∀ j, j < nx → j ∉ is → j ≠ id → h' j = h j) := by
  refine AC.of okC Tryz.func104 rfl rfl (by kernel_rfl) (Nat.le_of_ble_eq_true rfl) fun h nx hfr hnx hpre => ?_
  show goC ctx _ _ (.fin (RetQ _ _ _))
  obtain ⟨hp1, hp2⟩ := hpre
  have hid : id < nx := hnx id (by rw [hp1]; simp)
  have hisn : ∀ j ∈ is, j < nx := by
    intro j hj
    obtain ⟨m, hm, rfl⟩ := List.getElem_of_mem hj
    exact hnx _ (by rw [hp2.row m (xs[m]'(by omega)) is[m] (List.getElem?_eq_getElem (by omega)) (List.getElem?_eq_getElem hm)]; simp)
  try simp [-List.map_take, -List.map_drop, -List.map_tail, run_guard, run_guardD, resultsA, resA, Nat.add_assoc]
  repeat'
    first
    | done
    | ((first
        | ((with_reducible show lenS _ _ _ _ _ _); refine lenS_slice rfl fun _ => ?_)
        | ((with_reducible show iaddrS _ _ _ _ _ _ _); refine iaddr_map rfl omA omA ?_)) <;> simp [-List.map_take, -List.map_drop, -List.map_tail, run_guard, run_guardD, resultsA, resA, Nat.add_assoc])
    | ((first | (with_reducible refine condS_split ?_ ?_)) <;> intro qb <;> (have qp := qb; try simp only [psq] at qp) <;> simp [-List.map_take, -List.map_drop, -List.map_tail, run_guard, run_guardD, resultsA, resA, Nat.add_assoc, qb])
  refine go_upP (h0 := h) (nx0 := 0) [1, 5, 6, 7, 8, 9, 10, 11, 12, 13, 14, 15, 16, 17, 18, 19, 20, 21, 22, 23, 24, 25, 26, 27, 28, 29, 30, 31, 32, 33, 34, 35, 36, 37, 38, 39, 40, 41, 42, 43, 44, 45, 46] (xs.length) (fun (i : Nat) a => [(5, .int .i64 i), (1, .int .i64 (k + lsum gsz (xs.take i)))]) (fun i (_ : Unit) h' n' => h' id = some (.row 5 (List.zipWith grpR (gUpto xs k i) is)) ∧ Subs h' 1 (fun x : Grp => x.waits.map iv) (gUpto xs k i) is lo hi ∧ (∀ j, j < nx → j ∉ is → j ≠ id → h' j = h j) ∧ nx ≤ n') (()) (by simp) ?_ (fun j hj => absurd hj (by omega)) (Nat.zero_le _) ?_
  · simp [gUpto, mkGrps, hp1, hp2]
  · intro i a tm h' n' hle hJ hE hn' next hnx
    try dsimp only at hJ
    simp [-List.map_take, -List.map_drop, -List.map_tail]
    obtain ⟨hR, hJ, hJf, hJn⟩ := hJ
    by_cases hlt : i < xs.length
    · have hii : is[i]? = some is[i] := List.getElem?_eq_getElem (by omega)
      have hz : (List.zipWith grpR (gUpto xs k i) is)[i]? = some (grpR xs[i] is[i]) := by rw [List.getElem?_zipWith, gUpto_get hlt, hii]
      have hRl : (List.zipWith grpR (gUpto xs k i) is).length = xs.length := by rw [List.length_zipWith, gUpto_len (by omega)]; omega
      have hb := lsum_take_le gsz xs i
      have hb2 := lsum_take gsz xs i hlt
      have hb3 := lsum_take_le gsz xs (i + 1)
      have hg : gsz xs[i] = 4 + xs[i].waits.length := rfl
      rw [set_self hz] at hR
      generalize hkk : k + (lsum gsz (xs.take i) : Int) = kk at *
      try simp [-List.map_take, -List.map_drop, -List.map_tail, run_guard, run_guardD, resultsA, resA, Nat.add_assoc, hR, grpR, i64_ok (x := kk + 1) (by omega), i64_ok (x := kk + 1 + 1) (by omega), i64_ok (x := kk + 1 + 1 + 1) (by omega)]
      repeat'
        first
        | done
        | ((first
            | ((with_reducible show lenS _ _ _ _ _ _); refine lenS_slice rfl fun _ => ?_)
            | ((with_reducible show iaddrS _ _ _ _ _ _ _); refine iaddr_map rfl omA omA ?_)
            | (((with_reducible show iaddrS _ _ _ _ (.ref _ _ _ _) _ _); refine iaddr_ref rfl (by omega) (by omega) ?_))
            | (((with_reducible show loadE _ _ _ _ _ _ _ _); refine loadE_row (List.getElem?_set_self (by omega)) ?_))
            | (((with_reducible show storeE _ _ _ _ _ _ _ _ _); refine storeE_fld (xs := List.zipWith grpR (gUpto xs k i) is) (by first | exact hR | exact upd_same _ _ _) (by omega) rfl rfl (by omega) ?_))) <;> simp [-List.map_take, -List.map_drop, -List.map_tail, run_guard, run_guardD, resultsA, resA, Nat.add_assoc, hR, grpR, i64_ok (x := kk + 1) (by omega), i64_ok (x := kk + 1 + 1) (by omega), i64_ok (x := kk + 1 + 1 + 1) (by omega)])
        | ((first | (with_reducible refine condS_split ?_ ?_)) <;> intro qb <;> (have qp := qb; try simp only [psq] at qp) <;> simp [-List.map_take, -List.map_drop, -List.map_tail, run_guard, run_guardD, resultsA, resA, Nat.add_assoc, hR, grpR, i64_ok (x := kk + 1) (by omega), i64_ok (x := kk + 1 + 1) (by omega), i64_ok (x := kk + 1 + 1 + 1) (by omega), qb])
      have hne : is[i] ≠ id := fun e => hn (e ▸ List.getElem_mem (by omega))
      have hw := hJ.row i xs[i] is[i] (gUpto_get hlt) hii
      refine call_ac (m_markInt64S (id := is[i]) (xs := xs[i].waits) (k := kk + 1 + 1 + 1) (hli _ (List.getElem_mem hlt)) (by omega) (by omega)) (by simp [hne, hw]) ?_
      rintro r h2 n2 ⟨rfl, hq, hqf⟩ hle2 hfr2
      dsimp only at hq hqf hle2
      have hR2 := hqf id (by omega) (Ne.symm hne)
      simp at hR2
      try simp [-List.map_take, -List.map_drop, -List.map_tail, run_guard, run_guardD, resultsA, resA, Nat.add_assoc, hR2, i64_ok (x := kk + 1 + 1 + 1 + (xs[i].waits.length : Int) + 1) (by omega)]
      repeat'
        first
        | done
        | ((first
            | ((with_reducible show lenS _ _ _ _ _ _); refine lenS_slice rfl fun _ => ?_)
            | ((with_reducible show iaddrS _ _ _ _ _ _ _); refine iaddr_map rfl omA omA ?_)
            | (((with_reducible show iaddrS _ _ _ _ (.ref _ _ _ _) _ _); refine iaddr_ref rfl (by omega) (by omega) ?_))
            | (((with_reducible show storeE _ _ _ _ _ _ _ _ _); refine storeE_fld (xs := List.zipWith grpR (gUpto xs k i) is) hR2 (by omega) rfl rfl (by omega) ?_))) <;> simp [-List.map_take, -List.map_drop, -List.map_tail, run_guard, run_guardD, resultsA, resA, Nat.add_assoc, hR2, i64_ok (x := kk + 1 + 1 + 1 + (xs[i].waits.length : Int) + 1) (by omega)])
        | ((first | (with_reducible refine condS_split ?_ ?_)) <;> intro qb <;> (have qp := qb; try simp only [psq] at qp) <;> simp [-List.map_take, -List.map_drop, -List.map_tail, run_guard, run_guardD, resultsA, resA, Nat.add_assoc, hR2, i64_ok (x := kk + 1 + 1 + 1 + (xs[i].waits.length : Int) + 1) (by omega), qb])
      refine hnx.go () ?_ ?_ ?_ ?_ ?_ ?_
      · omega
      · simp [wrap_succ hlt hlim]; omega
      · simp
      · exact fun j hj => absurd hj (by omega)
      · exact Nat.zero_le _
      try dsimp only
      have hkeep : ∀ j, j < nx → j ≠ id → j ≠ is[i] → h2 j = h' j := fun j hj hj1 hj2 => by
        rw [hqf j (by omega) hj2]
        simp [hj1]
      refine ⟨?_, ?_, fun j hj hji hj2 => ?_, by omega⟩
      · rw [gUpto_succ hlt, hkk, zip_set _ _ _ _ _ hii]
        simp [grpR, mkGrp, Int.add_assoc]
      · rw [gUpto_succ hlt, hkk]
        refine hJ.set hii ?_ fun j hj hne2 => ?_
        · simp [hne, mkGrp]
          rw [show (kk + 3 : Int) = kk + 1 + 1 + 1 by omega]
          exact hq
        · have hjid : j ≠ id := fun e => hn (e ▸ hj)
          simp [hjid]
          exact hkeep j (hisn j hj) hjid hne2
      · simp [hj2]
        rw [hkeep j hj hj2 (fun e => hji (e ▸ List.getElem_mem (by omega)))]
        exact hJf j hj hji hj2
      exact absurd hlt (by omega)
    · try simp [-List.map_take, -List.map_drop, -List.map_tail, run_guard, run_guardD, resultsA, resA, Nat.add_assoc, hR, hlt]
      repeat'
        first
        | done
        | ((first
            | ((with_reducible show lenS _ _ _ _ _ _); refine lenS_slice rfl fun _ => ?_)
            | ((with_reducible show iaddrS _ _ _ _ _ _ _); refine iaddr_map rfl omA omA ?_)) <;> simp [-List.map_take, -List.map_drop, -List.map_tail, run_guard, run_guardD, resultsA, resA, Nat.add_assoc, hR, hlt])
        | ((first | (with_reducible refine condS_split ?_ ?_)) <;> intro qb <;> (have qp := qb; try simp only [psq] at qp) <;> simp [-List.map_take, -List.map_drop, -List.map_tail, run_guard, run_guardD, resultsA, resA, Nat.add_assoc, hR, hlt, qb])
      have e1 : xs.take i = xs := List.take_of_length_le (by omega)
      have e2 : gUpto xs k i = mkGrps xs k := by rw [gUpto, e1, List.drop_eq_nil_of_le (by omega), List.append_nil]
      rw [e2] at hJ
      exact ⟨by rw [e1], by rw [e2], hJ, hJf⟩
end Go.AE.Tryz
end

section
/- Contracts of the laws' marks of a world's parts. -/
set_option linter.unusedSimpArgs false
set_option linter.unusedVariables false
set_option maxRecDepth 8000
set_option maxHeartbeats 4000000
namespace Go.AE.Tryz
open Go.Proofs

-- laws.markSpread
theorem m_markSpread {ia ib : Nat} {told : List Bool} {work : List Int} {k : Int} (hab : ia ≠ ib) (hl1 : told.length ≤ LIM) (hl2 : work.length ≤ LIM) (h0 : 0 ≤ k) (h1 : k + (told.length : Int) + (work.length : Int) ≤ 1152921504606846976) :
    AC ctx.P 100 [.agg [.ref ia 1 0 told.length, .ref ib 1 0 work.length], .int .i64 k] (fun h _ => h ia = some (.row 1 (told.map bv)) ∧ h ib = some (.row 1 (work.map iv)))
    (fun h nx v h' nx' => v = .int .i64 (k + (told.length : Int) + (work.length : Int)) ∧ h' ia = some (.row 1 ((markL mkBool 1 k told.length).map bv)) ∧ h' ib = some (.row 1 ((markL mkInt 1 (k + (told.length : Int)) work.length).map iv)) ∧ ∀ j, j < nx → j ≠ ia → j ≠ ib → h' j = h j) := by
  refine AC.of okC Tryz.func100 rfl rfl (by kernel_rfl) (Nat.le_of_ble_eq_true rfl) fun h nx hfr hnx hpre => ?_
  show goC ctx _ _ (.fin (RetQ _ _ _))
  obtain ⟨p1, p2⟩ := hpre
  have i1 : ia < nx := hnx ia (by rw [p1]; simp)
  have i2 : ib < nx := hnx ib (by rw [p2]; simp)
  have k1 : ∀ k, (ia = nx + k) = False := fun k => by simp only [eq_iff_iff, iff_false]; omega
  have k2 : ∀ k, (ib = nx + k) = False := fun k => by simp only [eq_iff_iff, iff_false]; omega
  have k3 : (ia = nx) = False := by simp only [eq_iff_iff, iff_false]; omega
  have k4 : (ib = nx) = False := by simp only [eq_iff_iff, iff_false]; omega
  try simp [-List.map_take, -List.map_drop, -List.map_tail, run_guard, run_guardD, resultsA, resA, Nat.add_assoc, k1, k2, k3, k4]
  refine call_ac (m_markBoolS (id := ia) (xs := told) (k := k) hl1 h0 (by omega)) (by simp [k1, k3, p1]) ?_
  rintro r h2 n2 ⟨rfl, hq, hqf⟩ hle2 hfr2
  dsimp only at hq hqf hle2
  have g0 := hqf nx (by omega) (by omega)
  have g2 := hqf ib (by omega) (by omega)
  simp [k2, k4, p2] at g0 g2
  try simp [-List.map_take, -List.map_drop, -List.map_tail, run_guard, run_guardD, resultsA, resA, Nat.add_assoc, g0, g2]
  refine call_ac (m_markInt64S (id := ib) (xs := work) (k := k + (told.length : Int)) hl2 (by omega) (by omega)) g2 ?_
  rintro r h3 n3 ⟨rfl, hq3, hqf3⟩ hle3 hfr3
  dsimp only at hq3 hqf3 hle3
  have g3 := hqf3 ia (by omega) hab
  rw [hq] at g3
  try simp [-List.map_take, -List.map_drop, -List.map_tail, run_guard, run_guardD, resultsA, resA, Nat.add_assoc]
  refine ⟨by simpa using g3, by simpa using hq3, fun j hj ha hb => ?_⟩
  rw [hqf3 j (by omega) hb, hqf j (by omega) ha]
  first | rfl | (rw [upd_ne _ _ _ _ (by omega)])

-- laws.markSlots
theorem m_markSlots {ia ib : Nat} {ages : List Int} {used : List Bool} {k : Int} (hab : ia ≠ ib) (hl1 : ages.length ≤ LIM) (hl2 : used.length ≤ LIM) (h0 : 0 ≤ k) (h1 : k + (ages.length : Int) + (used.length : Int) ≤ 1152921504606846976) :
    AC ctx.P 213 [.agg [.ref ia 1 0 ages.length, .ref ib 1 0 used.length], .int .i64 k] (fun h _ => h ia = some (.row 1 (ages.map iv)) ∧ h ib = some (.row 1 (used.map bv)))
    (fun h nx v h' nx' => v = .int .i64 (k + (ages.length : Int) + (used.length : Int)) ∧ h' ia = some (.row 1 ((markL mkInt 1 k ages.length).map iv)) ∧ h' ib = some (.row 1 ((markL mkBool 1 (k + (ages.length : Int)) used.length).map bv)) ∧ ∀ j, j < nx → j ≠ ia → j ≠ ib → h' j = h j) := by
  refine AC.of okC Tryz.func213 rfl rfl (by kernel_rfl) (Nat.le_of_ble_eq_true rfl) fun h nx hfr hnx hpre => ?_
  show goC ctx _ _ (.fin (RetQ _ _ _))
  obtain ⟨p1, p2⟩ := hpre
  have i1 : ia < nx := hnx ia (by rw [p1]; simp)
  have i2 : ib < nx := hnx ib (by rw [p2]; simp)
  have k1 : ∀ k, (ia = nx + k) = False := fun k => by simp only [eq_iff_iff, iff_false]; omega
  have k2 : ∀ k, (ib = nx + k) = False := fun k => by simp only [eq_iff_iff, iff_false]; omega
  have k3 : (ia = nx) = False := by simp only [eq_iff_iff, iff_false]; omega
  have k4 : (ib = nx) = False := by simp only [eq_iff_iff, iff_false]; omega
  try simp [-List.map_take, -List.map_drop, -List.map_tail, run_guard, run_guardD, resultsA, resA, Nat.add_assoc, k1, k2, k3, k4]
  refine call_ac (m_markInt64S (id := ia) (xs := ages) (k := k) hl1 h0 (by omega)) (by simp [k1, k3, p1]) ?_
  rintro r h2 n2 ⟨rfl, hq, hqf⟩ hle2 hfr2
  dsimp only at hq hqf hle2
  have g0 := hqf nx (by omega) (by omega)
  have g2 := hqf ib (by omega) (by omega)
  simp [k2, k4, p2] at g0 g2
  try simp [-List.map_take, -List.map_drop, -List.map_tail, run_guard, run_guardD, resultsA, resA, Nat.add_assoc, g0, g2]
  refine call_ac (m_markBoolS (id := ib) (xs := used) (k := k + (ages.length : Int)) hl2 (by omega) (by omega)) g2 ?_
  rintro r h3 n3 ⟨rfl, hq3, hqf3⟩ hle3 hfr3
  dsimp only at hq3 hqf3 hle3
  have g3 := hqf3 ia (by omega) hab
  rw [hq] at g3
  try simp [-List.map_take, -List.map_drop, -List.map_tail, run_guard, run_guardD, resultsA, resA, Nat.add_assoc]
  refine ⟨by simpa using g3, by simpa using hq3, fun j hj ha hb => ?_⟩
  rw [hqf3 j (by omega) hb, hqf j (by omega) ha]
  first | rfl | (rw [upd_ne _ _ _ _ (by omega)])

-- laws.markTimers
theorem m_markTimers {ia ib : Nat} {hp : List Twg} {lst : List Tmr} {z : Int} {k : Int} (hab : ia ≠ ib) (hl1 : hp.length ≤ LIM) (hl2 : lst.length ≤ LIM) (h0 : 0 ≤ k) (h1 : k + (3 : Nat) * hp.length + (5 : Nat) * lst.length ≤ 1152921504606846976) :
    AC ctx.P 101 [.agg [.ref ia 3 0 hp.length, .ref ib 5 0 lst.length, .int .i64 z], .int .i64 k] (fun h _ => h ia = some (.row 3 (hp.map twgC)) ∧ h ib = some (.row 5 (lst.map tmrC)))
    (fun h nx v h' nx' => v = .int .i64 (k + (3 : Nat) * hp.length + (5 : Nat) * lst.length) ∧ h' ia = some (.row 3 ((markL mkTwg 3 k hp.length).map twgC)) ∧ h' ib = some (.row 5 ((markL mkTmr 5 (k + (3 : Nat) * hp.length) lst.length).map tmrC)) ∧ ∀ j, j < nx → j ≠ ia → j ≠ ib → h' j = h j) := by
  refine AC.of okC Tryz.func101 rfl rfl (by kernel_rfl) (Nat.le_of_ble_eq_true rfl) fun h nx hfr hnx hpre => ?_
  show goC ctx _ _ (.fin (RetQ _ _ _))
  obtain ⟨p1, p2⟩ := hpre
  have i1 : ia < nx := hnx ia (by rw [p1]; simp)
  have i2 : ib < nx := hnx ib (by rw [p2]; simp)
  have k1 : ∀ k, (ia = nx + k) = False := fun k => by simp only [eq_iff_iff, iff_false]; omega
  have k2 : ∀ k, (ib = nx + k) = False := fun k => by simp only [eq_iff_iff, iff_false]; omega
  have k3 : (ia = nx) = False := by simp only [eq_iff_iff, iff_false]; omega
  have k4 : (ib = nx) = False := by simp only [eq_iff_iff, iff_false]; omega
  try simp [-List.map_take, -List.map_drop, -List.map_tail, run_guard, run_guardD, resultsA, resA, Nat.add_assoc, k1, k2, k3, k4]
  refine call_ac (m_markTwigS (id := ia) (xs := hp) (k := k) hl1 h0 (by omega)) (by simp [k1, k3, p1]) ?_
  rintro r h2 n2 ⟨rfl, hq, hqf⟩ hle2 hfr2
  dsimp only at hq hqf hle2
  have g0 := hqf nx (by omega) (by omega)
  have g2 := hqf ib (by omega) (by omega)
  simp [k2, k4, p2] at g0 g2
  try simp [-List.map_take, -List.map_drop, -List.map_tail, run_guard, run_guardD, resultsA, resA, Nat.add_assoc, g0, g2]
  refine call_ac (m_markTimerS (id := ib) (xs := lst) (k := k + (3 : Nat) * hp.length) hl2 (by omega) (by omega)) g2 ?_
  rintro r h3 n3 ⟨rfl, hq3, hqf3⟩ hle3 hfr3
  dsimp only at hq3 hqf3 hle3
  have g3 := hqf3 ia (by omega) hab
  rw [hq] at g3
  try simp [-List.map_take, -List.map_drop, -List.map_tail, run_guard, run_guardD, resultsA, resA, Nat.add_assoc]
  refine ⟨by simpa using g3, by simpa using hq3, fun j hj ha hb => ?_⟩
  rw [hqf3 j (by omega) hb, hqf j (by omega) ha]
  first | rfl | (rw [upd_ne _ _ _ _ (by omega)])

-- laws.markAfters
theorem m_markAfters {ia ib ic : Nat} {ages : List Int} {used : List Bool} {lst : List Afr} {k : Int} (hab : ia ≠ ib) (hac : ia ≠ ic) (hbc : ib ≠ ic) (hl1 : ages.length ≤ LIM) (hl2 : used.length ≤ LIM) (hl3 : lst.length ≤ LIM) (h0 : 0 ≤ k) (h1 : k + (ages.length : Int) + (used.length : Int) + (5 : Nat) * lst.length ≤ 1152921504606846976) :
    AC ctx.P 102 [.agg [.ref ia 1 0 ages.length, .ref ib 1 0 used.length, .ref ic 5 0 lst.length], .int .i64 k] (fun h _ => h ia = some (.row 1 (ages.map iv)) ∧ h ib = some (.row 1 (used.map bv)) ∧ h ic = some (.row 5 (lst.map afrC)))
    (fun h nx v h' nx' => v = .int .i64 (k + (ages.length : Int) + (used.length : Int) + (5 : Nat) * lst.length) ∧ h' ia = some (.row 1 ((markL mkInt 1 k ages.length).map iv)) ∧ h' ib = some (.row 1 ((markL mkBool 1 (k + (ages.length : Int)) used.length).map bv)) ∧
      h' ic = some (.row 5 ((markL mkAfr 5 (k + (ages.length : Int) + (used.length : Int)) lst.length).map afrC)) ∧ ∀ j, j < nx → j ≠ ia → j ≠ ib → j ≠ ic → h' j = h j) := by
  refine AC.of okC Tryz.func102 rfl rfl (by kernel_rfl) (Nat.le_of_ble_eq_true rfl) fun h nx hfr hnx hpre => ?_
  show goC ctx _ _ (.fin (RetQ _ _ _))
  obtain ⟨p1, p2, p3⟩ := hpre
  have i1 : ia < nx := hnx ia (by rw [p1]; simp)
  have i2 : ib < nx := hnx ib (by rw [p2]; simp)
  have i3 : ic < nx := hnx ic (by rw [p3]; simp)
  have k1 : ∀ k, (ia = nx + k) = False := fun k => by simp only [eq_iff_iff, iff_false]; omega
  have k2 : ∀ k, (ib = nx + k) = False := fun k => by simp only [eq_iff_iff, iff_false]; omega
  have k5 : ∀ k, (ic = nx + k) = False := fun k => by simp only [eq_iff_iff, iff_false]; omega
  have k3 : (ia = nx) = False := by simp only [eq_iff_iff, iff_false]; omega
  have k4 : (ib = nx) = False := by simp only [eq_iff_iff, iff_false]; omega
  have k6 : (ic = nx) = False := by simp only [eq_iff_iff, iff_false]; omega
  try simp [-List.map_take, -List.map_drop, -List.map_tail, run_guard, run_guardD, resultsA, resA, Nat.add_assoc, k1, k2, k3, k4, k5, k6]
  refine call_ac (m_markSlots (ia := ia) (ib := ib) (ages := ages) (used := used) (k := k) hab hl1 hl2 h0 (by omega)) ⟨by simp [k1, k3, p1], by simp [k2, k4, p2]⟩ ?_
  rintro r h2 n2 ⟨rfl, hqa, hqb, hqf⟩ hle2 hfr2
  dsimp only at hqa hqb hqf hle2
  have g0 := hqf nx (by omega) (by omega) (by omega)
  have g2 := hqf ic (by omega) (by omega) (by omega)
  simp [k5, k6, p3] at g0 g2
  try simp [-List.map_take, -List.map_drop, -List.map_tail, run_guard, run_guardD, resultsA, resA, Nat.add_assoc, g0, g2]
  refine call_ac (m_markAfterS (id := ic) (xs := lst) (k := k + (ages.length : Int) + (used.length : Int)) hl3 (by omega) (by omega)) g2 ?_
  rintro r h3 n3 ⟨rfl, hq3, hqf3⟩ hle3 hfr3
  dsimp only at hq3 hqf3 hle3
  have g3 := hqf3 ia (by omega) hac
  have g4 := hqf3 ib (by omega) hbc
  rw [hqa] at g3
  rw [hqb] at g4
  try simp [-List.map_take, -List.map_drop, -List.map_tail, run_guard, run_guardD, resultsA, resA, Nat.add_assoc]
  refine ⟨by simpa using g3, by simpa using g4, by simpa using hq3, fun j hj ha hb hc => ?_⟩
  rw [hqf3 j (by omega) hc, hqf j (by omega) ha hb]
  first | rfl | (rw [upd_ne _ _ _ _ (by omega)])

end Go.AE.Tryz
end

section
/- Contracts of the laws' marks of a world. -/
set_option linter.unusedSimpArgs false
set_option linter.unusedVariables false
set_option maxRecDepth 8000
set_option maxHeartbeats 4000000
namespace Go.AE.Tryz
open Go.Proofs
def kT (w : Wld) (k : Int) : Int := k + 3 * (lsum (·.length) w.progs : Int)
def kE (w : Wld) (k : Int) : Int := kT w k + (5 : Nat) * (w.tree.length : Int)
def kS (w : Wld) (k : Int) : Int := kE w k + (4 : Nat) * (w.events.length : Int)
def kW (w : Wld) (k : Int) : Int := kS w k + (w.spread.told.length : Int)
def kH (w : Wld) (k : Int) : Int := kW w k + (w.spread.work.length : Int)
def kL (w : Wld) (k : Int) : Int := kH w k + (3 : Nat) * (w.timers.heap.length : Int)
def kA (w : Wld) (k : Int) : Int := kL w k + (5 : Nat) * (w.timers.list.length : Int)
def kU (w : Wld) (k : Int) : Int := kA w k + (w.afters.slots.ages.length : Int)
def kF (w : Wld) (k : Int) : Int := kU w k + (w.afters.slots.used.length : Int)
def kK (w : Wld) (k : Int) : Int := kF w k + (5 : Nat) * (w.afters.list.length : Int)
def kG (w : Wld) (k : Int) : Int := kK w k + (9 : Nat) * (w.tasks.length : Int)
def kV (w : Wld) (k : Int) : Int := kG w k + (lsum gsz w.groups : Int)
def kB (w : Wld) (k : Int) : Int := kV w k + (4 : Nat) * (w.sights.length : Int)
def kR (w : Wld) (k : Int) : Int := kB w k + (1 : Nat) * (w.began.length : Int)
def kZ (w : Wld) (k : Int) : Int := kR w k + (1 : Nat) * (w.rang.length : Int)
def mkSpr (w : Wld) (k : Int) : Spr := ⟨markL mkBool 1 (kS w k) w.spread.told.length, markL mkInt 1 (kW w k) w.spread.work.length⟩
def mkTms (w : Wld) (k : Int) : Tms := ⟨markL mkTwg 3 (kH w k) w.timers.heap.length, markL mkTmr 5 (kL w k) w.timers.list.length, w.timers.next⟩
def mkAfs (w : Wld) (k : Int) : Afs := ⟨⟨markL mkInt 1 (kA w k) w.afters.slots.ages.length, markL mkBool 1 (kU w k) w.afters.slots.used.length⟩, markL mkAfr 5 (kF w k) w.afters.list.length⟩
/-- A world marked from the number k on. -/
def mkWld (w : Wld) (k : Int) : Wld := ⟨w.now, mkProgs w.progs k, markL mkNod 5 (kT w k) w.tree.length, markL mkEvt 4 (kE w k) w.events.length, mkSpr w k, mkTms w k, mkAfs w k, markL mkTsk 9 (kK w k) w.tasks.length, mkGrps w.groups (kG w k), markL mkSgt 4 (kV w k) w.sights.length, markL mkInt 1 (kB w k) w.began.length, markL mkInt 1 (kR w k) w.rang.length⟩
theorem lsum_gsz : ∀ (l : List Grp), lsum gsz l = 4 * l.length + lsum (·.waits.length) l
  | [] => rfl
  | g :: l => by simp only [lsum, lsum_gsz l, List.length_cons, gsz]; omega
-- laws.markWorld
theorem m_markWorld {X : WI} {w : Wld} {k : Int} (hs : wldsz w ≤ 1048576) (h0 : 0 ≤ k) (h1 : k ≤ 1048576) : AC ctx.P 35 [.agg (wldR X w), .int .i64 k] (fun h _ => WV h X w)
    (fun h nx v h' nx' => v = .int .i64 (kZ w k) ∧ WV h' X (mkWld w k) ∧ ∀ j, j < nx → j ∉ X.ids → h' j = h j) := by
  simp only [wldsz, afssz, tmssz, sprsz, sltsz] at hs
  have hm : LIM = 140737488355328 := rfl
  have hgz := lsum_gsz w.groups
  refine AC.of okC Tryz.func35 rfl rfl (by kernel_rfl) (Nat.le_of_ble_eq_true rfl) fun h nx hfr hnx hpre => ?_
  show goC ctx _ _ (.fin (RetQ _ _ _))
  have hin : ∀ j ∈ X.ids, j < nx := hpre.lt hnx
  have hinn : nx ∉ X.ids := fun hj => by have := hin nx hj; omega
  try simp [-List.map_take, -List.map_drop, -List.map_tail, run_guard, run_guardD, resultsA, resA, Nat.add_assoc, wldR]
  have V0 : WV (upd h nx (some (.obj (wldR X w)))) X w := hpre.keep fun id hid => upd_ne _ _ _ _ (by have := hin id hid; omega)
  have g0 : upd h nx (some (.obj (wldR X w))) nx = some (.obj (wldR X w)) := upd_same ..
  have Fr0 : ∀ j, j < nx → j ∉ X.ids → upd h nx (some (.obj (wldR X w))) j = h j := fun j hj _ => upd_ne _ _ _ _ (by omega)
  simp only [wldR] at V0 g0 Fr0

  refine call_ac (m_markInsSS (id := X.top 0) (lo := 0) (hi := nx) (xs := w.progs) (is := X.pg) (k := k) V0.pl (by omega) (fun x hx => by have := lsum_mem (·.length) hx; omega) h0 (by omega) (V0.top_pg (by omega))) ⟨V0.top 0 (by omega), V0.subsP hin⟩ ?_
  rintro r h1 n1 ⟨hv1, q1, f1⟩ hle1 hfr1
  dsimp only at q1 f1 hle1
  obtain ⟨k1, hk1⟩ : ∃ y : Int, y = k + 3 * (lsum (·.length) w.progs : Int) := ⟨_, rfl⟩
  rw [← hk1] at hv1
  subst hv1
  have V1 : WV h1 X { w with progs := mkProgs w.progs k } := V0.setProgs q1 (mkProgs_len _ _) (by rw [f1 _ (by have := hin _ (WI.top_mem (X := X) (k := 0) (by omega)); omega) (V0.top_pg (by omega)), V0.top 0 (by omega)]; simp only [wRow, zip_mkProgs]) (fun k hk hne => by rcases lt15 hk with rfl | rfl | rfl | rfl | rfl | rfl | rfl | rfl | rfl | rfl | rfl | rfl | rfl | rfl | rfl <;> first | exact absurd rfl hne | rfl) rfl (fun j hj hn _ => f1 j (by have := hin j hj; omega) hn)
  have g1 := f1 nx (by omega) (fun e => hinn (WI.pg_mem e))
  rw [g0] at g1
  have Fr1 : ∀ j, j < nx → j ∉ X.ids → h1 j = h j := fun j hj hn => (f1 j (by omega) (fun e => hn (WI.pg_mem e))).trans (Fr0 j hj hn)
  clear hfr1
  try simp [-List.map_take, -List.map_drop, -List.map_tail, run_guard, run_guardD, resultsA, resA, Nat.add_assoc, g1]

  refine call_ac (m_markNodeS (id := X.top 1) (xs := w.tree) (k := k1) (by omega) (by omega) (by omega)) (V1.top 1 (by omega)) ?_
  rintro r h2 n2 ⟨hv2, q2_0, f2⟩ hle2 hfr2
  dsimp only at q2_0 f2 hle2
  obtain ⟨k2, hk2⟩ : ∃ y : Int, y = k1 + (5 : Nat) * (w.tree.length : Int) := ⟨_, rfl⟩
  rw [← hk2] at hv2
  subst hv2
  have V2 := V1.setTree q2_0 (fun j hj hn => f2 j (by have := hin j hj; omega) hn)
  have g2 := f2 nx (by omega) (fun e => hinn (e ▸ WI.top_mem (X := X) (k := 1) (by omega)))
  rw [g1] at g2
  have Fr2 : ∀ j, j < nx → j ∉ X.ids → h2 j = h j := fun j hj hn => (f2 j (by omega) (fun e => hn (e ▸ WI.top_mem (X := X) (k := 1) (by omega)))).trans (Fr1 j hj hn)
  clear hfr2
  try simp [-List.map_take, -List.map_drop, -List.map_tail, run_guard, run_guardD, resultsA, resA, Nat.add_assoc, g2]

  refine call_ac (m_markEventS (id := X.top 2) (xs := w.events) (k := k2) (by omega) (by omega) (by omega)) (V2.top 2 (by omega)) ?_
  rintro r h3 n3 ⟨hv3, q3_0, f3⟩ hle3 hfr3
  dsimp only at q3_0 f3 hle3
  obtain ⟨k3, hk3⟩ : ∃ y : Int, y = k2 + (4 : Nat) * (w.events.length : Int) := ⟨_, rfl⟩
  rw [← hk3] at hv3
  subst hv3
  have V3 := V2.setEvents q3_0 (fun j hj hn => f3 j (by have := hin j hj; omega) hn)
  have g3 := f3 nx (by omega) (fun e => hinn (e ▸ WI.top_mem (X := X) (k := 2) (by omega)))
  rw [g2] at g3
  have Fr3 : ∀ j, j < nx → j ∉ X.ids → h3 j = h j := fun j hj hn => (f3 j (by omega) (fun e => hn (e ▸ WI.top_mem (X := X) (k := 2) (by omega)))).trans (Fr2 j hj hn)
  clear hfr3
  try simp [-List.map_take, -List.map_drop, -List.map_tail, run_guard, run_guardD, resultsA, resA, Nat.add_assoc, g3]

  refine call_ac (m_markSpread (ia := X.top 3) (ib := X.top 4) (told := w.spread.told) (work := w.spread.work) (k := k3) (fun e => absurd (hpre.top_inj (by omega) (by omega) e) (by omega)) (by omega) (by omega) (by omega) (by omega)) ⟨V3.top 3 (by omega), V3.top 4 (by omega)⟩ ?_
  rintro r h4 n4 ⟨hv4, q4_0, q4_1, f4⟩ hle4 hfr4
  dsimp only at q4_0 q4_1 f4 hle4
  obtain ⟨k4, hk4⟩ : ∃ y : Int, y = k3 + (w.spread.told.length : Int) + (w.spread.work.length : Int) := ⟨_, rfl⟩
  rw [← hk4] at hv4
  subst hv4
  have V4 := V3.setSpread (s := ⟨markL mkBool 1 k3 w.spread.told.length, markL mkInt 1 (k3 + (w.spread.told.length : Int)) w.spread.work.length⟩) q4_0 q4_1 (fun j hj ha hb => f4 j (by have := hin j hj; omega) ha hb)
  have g4 := f4 nx (by omega) (fun e => hinn (e ▸ WI.top_mem (X := X) (k := 3) (by omega))) (fun e => hinn (e ▸ WI.top_mem (X := X) (k := 4) (by omega)))
  rw [g3] at g4
  have Fr4 : ∀ j, j < nx → j ∉ X.ids → h4 j = h j := fun j hj hn => (f4 j (by omega) (fun e => hn (e ▸ WI.top_mem (X := X) (k := 3) (by omega))) (fun e => hn (e ▸ WI.top_mem (X := X) (k := 4) (by omega)))).trans (Fr3 j hj hn)
  clear hfr4
  try simp [-List.map_take, -List.map_drop, -List.map_tail, run_guard, run_guardD, resultsA, resA, Nat.add_assoc, g4]

  refine call_ac (m_markTimers (ia := X.top 5) (ib := X.top 6) (hp := w.timers.heap) (lst := w.timers.list) (k := k4) (fun e => absurd (hpre.top_inj (by omega) (by omega) e) (by omega)) (by omega) (by omega) (by omega) (by omega)) ⟨V4.top 5 (by omega), V4.top 6 (by omega)⟩ ?_
  rintro r h5 n5 ⟨hv5, q5_0, q5_1, f5⟩ hle5 hfr5
  dsimp only at q5_0 q5_1 f5 hle5
  obtain ⟨k5, hk5⟩ : ∃ y : Int, y = k4 + (3 : Nat) * (w.timers.heap.length : Int) + (5 : Nat) * (w.timers.list.length : Int) := ⟨_, rfl⟩
  rw [← hk5] at hv5
  subst hv5
  have V5 := V4.setTimers (s := ⟨markL mkTwg 3 k4 w.timers.heap.length, markL mkTmr 5 (k4 + (3 : Nat) * (w.timers.heap.length : Int)) w.timers.list.length, w.timers.next⟩) q5_0 q5_1 (fun j hj ha hb => f5 j (by have := hin j hj; omega) ha hb)
  have g5 := f5 nx (by omega) (fun e => hinn (e ▸ WI.top_mem (X := X) (k := 5) (by omega))) (fun e => hinn (e ▸ WI.top_mem (X := X) (k := 6) (by omega)))
  rw [g4] at g5
  have Fr5 : ∀ j, j < nx → j ∉ X.ids → h5 j = h j := fun j hj hn => (f5 j (by omega) (fun e => hn (e ▸ WI.top_mem (X := X) (k := 5) (by omega))) (fun e => hn (e ▸ WI.top_mem (X := X) (k := 6) (by omega)))).trans (Fr4 j hj hn)
  clear hfr5
  try simp [-List.map_take, -List.map_drop, -List.map_tail, run_guard, run_guardD, resultsA, resA, Nat.add_assoc, g5]

  refine call_ac (m_markAfters (ia := X.top 7) (ib := X.top 8) (ic := X.top 9) (ages := w.afters.slots.ages) (used := w.afters.slots.used) (lst := w.afters.list) (k := k5) (fun e => absurd (hpre.top_inj (by omega) (by omega) e) (by omega)) (fun e => absurd (hpre.top_inj (by omega) (by omega) e) (by omega)) (fun e => absurd (hpre.top_inj (by omega) (by omega) e) (by omega)) (by omega) (by omega) (by omega) (by omega) (by omega)) ⟨V5.top 7 (by omega), V5.top 8 (by omega), V5.top 9 (by omega)⟩ ?_
  rintro r h6 n6 ⟨hv6, q6_0, q6_1, q6_2, f6⟩ hle6 hfr6
  dsimp only at q6_0 q6_1 q6_2 f6 hle6
  obtain ⟨k6, hk6⟩ : ∃ y : Int, y = k5 + (w.afters.slots.ages.length : Int) + (w.afters.slots.used.length : Int) + (5 : Nat) * (w.afters.list.length : Int) := ⟨_, rfl⟩
  rw [← hk6] at hv6
  subst hv6
  have V6 := V5.setAfters (s := ⟨⟨markL mkInt 1 k5 w.afters.slots.ages.length, markL mkBool 1 (k5 + (w.afters.slots.ages.length : Int)) w.afters.slots.used.length⟩, markL mkAfr 5 (k5 + (w.afters.slots.ages.length : Int) + (w.afters.slots.used.length : Int)) w.afters.list.length⟩) q6_0 q6_1 q6_2 (fun j hj ha hb hc => f6 j (by have := hin j hj; omega) ha hb hc)
  have g6 := f6 nx (by omega) (fun e => hinn (e ▸ WI.top_mem (X := X) (k := 7) (by omega))) (fun e => hinn (e ▸ WI.top_mem (X := X) (k := 8) (by omega))) (fun e => hinn (e ▸ WI.top_mem (X := X) (k := 9) (by omega)))
  rw [g5] at g6
  have Fr6 : ∀ j, j < nx → j ∉ X.ids → h6 j = h j := fun j hj hn => (f6 j (by omega) (fun e => hn (e ▸ WI.top_mem (X := X) (k := 7) (by omega))) (fun e => hn (e ▸ WI.top_mem (X := X) (k := 8) (by omega))) (fun e => hn (e ▸ WI.top_mem (X := X) (k := 9) (by omega)))).trans (Fr5 j hj hn)
  clear hfr6
  try simp [-List.map_take, -List.map_drop, -List.map_tail, run_guard, run_guardD, resultsA, resA, Nat.add_assoc, g6]

  refine call_ac (m_markTaskS (id := X.top 10) (xs := w.tasks) (k := k6) (by omega) (by omega) (by omega)) (V6.top 10 (by omega)) ?_
  rintro r h7 n7 ⟨hv7, q7_0, f7⟩ hle7 hfr7
  dsimp only at q7_0 f7 hle7
  obtain ⟨k7, hk7⟩ : ∃ y : Int, y = k6 + (9 : Nat) * (w.tasks.length : Int) := ⟨_, rfl⟩
  rw [← hk7] at hv7
  subst hv7
  have V7 := V6.setTasks q7_0 (fun j hj hn => f7 j (by have := hin j hj; omega) hn)
  have g7 := f7 nx (by omega) (fun e => hinn (e ▸ WI.top_mem (X := X) (k := 10) (by omega)))
  rw [g6] at g7
  have Fr7 : ∀ j, j < nx → j ∉ X.ids → h7 j = h j := fun j hj hn => (f7 j (by omega) (fun e => hn (e ▸ WI.top_mem (X := X) (k := 10) (by omega)))).trans (Fr6 j hj hn)
  clear hfr7
  try simp [-List.map_take, -List.map_drop, -List.map_tail, run_guard, run_guardD, resultsA, resA, Nat.add_assoc, g7]

  refine call_ac (m_markGroupS (id := X.top 11) (lo := 0) (hi := nx) (xs := w.groups) (is := X.gr) (k := k7) V0.gl (by omega) (fun x hx => by have := lsum_mem (·.waits.length) hx; omega) (by omega) (by omega) (V0.top_gr (by omega))) ⟨V7.top 11 (by omega), V7.subsG hin⟩ ?_
  rintro r h8 n8 ⟨hv8, q8_0, q8_1, f8⟩ hle8 hfr8
  dsimp only at q8_0 q8_1 f8 hle8
  obtain ⟨k8, hk8⟩ : ∃ y : Int, y = k7 + (lsum gsz w.groups : Int) := ⟨_, rfl⟩
  rw [← hk8] at hv8
  subst hv8
  have V8 := V7.setGroups (w' := ⟨w.now, mkProgs w.progs k, _, _, _, _, _, _, mkGrps w.groups k7, w.sights, w.began, w.rang⟩) q8_1 (mkGrps_len _ _) q8_0 (fun k hk hne => by rcases lt15 hk with rfl | rfl | rfl | rfl | rfl | rfl | rfl | rfl | rfl | rfl | rfl | rfl | rfl | rfl | rfl <;> first | exact absurd rfl hne | rfl) rfl (fun j hj ha hb => f8 j (by have := hin j hj; omega) ha hb)
  have g8 := f8 nx (by omega) (fun e => hinn (WI.gr_mem e)) (fun e => hinn (e ▸ WI.top_mem (X := X) (k := 11) (by omega)))
  rw [g7] at g8
  have Fr8 : ∀ j, j < nx → j ∉ X.ids → h8 j = h j := fun j hj hn => (f8 j (by omega) (fun e => hn (WI.gr_mem e)) (fun e => hn (e ▸ WI.top_mem (X := X) (k := 11) (by omega)))).trans (Fr7 j hj hn)
  clear hfr8
  try simp [-List.map_take, -List.map_drop, -List.map_tail, run_guard, run_guardD, resultsA, resA, Nat.add_assoc, g8]

  refine call_ac (m_markSightS (id := X.top 12) (xs := w.sights) (k := k8) (by omega) (by omega) (by omega)) (V8.top 12 (by omega)) ?_
  rintro r h9 n9 ⟨hv9, q9_0, f9⟩ hle9 hfr9
  dsimp only at q9_0 f9 hle9
  obtain ⟨k9, hk9⟩ : ∃ y : Int, y = k8 + (4 : Nat) * (w.sights.length : Int) := ⟨_, rfl⟩
  rw [← hk9] at hv9
  subst hv9
  have V9 := V8.setSights q9_0 (fun j hj hn => f9 j (by have := hin j hj; omega) hn)
  have g9 := f9 nx (by omega) (fun e => hinn (e ▸ WI.top_mem (X := X) (k := 12) (by omega)))
  rw [g8] at g9
  have Fr9 : ∀ j, j < nx → j ∉ X.ids → h9 j = h j := fun j hj hn => (f9 j (by omega) (fun e => hn (e ▸ WI.top_mem (X := X) (k := 12) (by omega)))).trans (Fr8 j hj hn)
  clear hfr9
  try simp [-List.map_take, -List.map_drop, -List.map_tail, run_guard, run_guardD, resultsA, resA, Nat.add_assoc, g9]

  refine call_ac (m_markInt64S (id := X.top 13) (xs := w.began) (k := k9) (by omega) (by omega) (by omega)) (V9.top 13 (by omega)) ?_
  rintro r h10 n10 ⟨hv10, q10_0, f10⟩ hle10 hfr10
  dsimp only at q10_0 f10 hle10
  obtain ⟨k10, hk10⟩ : ∃ y : Int, y = k9 + (1 : Nat) * (w.began.length : Int) := ⟨_, rfl⟩
  rw [← hk10] at hv10
  subst hv10
  have V10 := V9.setBegan q10_0 (fun j hj hn => f10 j (by have := hin j hj; omega) hn)
  have g10 := f10 nx (by omega) (fun e => hinn (e ▸ WI.top_mem (X := X) (k := 13) (by omega)))
  rw [g9] at g10
  have Fr10 : ∀ j, j < nx → j ∉ X.ids → h10 j = h j := fun j hj hn => (f10 j (by omega) (fun e => hn (e ▸ WI.top_mem (X := X) (k := 13) (by omega)))).trans (Fr9 j hj hn)
  clear hfr10
  try simp [-List.map_take, -List.map_drop, -List.map_tail, run_guard, run_guardD, resultsA, resA, Nat.add_assoc, g10]

  refine call_ac (m_markInt64S (id := X.top 14) (xs := w.rang) (k := k10) (by omega) (by omega) (by omega)) (V10.top 14 (by omega)) ?_
  rintro r h11 n11 ⟨hv11, q11_0, f11⟩ hle11 hfr11
  dsimp only at q11_0 f11 hle11
  obtain ⟨k11, hk11⟩ : ∃ y : Int, y = k10 + (1 : Nat) * (w.rang.length : Int) := ⟨_, rfl⟩
  rw [← hk11] at hv11
  subst hv11
  have V11 := V10.setRang q11_0 (fun j hj hn => f11 j (by have := hin j hj; omega) hn)
  have g11 := f11 nx (by omega) (fun e => hinn (e ▸ WI.top_mem (X := X) (k := 14) (by omega)))
  rw [g10] at g11
  have Fr11 : ∀ j, j < nx → j ∉ X.ids → h11 j = h j := fun j hj hn => (f11 j (by omega) (fun e => hn (e ▸ WI.top_mem (X := X) (k := 14) (by omega)))).trans (Fr10 j hj hn)
  clear hfr11
  try simp [-List.map_take, -List.map_drop, -List.map_tail, run_guard, run_guardD, resultsA, resA, Nat.add_assoc, g11]

  refine ⟨?_, ?_, Fr11⟩
  · simp only [kZ, kR, kB, kV, kG, kK, kF, kU, kA, kL, kH, kW, kS, kE, kT]
    rw [hk11, hk10, hk9, hk8, hk7, hk6, hk5, hk4, hk3, hk2, hk1]
  · simp only [mkWld, mkSpr, mkTms, mkAfs, kZ, kR, kB, kV, kG, kK, kF, kU, kA, kL, kH, kW, kS, kE, kT]
    subst hk11 hk10 hk9 hk8 hk7 hk6 hk5 hk4 hk3 hk2 hk1
    exact V11
end Go.AE.Tryz
end

section
/- Contracts of the laws' readings of marks. -/
set_option linter.unusedSimpArgs false
set_option linter.unusedVariables false
set_option maxRecDepth 8000
set_option maxHeartbeats 4000000
namespace Go.AE.Tryz
open Go.Proofs

-- laws.heldNodeS
-- laws.heldEventS
-- laws.heldTwigS
-- laws.heldTimerS
-- laws.heldAfterS
-- laws.heldTaskS
-- laws.heldSightS
-- laws.heldInsS
-- laws.heldPickS
theorem h_heldPickS {p : Bool} {n : Nat} {k : Int} (hlim : n ≤ LIM) (h0 : 0 ≤ k) (h1 : k ≤ 1152921504606846976) : PC ctx.P 37 [.view p 2 ((markL mkPik 2 k n).map pikC), .int .i64 k] (.int .i64 (k + (2 : Nat) * n)) := by
  refine PC.of okC Tryz.func37 rfl rfl (by kernel_rfl) (Nat.le_of_ble_eq_true rfl) (.int _ _) fun h nx hnx => ?_
  show goC ctx _ _ (.fin (RetP _ _ _ _ _))
  try simp [-List.map_take, -List.map_drop, -List.map_tail, run_guard, run_guardD, resultsA, resA, Nat.add_assoc]
  repeat'
    first
    | done
    | ((first
        | ((with_reducible show lenS _ _ _ _ _ _); refine lenS_slice rfl fun _ => ?_)
        | ((with_reducible show iaddrS _ _ _ _ _ _ _); refine iaddr_map rfl omA omA ?_)) <;> simp [-List.map_take, -List.map_drop, -List.map_tail, run_guard, run_guardD, resultsA, resA, Nat.add_assoc])
    | ((first | (with_reducible refine condS_split ?_ ?_)) <;> intro qb <;> (have qp := qb; try simp only [psq] at qp) <;> simp [-List.map_take, -List.map_drop, -List.map_tail, run_guard, run_guardD, resultsA, resA, Nat.add_assoc, qb])
  refine go_upP [1, 4, 5, 6, 7, 8, 9, 10, 11, 12, 13, 14, 15, 16, 17, 18, 19, 20, 21, 22, 23, 24, 25, 26, 27, 28, 29] (n) (fun (i : Nat) a => [(5, .int .i64 i), (1, .int .i64 (k + (2 : Nat) * i))]) (fun i_ a_ h_ _ => (fun i (_ : Unit) _ => True) i_ a_ h_) (()) (by simp) ?_ keep_rfl (Nat.le_refl _) ?_
  · trivial
  · intro i a tm h' n' hle hJ hE hn' next hnx
    try dsimp only at hJ
    have hK : KeepB nx h' h := KeepB.sub hE keepA (by omega)
    simp [-List.map_take, -List.map_drop, -List.map_tail]
    have hlim0 := hlim
    simp only [LIM] at hlim
    by_cases hlt : i < n
    · have hg : gt (markL mkPik 2 k n) (i : Int) = mkPik (k + (2 : Nat) * i) := markL_gt hlt
      try simp [-List.map_take, -List.map_drop, -List.map_tail, run_guard, run_guardD, resultsA, resA, Nat.add_assoc, hg, pikC, mkPik, i64_ok (x := k + (2 * (i : Int) + 1)) (by omega), i64_ok (x := k + (2 * (i : Int) + 2)) (by omega), Int.add_assoc]
      repeat'
        first
        | done
        | ((first
            | ((with_reducible show lenS _ _ _ _ _ _); refine lenS_slice rfl fun _ => ?_)
            | ((with_reducible show iaddrS _ _ _ _ _ _ _); refine iaddr_map rfl omA omA ?_)) <;> simp [-List.map_take, -List.map_drop, -List.map_tail, run_guard, run_guardD, resultsA, resA, Nat.add_assoc, hg, pikC, mkPik, i64_ok (x := k + (2 * (i : Int) + 1)) (by omega), i64_ok (x := k + (2 * (i : Int) + 2)) (by omega), Int.add_assoc])
        | ((first | (with_reducible refine condS_split ?_ ?_)) <;> intro qb <;> (have qp := qb; try simp only [psq] at qp) <;> simp [-List.map_take, -List.map_drop, -List.map_tail, run_guard, run_guardD, resultsA, resA, Nat.add_assoc, hg, pikC, mkPik, i64_ok (x := k + (2 * (i : Int) + 1)) (by omega), i64_ok (x := k + (2 * (i : Int) + 2)) (by omega), Int.add_assoc, qb])
      all_goals first
      | omega
      | (refine hnx.go () ?_ ?_ ?_ ?_ ?_ ?_
         · omega
         · simp [wrap_succ hlt hlim0] <;> omega
         · simp
         · exact keepA
         · first | omega | (simp; omega)
         trivial)
      | trace_state
    · have : i = n := by omega
      subst this
      try simp [-List.map_take, -List.map_drop, -List.map_tail, run_guard, run_guardD, resultsA, resA, Nat.add_assoc, hlt]
      repeat'
        first
        | done
        | ((first
            | ((with_reducible show lenS _ _ _ _ _ _); refine lenS_slice rfl fun _ => ?_)
            | ((with_reducible show iaddrS _ _ _ _ _ _ _); refine iaddr_map rfl omA omA ?_)) <;> simp [-List.map_take, -List.map_drop, -List.map_tail, run_guard, run_guardD, resultsA, resA, Nat.add_assoc, hlt])
        | ((first | (with_reducible refine condS_split ?_ ?_)) <;> intro qb <;> (have qp := qb; try simp only [psq] at qp) <;> simp [-List.map_take, -List.map_drop, -List.map_tail, run_guard, run_guardD, resultsA, resA, Nat.add_assoc, hlt, qb])
      all_goals (try clear hnx)
      all_goals first | (simp_all []; done) | (simp_all []; omega) | (rw [Bool.eq_iff_iff]; simp_all []; done) | (rw [Bool.eq_iff_iff]; simp_all []; omega) | omega | (simp only []; grind) | grind

-- laws.heldInt64S
-- laws.heldBoolS
end Go.AE.Tryz
end

section
/- Contracts of what is generic. -/
set_option linter.unusedSimpArgs false
set_option linter.unusedVariables false
set_option maxRecDepth 8000
set_option maxHeartbeats 2000000
namespace Go.AE.Tryz
open Go.Proofs

-- impl.size[impl.Ins]
theorem c_size_Ins {p : Bool} {xs : List Inn} : PC ctx.P 79 [.view p 3 (xs.map innC)] (.int .i64 xs.length) := by
  refine PC.of okC Tryz.func79 rfl rfl (by kernel_rfl) (Nat.le_of_ble_eq_true rfl) (.int _ _) fun h nx hnx => ?_
  show goC ctx _ _ (.fin (RetP _ _ _ _ _))
  try simp [-List.map_take, -List.map_drop, -List.map_tail, run_guard, run_guardD, resultsA, resA, Nat.add_assoc]
  repeat'
    first
    | done
    | ((first
        | ((with_reducible show lenS _ _ _ _ _ _); refine lenS_slice rfl fun _ => ?_)) <;> simp [-List.map_take, -List.map_drop, -List.map_tail, run_guard, run_guardD, resultsA, resA, Nat.add_assoc])


-- slices.IndexFunc[[]impl.Ins,impl.Ins]
theorem c_IndexFunc_Ins {p : Bool} {xs : List Inn} {q : Inn → Bool} {fv : AV} (hq : ∀ x ∈ xs, FV ctx.P fv [.agg (innC x)] (.bool (q x))) :
    PC ctx.P 339 [.view p 3 (xs.map innC), fv] (.int .i64 (idxI q xs 0)) := by
  refine PC.lim (n := xs.length) (x := .view p 3 (xs.map innC)) (by simp) (.here (by simp)) ⟨_, Tryz.func339, by kernel_rfl, by kernel_rfl⟩ fun hlim => ?_
  refine PC.of okC Tryz.func339 rfl rfl (by kernel_rfl) (Nat.le_of_ble_eq_true rfl) (.int _ _) fun h nx hnx => ?_
  show goC ctx _ _ (.fin (RetP _ _ _ _ _))
  try simp [-List.map_take, -List.map_drop, -List.map_tail, run_guard, run_guardD, resultsA, resA, Nat.add_assoc]
  repeat'
    first
    | done
    | ((first
        | ((with_reducible show lenS _ _ _ _ _ _); refine lenS_slice rfl fun _ => ?_)
        | ((with_reducible show iaddrS _ _ _ _ _ _ _); refine iaddr_map rfl omA omA ?_)) <;> simp [-List.map_take, -List.map_drop, -List.map_tail, run_guard, run_guardD, resultsA, resA, Nat.add_assoc])
    | ((first | (with_reducible refine condS_split ?_ ?_)) <;> intro qb <;> (have qp := qb; try simp only [psq] at qp) <;> simp [-List.map_take, -List.map_drop, -List.map_tail, run_guard, run_guardD, resultsA, resA, Nat.add_assoc, qb])
  refine go_upP [4, 5, 8, 9, 10, 11, 12, 13, 14, 15, 16, 17, 18] (xs.length) (fun (i : Nat) a => [(8, .int .i64 i)]) (fun i_ a_ h_ _ => (fun i (_ : Unit) _ => idxI q (xs.drop i) i = idxI q xs 0) i_ a_ h_) (()) (by simp) ?_ keep_rfl (Nat.le_refl _) ?_
  · simp
  · intro i a tm h' n' hle hJ hE hn' next hnx
    try dsimp only at hJ
    have hK : KeepB nx h' h := KeepB.sub hE keepA (by omega)
    simp [-List.map_take, -List.map_drop, -List.map_tail]
    try simp [-List.map_take, -List.map_drop, -List.map_tail, run_guard, run_guardD, resultsA, resA, Nat.add_assoc, innC]
    repeat'
      first
      | done
      | ((first
          | ((with_reducible show lenS _ _ _ _ _ _); refine lenS_slice rfl fun _ => ?_)
          | ((with_reducible show iaddrS _ _ _ _ _ _ _); refine iaddr_map rfl omA omA ?_)
          | (refine call_fv (hq _ (gt_mem (by omega) (by omega))) ?_)) <;> simp [-List.map_take, -List.map_drop, -List.map_tail, run_guard, run_guardD, resultsA, resA, Nat.add_assoc, innC])
      | ((first | (with_reducible refine condS_split ?_ ?_)) <;> intro qb <;> (have qp := qb; try simp only [psq] at qp) <;> simp [-List.map_take, -List.map_drop, -List.map_tail, run_guard, run_guardD, resultsA, resA, Nat.add_assoc, innC, qb])
    all_goals
      first
      | (have hlt : i < xs.length := (by first | omega | (simp at *; omega))
         rw [drop_gt hlt] at hJ
         first
         | (refine hnx.go (()) ?_ ?_ ?_ ?_ ?_ ?_; omega; (simp [wrap_succ hlt hlim]); (simp); exact keepA; (first | omega | (simp; omega)); (try dsimp only); clear hnx; first | ((try simp only [List.drop_length, Int.toNat_natCast, idxI] at hJ ⊢); grind) | (simp_all [idxI]; done) | (simp_all; omega))
         | (refine ⟨?_, keepA⟩; clear hnx; first | ((try simp only [List.drop_length, Int.toNat_natCast, idxI] at hJ ⊢); grind) | (simp_all [idxI]; done) | (simp_all; omega)))
      | (obtain rfl : i = xs.length := (by first | omega | (simp at *; omega))
         refine ⟨?_, keepA⟩; clear hnx; first | ((try simp only [List.drop_length, Int.toNat_natCast, idxI] at hJ ⊢); grind) | (simp_all [idxI]; done) | (simp_all; omega))

-- slices.ContainsFunc[[]impl.Ins,impl.Ins]
theorem c_ContainsFunc_Ins {p : Bool} {xs : List Inn} {q : Inn → Bool} {fv : AV} (hq : ∀ x ∈ xs, FV ctx.P fv [.agg (innC x)] (.bool (q x))) :
    PC ctx.P 263 [.view p 3 (xs.map innC), fv] (.bool (xs.any q)) := by
  refine PC.of okC Tryz.func263 rfl rfl (by kernel_rfl) (Nat.le_of_ble_eq_true rfl) (.bool _) fun h nx hnx => ?_
  show goC ctx _ _ (.fin (RetP _ _ _ _ _))
  try simp [-List.map_take, -List.map_drop, -List.map_tail, run_guard, run_guardD, resultsA, resA, Nat.add_assoc, idxI_any q xs 0 (Int.le_refl 0)]
  repeat'
    first
    | done
    | ((first
        | ((with_reducible show doCall _ _ _ 339 _ _); refine call_pc (c_IndexFunc_Ins hq) ?_)) <;> simp [-List.map_take, -List.map_drop, -List.map_tail, run_guard, run_guardD, resultsA, resA, Nat.add_assoc, idxI_any q xs 0 (Int.le_refl 0)])


-- impl.size[impl.Node]
theorem c_size_Node {p : Bool} {xs : List Nod} : PC ctx.P 200 [.view p 5 (xs.map nodC)] (.int .i64 xs.length) := by
  refine PC.of okC Tryz.func200 rfl rfl (by kernel_rfl) (Nat.le_of_ble_eq_true rfl) (.int _ _) fun h nx hnx => ?_
  show goC ctx _ _ (.fin (RetP _ _ _ _ _))
  try simp [-List.map_take, -List.map_drop, -List.map_tail, run_guard, run_guardD, resultsA, resA, Nat.add_assoc]
  repeat'
    first
    | done
    | ((first
        | ((with_reducible show lenS _ _ _ _ _ _); refine lenS_slice rfl fun _ => ?_)) <;> simp [-List.map_take, -List.map_drop, -List.map_tail, run_guard, run_guardD, resultsA, resA, Nat.add_assoc])

-- impl.isIn[impl.Node]
theorem c_isIn_Node {p : Bool} {n : Int} {xs : List Nod} : PC ctx.P 172 [.int .i64 n, .view p 5 (xs.map nodC)] (.bool (isIn n xs)) := by
  refine PC.lim (n := xs.length) (x := .view p 5 (xs.map nodC)) (by simp) (.here (by simp)) ⟨_, Tryz.func172, by kernel_rfl, by kernel_rfl⟩ fun hlim => ?_
  refine PC.of okC Tryz.func172 rfl rfl (by kernel_rfl) (Nat.le_of_ble_eq_true rfl) (.bool _) fun h nx hnx => ?_
  show goC ctx _ _ (.fin (RetP _ _ _ _ _))
  try simp [-List.map_take, -List.map_drop, -List.map_tail, run_guard, run_guardD, resultsA, resA, Nat.add_assoc, wrap_pred hlim, isIn]
  repeat'
    first
    | done
    | ((first
        | ((with_reducible show doCall _ _ _ 200 _ _); refine call_pc (c_size_Node) ?_)
        | ((with_reducible show doCall _ _ _ 165 _ _); refine call_pc (c_within) ?_)) <;> simp [-List.map_take, -List.map_drop, -List.map_tail, run_guard, run_guardD, resultsA, resA, Nat.add_assoc, wrap_pred hlim, isIn])




-- impl.size[impl.Event]
theorem c_size_Event {p : Bool} {xs : List Evt} : PC ctx.P 296 [.view p 4 (xs.map evtC)] (.int .i64 xs.length) := by
  refine PC.of okC Tryz.func296 rfl rfl (by kernel_rfl) (Nat.le_of_ble_eq_true rfl) (.int _ _) fun h nx hnx => ?_
  show goC ctx _ _ (.fin (RetP _ _ _ _ _))
  try simp [-List.map_take, -List.map_drop, -List.map_tail, run_guard, run_guardD, resultsA, resA, Nat.add_assoc]
  repeat'
    first
    | done
    | ((first
        | ((with_reducible show lenS _ _ _ _ _ _); refine lenS_slice rfl fun _ => ?_)) <;> simp [-List.map_take, -List.map_drop, -List.map_tail, run_guard, run_guardD, resultsA, resA, Nat.add_assoc])


-- slices.IndexFunc[[]impl.Event,impl.Event]
theorem c_IndexFunc_Event {p : Bool} {xs : List Evt} {q : Evt → Bool} {fv : AV} (hq : ∀ x ∈ xs, FV ctx.P fv [.agg (evtC x)] (.bool (q x))) :
    PC ctx.P 303 [.view p 4 (xs.map evtC), fv] (.int .i64 (idxI q xs 0)) := by
  refine PC.lim (n := xs.length) (x := .view p 4 (xs.map evtC)) (by simp) (.here (by simp)) ⟨_, Tryz.func303, by kernel_rfl, by kernel_rfl⟩ fun hlim => ?_
  refine PC.of okC Tryz.func303 rfl rfl (by kernel_rfl) (Nat.le_of_ble_eq_true rfl) (.int _ _) fun h nx hnx => ?_
  show goC ctx _ _ (.fin (RetP _ _ _ _ _))
  try simp [-List.map_take, -List.map_drop, -List.map_tail, run_guard, run_guardD, resultsA, resA, Nat.add_assoc]
  repeat'
    first
    | done
    | ((first
        | ((with_reducible show lenS _ _ _ _ _ _); refine lenS_slice rfl fun _ => ?_)
        | ((with_reducible show iaddrS _ _ _ _ _ _ _); refine iaddr_map rfl omA omA ?_)) <;> simp [-List.map_take, -List.map_drop, -List.map_tail, run_guard, run_guardD, resultsA, resA, Nat.add_assoc])
    | ((first | (with_reducible refine condS_split ?_ ?_)) <;> intro qb <;> (have qp := qb; try simp only [psq] at qp) <;> simp [-List.map_take, -List.map_drop, -List.map_tail, run_guard, run_guardD, resultsA, resA, Nat.add_assoc, qb])
  refine go_upP [4, 5, 8, 9, 10, 11, 12, 13, 14, 15, 16, 17, 18] (xs.length) (fun (i : Nat) a => [(8, .int .i64 i)]) (fun i_ a_ h_ _ => (fun i (_ : Unit) _ => idxI q (xs.drop i) i = idxI q xs 0) i_ a_ h_) (()) (by simp) ?_ keep_rfl (Nat.le_refl _) ?_
  · simp
  · intro i a tm h' n' hle hJ hE hn' next hnx
    try dsimp only at hJ
    have hK : KeepB nx h' h := KeepB.sub hE keepA (by omega)
    simp [-List.map_take, -List.map_drop, -List.map_tail]
    try simp [-List.map_take, -List.map_drop, -List.map_tail, run_guard, run_guardD, resultsA, resA, Nat.add_assoc, evtC]
    repeat'
      first
      | done
      | ((first
          | ((with_reducible show lenS _ _ _ _ _ _); refine lenS_slice rfl fun _ => ?_)
          | ((with_reducible show iaddrS _ _ _ _ _ _ _); refine iaddr_map rfl omA omA ?_)
          | (refine call_fv (hq _ (gt_mem (by omega) (by omega))) ?_)) <;> simp [-List.map_take, -List.map_drop, -List.map_tail, run_guard, run_guardD, resultsA, resA, Nat.add_assoc, evtC])
      | ((first | (with_reducible refine condS_split ?_ ?_)) <;> intro qb <;> (have qp := qb; try simp only [psq] at qp) <;> simp [-List.map_take, -List.map_drop, -List.map_tail, run_guard, run_guardD, resultsA, resA, Nat.add_assoc, evtC, qb])
    all_goals
      first
      | (have hlt : i < xs.length := (by first | omega | (simp at *; omega))
         rw [drop_gt hlt] at hJ
         first
         | (refine hnx.go (()) ?_ ?_ ?_ ?_ ?_ ?_; omega; (simp [wrap_succ hlt hlim]); (simp); exact keepA; (first | omega | (simp; omega)); (try dsimp only); clear hnx; first | ((try simp only [List.drop_length, Int.toNat_natCast, idxI] at hJ ⊢); grind) | (simp_all [idxI]; done) | (simp_all; omega))
         | (refine ⟨?_, keepA⟩; clear hnx; first | ((try simp only [List.drop_length, Int.toNat_natCast, idxI] at hJ ⊢); grind) | (simp_all [idxI]; done) | (simp_all; omega)))
      | (obtain rfl : i = xs.length := (by first | omega | (simp at *; omega))
         refine ⟨?_, keepA⟩; clear hnx; first | ((try simp only [List.drop_length, Int.toNat_natCast, idxI] at hJ ⊢); grind) | (simp_all [idxI]; done) | (simp_all; omega))

-- slices.ContainsFunc[[]impl.Event,impl.Event]
theorem c_ContainsFunc_Event {p : Bool} {xs : List Evt} {q : Evt → Bool} {fv : AV} (hq : ∀ x ∈ xs, FV ctx.P fv [.agg (evtC x)] (.bool (q x))) :
    PC ctx.P 196 [.view p 4 (xs.map evtC), fv] (.bool (xs.any q)) := by
  refine PC.of okC Tryz.func196 rfl rfl (by kernel_rfl) (Nat.le_of_ble_eq_true rfl) (.bool _) fun h nx hnx => ?_
  show goC ctx _ _ (.fin (RetP _ _ _ _ _))
  try simp [-List.map_take, -List.map_drop, -List.map_tail, run_guard, run_guardD, resultsA, resA, Nat.add_assoc, idxI_any q xs 0 (Int.le_refl 0)]
  repeat'
    first
    | done
    | ((first
        | ((with_reducible show doCall _ _ _ 303 _ _); refine call_pc (c_IndexFunc_Event hq) ?_)) <;> simp [-List.map_take, -List.map_drop, -List.map_tail, run_guard, run_guardD, resultsA, resA, Nat.add_assoc, idxI_any q xs 0 (Int.le_refl 0)])

-- impl.all[impl.Event]$1
theorem c_allf_Event {x : Evt} {q : Evt → Bool} {fv : AV} (hq : FV ctx.P fv [.agg (evtC x)] (.bool (q x))) : PC ctx.P 197 [.agg (evtC x), .vptr [fv]] (.bool (!q x)) := by
  refine PC.of okC Tryz.func197 rfl rfl (by kernel_rfl) (Nat.le_of_ble_eq_true rfl) (.bool _) fun h nx hnx => ?_
  show goC ctx _ _ (.fin (RetP _ _ _ _ _))
  try simp [-List.map_take, -List.map_drop, -List.map_tail, run_guard, run_guardD, resultsA, resA, Nat.add_assoc]
  repeat'
    first
    | done
    | ((first
        | (refine call_fv (hq) ?_)) <;> simp [-List.map_take, -List.map_drop, -List.map_tail, run_guard, run_guardD, resultsA, resA, Nat.add_assoc])
-- impl.all[impl.Event]
theorem c_all_Event {p : Bool} {xs : List Evt} {q : Evt → Bool} {fv : AV} (hf : IsF fv) (hq : ∀ x ∈ xs, FV ctx.P fv [.agg (evtC x)] (.bool (q x))) :
    PC ctx.P 82 [.view p 4 (xs.map evtC), fv] (.bool (xs.all q)) := by
  refine PC.of okC Tryz.func82 rfl rfl (by kernel_rfl) (Nat.le_of_ble_eq_true rfl) (.bool _) fun h nx hnx => ?_
  show goC ctx _ _ (.fin (RetP _ _ _ _ _))
  have hc := c_ContainsFunc_Event (p := p) (q := fun x => !q x) (xs := xs) (fv := .fn 197 [.vptr [fv]]) fun x hx => c_allf_Event (hq x hx)
  cases hf
  all_goals simp
  · refine call_pcB (hc) (by first | exact .bool _ | exact .int _ _ | exact .str _) (by repeat' first | exact Bors.nil | refine Bors.cons ?_ ?_ | exact Bor.same _ | refine Bor.fn1 ?_ | refine Bor.bnd1 ?_ | refine Bor.agg1 ?_ | refine Bor.ptr0 (by first | (simp; done) | (simp; rfl) | assumption | (simp [*]; done)) ?_ | refine Bor.ref0 (by first | (simp; done) | (simp; rfl) | (simp [iv, bv]; done)) (by simp) (by simp)) ?_
    simp [resultsA, resA, List.all_eq_not_any_not]
  · refine call_pcB (hc) (by first | exact .bool _ | exact .int _ _ | exact .str _) (by repeat' first | exact Bors.nil | refine Bors.cons ?_ ?_ | exact Bor.same _ | refine Bor.fn1 ?_ | refine Bor.bnd1 ?_ | refine Bor.agg1 ?_ | refine Bor.ptr0 (by first | (simp; done) | (simp; rfl) | assumption | (simp [*]; done)) ?_ | refine Bor.ref0 (by first | (simp; done) | (simp; rfl) | (simp [iv, bv]; done)) (by simp) (by simp)) ?_
    simp [resultsA, resA, List.all_eq_not_any_not]

-- impl.size[impl.Twig]
theorem c_size_Twig {p : Bool} {xs : List Twg} : PC ctx.P 376 [.view p 3 (xs.map twgC)] (.int .i64 xs.length) := by
  refine PC.of okC Tryz.func376 rfl rfl (by kernel_rfl) (Nat.le_of_ble_eq_true rfl) (.int _ _) fun h nx hnx => ?_
  show goC ctx _ _ (.fin (RetP _ _ _ _ _))
  try simp [-List.map_take, -List.map_drop, -List.map_tail, run_guard, run_guardD, resultsA, resA, Nat.add_assoc]
  repeat'
    first
    | done
    | ((first
        | ((with_reducible show lenS _ _ _ _ _ _); refine lenS_slice rfl fun _ => ?_)) <;> simp [-List.map_take, -List.map_drop, -List.map_tail, run_guard, run_guardD, resultsA, resA, Nat.add_assoc])


-- slices.IndexFunc[[]impl.Twig,impl.Twig]
theorem c_IndexFunc_Twig {p : Bool} {xs : List Twg} {q : Twg → Bool} {fv : AV} (hq : ∀ x ∈ xs, FV ctx.P fv [.agg (twgC x)] (.bool (q x))) :
    PC ctx.P 346 [.view p 3 (xs.map twgC), fv] (.int .i64 (idxI q xs 0)) := by
  refine PC.lim (n := xs.length) (x := .view p 3 (xs.map twgC)) (by simp) (.here (by simp)) ⟨_, Tryz.func346, by kernel_rfl, by kernel_rfl⟩ fun hlim => ?_
  refine PC.of okC Tryz.func346 rfl rfl (by kernel_rfl) (Nat.le_of_ble_eq_true rfl) (.int _ _) fun h nx hnx => ?_
  show goC ctx _ _ (.fin (RetP _ _ _ _ _))
  try simp [-List.map_take, -List.map_drop, -List.map_tail, run_guard, run_guardD, resultsA, resA, Nat.add_assoc]
  repeat'
    first
    | done
    | ((first
        | ((with_reducible show lenS _ _ _ _ _ _); refine lenS_slice rfl fun _ => ?_)
        | ((with_reducible show iaddrS _ _ _ _ _ _ _); refine iaddr_map rfl omA omA ?_)) <;> simp [-List.map_take, -List.map_drop, -List.map_tail, run_guard, run_guardD, resultsA, resA, Nat.add_assoc])
    | ((first | (with_reducible refine condS_split ?_ ?_)) <;> intro qb <;> (have qp := qb; try simp only [psq] at qp) <;> simp [-List.map_take, -List.map_drop, -List.map_tail, run_guard, run_guardD, resultsA, resA, Nat.add_assoc, qb])
  refine go_upP [4, 5, 8, 9, 10, 11, 12, 13, 14, 15, 16, 17, 18] (xs.length) (fun (i : Nat) a => [(8, .int .i64 i)]) (fun i_ a_ h_ _ => (fun i (_ : Unit) _ => idxI q (xs.drop i) i = idxI q xs 0) i_ a_ h_) (()) (by simp) ?_ keep_rfl (Nat.le_refl _) ?_
  · simp
  · intro i a tm h' n' hle hJ hE hn' next hnx
    try dsimp only at hJ
    have hK : KeepB nx h' h := KeepB.sub hE keepA (by omega)
    simp [-List.map_take, -List.map_drop, -List.map_tail]
    try simp [-List.map_take, -List.map_drop, -List.map_tail, run_guard, run_guardD, resultsA, resA, Nat.add_assoc, twgC]
    repeat'
      first
      | done
      | ((first
          | ((with_reducible show lenS _ _ _ _ _ _); refine lenS_slice rfl fun _ => ?_)
          | ((with_reducible show iaddrS _ _ _ _ _ _ _); refine iaddr_map rfl omA omA ?_)
          | (refine call_fv (hq _ (gt_mem (by omega) (by omega))) ?_)) <;> simp [-List.map_take, -List.map_drop, -List.map_tail, run_guard, run_guardD, resultsA, resA, Nat.add_assoc, twgC])
      | ((first | (with_reducible refine condS_split ?_ ?_)) <;> intro qb <;> (have qp := qb; try simp only [psq] at qp) <;> simp [-List.map_take, -List.map_drop, -List.map_tail, run_guard, run_guardD, resultsA, resA, Nat.add_assoc, twgC, qb])
    all_goals
      first
      | (have hlt : i < xs.length := (by first | omega | (simp at *; omega))
         rw [drop_gt hlt] at hJ
         first
         | (refine hnx.go (()) ?_ ?_ ?_ ?_ ?_ ?_; omega; (simp [wrap_succ hlt hlim]); (simp); exact keepA; (first | omega | (simp; omega)); (try dsimp only); clear hnx; first | ((try simp only [List.drop_length, Int.toNat_natCast, idxI] at hJ ⊢); grind) | (simp_all [idxI]; done) | (simp_all; omega))
         | (refine ⟨?_, keepA⟩; clear hnx; first | ((try simp only [List.drop_length, Int.toNat_natCast, idxI] at hJ ⊢); grind) | (simp_all [idxI]; done) | (simp_all; omega)))
      | (obtain rfl : i = xs.length := (by first | omega | (simp at *; omega))
         refine ⟨?_, keepA⟩; clear hnx; first | ((try simp only [List.drop_length, Int.toNat_natCast, idxI] at hJ ⊢); grind) | (simp_all [idxI]; done) | (simp_all; omega))

-- slices.ContainsFunc[[]impl.Twig,impl.Twig]
theorem c_ContainsFunc_Twig {p : Bool} {xs : List Twg} {q : Twg → Bool} {fv : AV} (hq : ∀ x ∈ xs, FV ctx.P fv [.agg (twgC x)] (.bool (q x))) :
    PC ctx.P 271 [.view p 3 (xs.map twgC), fv] (.bool (xs.any q)) := by
  refine PC.of okC Tryz.func271 rfl rfl (by kernel_rfl) (Nat.le_of_ble_eq_true rfl) (.bool _) fun h nx hnx => ?_
  show goC ctx _ _ (.fin (RetP _ _ _ _ _))
  try simp [-List.map_take, -List.map_drop, -List.map_tail, run_guard, run_guardD, resultsA, resA, Nat.add_assoc, idxI_any q xs 0 (Int.le_refl 0)]
  repeat'
    first
    | done
    | ((first
        | ((with_reducible show doCall _ _ _ 346 _ _); refine call_pc (c_IndexFunc_Twig hq) ?_)) <;> simp [-List.map_take, -List.map_drop, -List.map_tail, run_guard, run_guardD, resultsA, resA, Nat.add_assoc, idxI_any q xs 0 (Int.le_refl 0)])




-- slices.IndexFunc[[]impl.Timer,impl.Timer]
theorem c_IndexFunc_Timer {p : Bool} {xs : List Tmr} {q : Tmr → Bool} {fv : AV} (hq : ∀ x ∈ xs, FV ctx.P fv [.agg (tmrC x)] (.bool (q x))) :
    PC ctx.P 328 [.view p 5 (xs.map tmrC), fv] (.int .i64 (idxI q xs 0)) := by
  refine PC.lim (n := xs.length) (x := .view p 5 (xs.map tmrC)) (by simp) (.here (by simp)) ⟨_, Tryz.func328, by kernel_rfl, by kernel_rfl⟩ fun hlim => ?_
  refine PC.of okC Tryz.func328 rfl rfl (by kernel_rfl) (Nat.le_of_ble_eq_true rfl) (.int _ _) fun h nx hnx => ?_
  show goC ctx _ _ (.fin (RetP _ _ _ _ _))
  try simp [-List.map_take, -List.map_drop, -List.map_tail, run_guard, run_guardD, resultsA, resA, Nat.add_assoc]
  repeat'
    first
    | done
    | ((first
        | ((with_reducible show lenS _ _ _ _ _ _); refine lenS_slice rfl fun _ => ?_)
        | ((with_reducible show iaddrS _ _ _ _ _ _ _); refine iaddr_map rfl omA omA ?_)) <;> simp [-List.map_take, -List.map_drop, -List.map_tail, run_guard, run_guardD, resultsA, resA, Nat.add_assoc])
    | ((first | (with_reducible refine condS_split ?_ ?_)) <;> intro qb <;> (have qp := qb; try simp only [psq] at qp) <;> simp [-List.map_take, -List.map_drop, -List.map_tail, run_guard, run_guardD, resultsA, resA, Nat.add_assoc, qb])
  refine go_upP [4, 5, 8, 9, 10, 11, 12, 13, 14, 15, 16, 17, 18] (xs.length) (fun (i : Nat) a => [(8, .int .i64 i)]) (fun i_ a_ h_ _ => (fun i (_ : Unit) _ => idxI q (xs.drop i) i = idxI q xs 0) i_ a_ h_) (()) (by simp) ?_ keep_rfl (Nat.le_refl _) ?_
  · simp
  · intro i a tm h' n' hle hJ hE hn' next hnx
    try dsimp only at hJ
    have hK : KeepB nx h' h := KeepB.sub hE keepA (by omega)
    simp [-List.map_take, -List.map_drop, -List.map_tail]
    try simp [-List.map_take, -List.map_drop, -List.map_tail, run_guard, run_guardD, resultsA, resA, Nat.add_assoc, tmrC]
    repeat'
      first
      | done
      | ((first
          | ((with_reducible show lenS _ _ _ _ _ _); refine lenS_slice rfl fun _ => ?_)
          | ((with_reducible show iaddrS _ _ _ _ _ _ _); refine iaddr_map rfl omA omA ?_)
          | (refine call_fv (hq _ (gt_mem (by omega) (by omega))) ?_)) <;> simp [-List.map_take, -List.map_drop, -List.map_tail, run_guard, run_guardD, resultsA, resA, Nat.add_assoc, tmrC])
      | ((first | (with_reducible refine condS_split ?_ ?_)) <;> intro qb <;> (have qp := qb; try simp only [psq] at qp) <;> simp [-List.map_take, -List.map_drop, -List.map_tail, run_guard, run_guardD, resultsA, resA, Nat.add_assoc, tmrC, qb])
    all_goals
      first
      | (have hlt : i < xs.length := (by first | omega | (simp at *; omega))
         rw [drop_gt hlt] at hJ
         first
         | (refine hnx.go (()) ?_ ?_ ?_ ?_ ?_ ?_; omega; (simp [wrap_succ hlt hlim]); (simp); exact keepA; (first | omega | (simp; omega)); (try dsimp only); clear hnx; first | ((try simp only [List.drop_length, Int.toNat_natCast, idxI] at hJ ⊢); grind) | (simp_all [idxI]; done) | (simp_all; omega))
         | (refine ⟨?_, keepA⟩; clear hnx; first | ((try simp only [List.drop_length, Int.toNat_natCast, idxI] at hJ ⊢); grind) | (simp_all [idxI]; done) | (simp_all; omega)))
      | (obtain rfl : i = xs.length := (by first | omega | (simp at *; omega))
         refine ⟨?_, keepA⟩; clear hnx; first | ((try simp only [List.drop_length, Int.toNat_natCast, idxI] at hJ ⊢); grind) | (simp_all [idxI]; done) | (simp_all; omega))

-- slices.ContainsFunc[[]impl.Timer,impl.Timer]
theorem c_ContainsFunc_Timer {p : Bool} {xs : List Tmr} {q : Tmr → Bool} {fv : AV} (hq : ∀ x ∈ xs, FV ctx.P fv [.agg (tmrC x)] (.bool (q x))) :
    PC ctx.P 273 [.view p 5 (xs.map tmrC), fv] (.bool (xs.any q)) := by
  refine PC.of okC Tryz.func273 rfl rfl (by kernel_rfl) (Nat.le_of_ble_eq_true rfl) (.bool _) fun h nx hnx => ?_
  show goC ctx _ _ (.fin (RetP _ _ _ _ _))
  try simp [-List.map_take, -List.map_drop, -List.map_tail, run_guard, run_guardD, resultsA, resA, Nat.add_assoc, idxI_any q xs 0 (Int.le_refl 0)]
  repeat'
    first
    | done
    | ((first
        | ((with_reducible show doCall _ _ _ 328 _ _); refine call_pc (c_IndexFunc_Timer hq) ?_)) <;> simp [-List.map_take, -List.map_drop, -List.map_tail, run_guard, run_guardD, resultsA, resA, Nat.add_assoc, idxI_any q xs 0 (Int.le_refl 0)])

-- impl.all[impl.Timer]$1
theorem c_allf_Timer {x : Tmr} {q : Tmr → Bool} {fv : AV} (hq : FV ctx.P fv [.agg (tmrC x)] (.bool (q x))) : PC ctx.P 274 [.agg (tmrC x), .vptr [fv]] (.bool (!q x)) := by
  refine PC.of okC Tryz.func274 rfl rfl (by kernel_rfl) (Nat.le_of_ble_eq_true rfl) (.bool _) fun h nx hnx => ?_
  show goC ctx _ _ (.fin (RetP _ _ _ _ _))
  try simp [-List.map_take, -List.map_drop, -List.map_tail, run_guard, run_guardD, resultsA, resA, Nat.add_assoc]
  repeat'
    first
    | done
    | ((first
        | (refine call_fv (hq) ?_)) <;> simp [-List.map_take, -List.map_drop, -List.map_tail, run_guard, run_guardD, resultsA, resA, Nat.add_assoc])
-- impl.all[impl.Timer]
theorem c_all_Timer {p : Bool} {xs : List Tmr} {q : Tmr → Bool} {fv : AV} (hf : IsF fv) (hq : ∀ x ∈ xs, FV ctx.P fv [.agg (tmrC x)] (.bool (q x))) :
    PC ctx.P 167 [.view p 5 (xs.map tmrC), fv] (.bool (xs.all q)) := by
  refine PC.of okC Tryz.func167 rfl rfl (by kernel_rfl) (Nat.le_of_ble_eq_true rfl) (.bool _) fun h nx hnx => ?_
  show goC ctx _ _ (.fin (RetP _ _ _ _ _))
  have hc := c_ContainsFunc_Timer (p := p) (q := fun x => !q x) (xs := xs) (fv := .fn 274 [.vptr [fv]]) fun x hx => c_allf_Timer (hq x hx)
  cases hf
  all_goals simp
  · refine call_pcB (hc) (by first | exact .bool _ | exact .int _ _ | exact .str _) (by repeat' first | exact Bors.nil | refine Bors.cons ?_ ?_ | exact Bor.same _ | refine Bor.fn1 ?_ | refine Bor.bnd1 ?_ | refine Bor.agg1 ?_ | refine Bor.ptr0 (by first | (simp; done) | (simp; rfl) | assumption | (simp [*]; done)) ?_ | refine Bor.ref0 (by first | (simp; done) | (simp; rfl) | (simp [iv, bv]; done)) (by simp) (by simp)) ?_
    simp [resultsA, resA, List.all_eq_not_any_not]
  · refine call_pcB (hc) (by first | exact .bool _ | exact .int _ _ | exact .str _) (by repeat' first | exact Bors.nil | refine Bors.cons ?_ ?_ | exact Bor.same _ | refine Bor.fn1 ?_ | refine Bor.bnd1 ?_ | refine Bor.agg1 ?_ | refine Bor.ptr0 (by first | (simp; done) | (simp; rfl) | assumption | (simp [*]; done)) ?_ | refine Bor.ref0 (by first | (simp; done) | (simp; rfl) | (simp [iv, bv]; done)) (by simp) (by simp)) ?_
    simp [resultsA, resA, List.all_eq_not_any_not]

-- impl.size[impl.After]
theorem c_size_After {p : Bool} {xs : List Afr} : PC ctx.P 277 [.view p 5 (xs.map afrC)] (.int .i64 xs.length) := by
  refine PC.of okC Tryz.func277 rfl rfl (by kernel_rfl) (Nat.le_of_ble_eq_true rfl) (.int _ _) fun h nx hnx => ?_
  show goC ctx _ _ (.fin (RetP _ _ _ _ _))
  try simp [-List.map_take, -List.map_drop, -List.map_tail, run_guard, run_guardD, resultsA, resA, Nat.add_assoc]
  repeat'
    first
    | done
    | ((first
        | ((with_reducible show lenS _ _ _ _ _ _); refine lenS_slice rfl fun _ => ?_)) <;> simp [-List.map_take, -List.map_drop, -List.map_tail, run_guard, run_guardD, resultsA, resA, Nat.add_assoc])


-- slices.IndexFunc[[]impl.After,impl.After]
theorem c_IndexFunc_After {p : Bool} {xs : List Afr} {q : Afr → Bool} {fv : AV} (hq : ∀ x ∈ xs, FV ctx.P fv [.agg (afrC x)] (.bool (q x))) :
    PC ctx.P 305 [.view p 5 (xs.map afrC), fv] (.int .i64 (idxI q xs 0)) := by
  refine PC.lim (n := xs.length) (x := .view p 5 (xs.map afrC)) (by simp) (.here (by simp)) ⟨_, Tryz.func305, by kernel_rfl, by kernel_rfl⟩ fun hlim => ?_
  refine PC.of okC Tryz.func305 rfl rfl (by kernel_rfl) (Nat.le_of_ble_eq_true rfl) (.int _ _) fun h nx hnx => ?_
  show goC ctx _ _ (.fin (RetP _ _ _ _ _))
  try simp [-List.map_take, -List.map_drop, -List.map_tail, run_guard, run_guardD, resultsA, resA, Nat.add_assoc]
  repeat'
    first
    | done
    | ((first
        | ((with_reducible show lenS _ _ _ _ _ _); refine lenS_slice rfl fun _ => ?_)
        | ((with_reducible show iaddrS _ _ _ _ _ _ _); refine iaddr_map rfl omA omA ?_)) <;> simp [-List.map_take, -List.map_drop, -List.map_tail, run_guard, run_guardD, resultsA, resA, Nat.add_assoc])
    | ((first | (with_reducible refine condS_split ?_ ?_)) <;> intro qb <;> (have qp := qb; try simp only [psq] at qp) <;> simp [-List.map_take, -List.map_drop, -List.map_tail, run_guard, run_guardD, resultsA, resA, Nat.add_assoc, qb])
  refine go_upP [4, 5, 8, 9, 10, 11, 12, 13, 14, 15, 16, 17, 18] (xs.length) (fun (i : Nat) a => [(8, .int .i64 i)]) (fun i_ a_ h_ _ => (fun i (_ : Unit) _ => idxI q (xs.drop i) i = idxI q xs 0) i_ a_ h_) (()) (by simp) ?_ keep_rfl (Nat.le_refl _) ?_
  · simp
  · intro i a tm h' n' hle hJ hE hn' next hnx
    try dsimp only at hJ
    have hK : KeepB nx h' h := KeepB.sub hE keepA (by omega)
    simp [-List.map_take, -List.map_drop, -List.map_tail]
    try simp [-List.map_take, -List.map_drop, -List.map_tail, run_guard, run_guardD, resultsA, resA, Nat.add_assoc, afrC]
    repeat'
      first
      | done
      | ((first
          | ((with_reducible show lenS _ _ _ _ _ _); refine lenS_slice rfl fun _ => ?_)
          | ((with_reducible show iaddrS _ _ _ _ _ _ _); refine iaddr_map rfl omA omA ?_)
          | (refine call_fv (hq _ (gt_mem (by omega) (by omega))) ?_)) <;> simp [-List.map_take, -List.map_drop, -List.map_tail, run_guard, run_guardD, resultsA, resA, Nat.add_assoc, afrC])
      | ((first | (with_reducible refine condS_split ?_ ?_)) <;> intro qb <;> (have qp := qb; try simp only [psq] at qp) <;> simp [-List.map_take, -List.map_drop, -List.map_tail, run_guard, run_guardD, resultsA, resA, Nat.add_assoc, afrC, qb])
    all_goals
      first
      | (have hlt : i < xs.length := (by first | omega | (simp at *; omega))
         rw [drop_gt hlt] at hJ
         first
         | (refine hnx.go (()) ?_ ?_ ?_ ?_ ?_ ?_; omega; (simp [wrap_succ hlt hlim]); (simp); exact keepA; (first | omega | (simp; omega)); (try dsimp only); clear hnx; first | ((try simp only [List.drop_length, Int.toNat_natCast, idxI] at hJ ⊢); grind) | (simp_all [idxI]; done) | (simp_all; omega))
         | (refine ⟨?_, keepA⟩; clear hnx; first | ((try simp only [List.drop_length, Int.toNat_natCast, idxI] at hJ ⊢); grind) | (simp_all [idxI]; done) | (simp_all; omega)))
      | (obtain rfl : i = xs.length := (by first | omega | (simp at *; omega))
         refine ⟨?_, keepA⟩; clear hnx; first | ((try simp only [List.drop_length, Int.toNat_natCast, idxI] at hJ ⊢); grind) | (simp_all [idxI]; done) | (simp_all; omega))

-- slices.ContainsFunc[[]impl.After,impl.After]
theorem c_ContainsFunc_After {p : Bool} {xs : List Afr} {q : Afr → Bool} {fv : AV} (hq : ∀ x ∈ xs, FV ctx.P fv [.agg (afrC x)] (.bool (q x))) :
    PC ctx.P 205 [.view p 5 (xs.map afrC), fv] (.bool (xs.any q)) := by
  refine PC.of okC Tryz.func205 rfl rfl (by kernel_rfl) (Nat.le_of_ble_eq_true rfl) (.bool _) fun h nx hnx => ?_
  show goC ctx _ _ (.fin (RetP _ _ _ _ _))
  try simp [-List.map_take, -List.map_drop, -List.map_tail, run_guard, run_guardD, resultsA, resA, Nat.add_assoc, idxI_any q xs 0 (Int.le_refl 0)]
  repeat'
    first
    | done
    | ((first
        | ((with_reducible show doCall _ _ _ 305 _ _); refine call_pc (c_IndexFunc_After hq) ?_)) <;> simp [-List.map_take, -List.map_drop, -List.map_tail, run_guard, run_guardD, resultsA, resA, Nat.add_assoc, idxI_any q xs 0 (Int.le_refl 0)])

-- impl.all[impl.After]$1
theorem c_allf_After {x : Afr} {q : Afr → Bool} {fv : AV} (hq : FV ctx.P fv [.agg (afrC x)] (.bool (q x))) : PC ctx.P 282 [.agg (afrC x), .vptr [fv]] (.bool (!q x)) := by
  refine PC.of okC Tryz.func282 rfl rfl (by kernel_rfl) (Nat.le_of_ble_eq_true rfl) (.bool _) fun h nx hnx => ?_
  show goC ctx _ _ (.fin (RetP _ _ _ _ _))
  try simp [-List.map_take, -List.map_drop, -List.map_tail, run_guard, run_guardD, resultsA, resA, Nat.add_assoc]
  repeat'
    first
    | done
    | ((first
        | (refine call_fv (hq) ?_)) <;> simp [-List.map_take, -List.map_drop, -List.map_tail, run_guard, run_guardD, resultsA, resA, Nat.add_assoc])
-- impl.all[impl.After]
theorem c_all_After {p : Bool} {xs : List Afr} {q : Afr → Bool} {fv : AV} (hf : IsF fv) (hq : ∀ x ∈ xs, FV ctx.P fv [.agg (afrC x)] (.bool (q x))) :
    PC ctx.P 170 [.view p 5 (xs.map afrC), fv] (.bool (xs.all q)) := by
  refine PC.of okC Tryz.func170 rfl rfl (by kernel_rfl) (Nat.le_of_ble_eq_true rfl) (.bool _) fun h nx hnx => ?_
  show goC ctx _ _ (.fin (RetP _ _ _ _ _))
  have hc := c_ContainsFunc_After (p := p) (q := fun x => !q x) (xs := xs) (fv := .fn 282 [.vptr [fv]]) fun x hx => c_allf_After (hq x hx)
  cases hf
  all_goals simp
  · refine call_pcB (hc) (by first | exact .bool _ | exact .int _ _ | exact .str _) (by repeat' first | exact Bors.nil | refine Bors.cons ?_ ?_ | exact Bor.same _ | refine Bor.fn1 ?_ | refine Bor.bnd1 ?_ | refine Bor.agg1 ?_ | refine Bor.ptr0 (by first | (simp; done) | (simp; rfl) | assumption | (simp [*]; done)) ?_ | refine Bor.ref0 (by first | (simp; done) | (simp; rfl) | (simp [iv, bv]; done)) (by simp) (by simp)) ?_
    simp [resultsA, resA, List.all_eq_not_any_not]
  · refine call_pcB (hc) (by first | exact .bool _ | exact .int _ _ | exact .str _) (by repeat' first | exact Bors.nil | refine Bors.cons ?_ ?_ | exact Bor.same _ | refine Bor.fn1 ?_ | refine Bor.bnd1 ?_ | refine Bor.agg1 ?_ | refine Bor.ptr0 (by first | (simp; done) | (simp; rfl) | assumption | (simp [*]; done)) ?_ | refine Bor.ref0 (by first | (simp; done) | (simp; rfl) | (simp [iv, bv]; done)) (by simp) (by simp)) ?_
    simp [resultsA, resA, List.all_eq_not_any_not]

-- impl.size[impl.Task]
theorem c_size_Task {p : Bool} {xs : List Tsk} : PC ctx.P 347 [.view p 9 (xs.map tskC)] (.int .i64 xs.length) := by
  refine PC.of okC Tryz.func347 rfl rfl (by kernel_rfl) (Nat.le_of_ble_eq_true rfl) (.int _ _) fun h nx hnx => ?_
  show goC ctx _ _ (.fin (RetP _ _ _ _ _))
  try simp [-List.map_take, -List.map_drop, -List.map_tail, run_guard, run_guardD, resultsA, resA, Nat.add_assoc]
  repeat'
    first
    | done
    | ((first
        | ((with_reducible show lenS _ _ _ _ _ _); refine lenS_slice rfl fun _ => ?_)) <;> simp [-List.map_take, -List.map_drop, -List.map_tail, run_guard, run_guardD, resultsA, resA, Nat.add_assoc])

-- impl.isIn[impl.Task]
theorem c_isIn_Task {p : Bool} {n : Int} {xs : List Tsk} : PC ctx.P 275 [.int .i64 n, .view p 9 (xs.map tskC)] (.bool (isIn n xs)) := by
  refine PC.lim (n := xs.length) (x := .view p 9 (xs.map tskC)) (by simp) (.here (by simp)) ⟨_, Tryz.func275, by kernel_rfl, by kernel_rfl⟩ fun hlim => ?_
  refine PC.of okC Tryz.func275 rfl rfl (by kernel_rfl) (Nat.le_of_ble_eq_true rfl) (.bool _) fun h nx hnx => ?_
  show goC ctx _ _ (.fin (RetP _ _ _ _ _))
  try simp [-List.map_take, -List.map_drop, -List.map_tail, run_guard, run_guardD, resultsA, resA, Nat.add_assoc, wrap_pred hlim, isIn]
  repeat'
    first
    | done
    | ((first
        | ((with_reducible show doCall _ _ _ 347 _ _); refine call_pc (c_size_Task) ?_)
        | ((with_reducible show doCall _ _ _ 165 _ _); refine call_pc (c_within) ?_)) <;> simp [-List.map_take, -List.map_drop, -List.map_tail, run_guard, run_guardD, resultsA, resA, Nat.add_assoc, wrap_pred hlim, isIn])

-- slices.IndexFunc[[]impl.Task,impl.Task]
theorem c_IndexFunc_Task {p : Bool} {xs : List Tsk} {q : Tsk → Bool} {fv : AV} (hq : ∀ x ∈ xs, FV ctx.P fv [.agg (tskC x)] (.bool (q x))) :
    PC ctx.P 352 [.view p 9 (xs.map tskC), fv] (.int .i64 (idxI q xs 0)) := by
  refine PC.lim (n := xs.length) (x := .view p 9 (xs.map tskC)) (by simp) (.here (by simp)) ⟨_, Tryz.func352, by kernel_rfl, by kernel_rfl⟩ fun hlim => ?_
  refine PC.of okC Tryz.func352 rfl rfl (by kernel_rfl) (Nat.le_of_ble_eq_true rfl) (.int _ _) fun h nx hnx => ?_
  show goC ctx _ _ (.fin (RetP _ _ _ _ _))
  try simp [-List.map_take, -List.map_drop, -List.map_tail, run_guard, run_guardD, resultsA, resA, Nat.add_assoc]
  repeat'
    first
    | done
    | ((first
        | ((with_reducible show lenS _ _ _ _ _ _); refine lenS_slice rfl fun _ => ?_)
        | ((with_reducible show iaddrS _ _ _ _ _ _ _); refine iaddr_map rfl omA omA ?_)) <;> simp [-List.map_take, -List.map_drop, -List.map_tail, run_guard, run_guardD, resultsA, resA, Nat.add_assoc])
    | ((first | (with_reducible refine condS_split ?_ ?_)) <;> intro qb <;> (have qp := qb; try simp only [psq] at qp) <;> simp [-List.map_take, -List.map_drop, -List.map_tail, run_guard, run_guardD, resultsA, resA, Nat.add_assoc, qb])
  refine go_upP [4, 5, 8, 9, 10, 11, 12, 13, 14, 15, 16, 17, 18] (xs.length) (fun (i : Nat) a => [(8, .int .i64 i)]) (fun i_ a_ h_ _ => (fun i (_ : Unit) _ => idxI q (xs.drop i) i = idxI q xs 0) i_ a_ h_) (()) (by simp) ?_ keep_rfl (Nat.le_refl _) ?_
  · simp
  · intro i a tm h' n' hle hJ hE hn' next hnx
    try dsimp only at hJ
    have hK : KeepB nx h' h := KeepB.sub hE keepA (by omega)
    simp [-List.map_take, -List.map_drop, -List.map_tail]
    try simp [-List.map_take, -List.map_drop, -List.map_tail, run_guard, run_guardD, resultsA, resA, Nat.add_assoc, tskC]
    repeat'
      first
      | done
      | ((first
          | ((with_reducible show lenS _ _ _ _ _ _); refine lenS_slice rfl fun _ => ?_)
          | ((with_reducible show iaddrS _ _ _ _ _ _ _); refine iaddr_map rfl omA omA ?_)
          | (refine call_fv (hq _ (gt_mem (by omega) (by omega))) ?_)) <;> simp [-List.map_take, -List.map_drop, -List.map_tail, run_guard, run_guardD, resultsA, resA, Nat.add_assoc, tskC])
      | ((first | (with_reducible refine condS_split ?_ ?_)) <;> intro qb <;> (have qp := qb; try simp only [psq] at qp) <;> simp [-List.map_take, -List.map_drop, -List.map_tail, run_guard, run_guardD, resultsA, resA, Nat.add_assoc, tskC, qb])
    all_goals
      first
      | (have hlt : i < xs.length := (by first | omega | (simp at *; omega))
         rw [drop_gt hlt] at hJ
         first
         | (refine hnx.go (()) ?_ ?_ ?_ ?_ ?_ ?_; omega; (simp [wrap_succ hlt hlim]); (simp); exact keepA; (first | omega | (simp; omega)); (try dsimp only); clear hnx; first | ((try simp only [List.drop_length, Int.toNat_natCast, idxI] at hJ ⊢); grind) | (simp_all [idxI]; done) | (simp_all; omega))
         | (refine ⟨?_, keepA⟩; clear hnx; first | ((try simp only [List.drop_length, Int.toNat_natCast, idxI] at hJ ⊢); grind) | (simp_all [idxI]; done) | (simp_all; omega)))
      | (obtain rfl : i = xs.length := (by first | omega | (simp at *; omega))
         refine ⟨?_, keepA⟩; clear hnx; first | ((try simp only [List.drop_length, Int.toNat_natCast, idxI] at hJ ⊢); grind) | (simp_all [idxI]; done) | (simp_all; omega))

-- slices.ContainsFunc[[]impl.Task,impl.Task]
theorem c_ContainsFunc_Task {p : Bool} {xs : List Tsk} {q : Tsk → Bool} {fv : AV} (hq : ∀ x ∈ xs, FV ctx.P fv [.agg (tskC x)] (.bool (q x))) :
    PC ctx.P 283 [.view p 9 (xs.map tskC), fv] (.bool (xs.any q)) := by
  refine PC.of okC Tryz.func283 rfl rfl (by kernel_rfl) (Nat.le_of_ble_eq_true rfl) (.bool _) fun h nx hnx => ?_
  show goC ctx _ _ (.fin (RetP _ _ _ _ _))
  try simp [-List.map_take, -List.map_drop, -List.map_tail, run_guard, run_guardD, resultsA, resA, Nat.add_assoc, idxI_any q xs 0 (Int.le_refl 0)]
  repeat'
    first
    | done
    | ((first
        | ((with_reducible show doCall _ _ _ 352 _ _); refine call_pc (c_IndexFunc_Task hq) ?_)) <;> simp [-List.map_take, -List.map_drop, -List.map_tail, run_guard, run_guardD, resultsA, resA, Nat.add_assoc, idxI_any q xs 0 (Int.le_refl 0)])

-- impl.all[impl.Task]$1
theorem c_allf_Task {x : Tsk} {q : Tsk → Bool} {fv : AV} (hq : FV ctx.P fv [.agg (tskC x)] (.bool (q x))) : PC ctx.P 286 [.agg (tskC x), .vptr [fv]] (.bool (!q x)) := by
  refine PC.of okC Tryz.func286 rfl rfl (by kernel_rfl) (Nat.le_of_ble_eq_true rfl) (.bool _) fun h nx hnx => ?_
  show goC ctx _ _ (.fin (RetP _ _ _ _ _))
  try simp [-List.map_take, -List.map_drop, -List.map_tail, run_guard, run_guardD, resultsA, resA, Nat.add_assoc]
  repeat'
    first
    | done
    | ((first
        | (refine call_fv (hq) ?_)) <;> simp [-List.map_take, -List.map_drop, -List.map_tail, run_guard, run_guardD, resultsA, resA, Nat.add_assoc])
-- impl.all[impl.Task]
theorem c_all_Task {p : Bool} {xs : List Tsk} {q : Tsk → Bool} {fv : AV} (hf : IsF fv) (hq : ∀ x ∈ xs, FV ctx.P fv [.agg (tskC x)] (.bool (q x))) :
    PC ctx.P 174 [.view p 9 (xs.map tskC), fv] (.bool (xs.all q)) := by
  refine PC.of okC Tryz.func174 rfl rfl (by kernel_rfl) (Nat.le_of_ble_eq_true rfl) (.bool _) fun h nx hnx => ?_
  show goC ctx _ _ (.fin (RetP _ _ _ _ _))
  have hc := c_ContainsFunc_Task (p := p) (q := fun x => !q x) (xs := xs) (fv := .fn 286 [.vptr [fv]]) fun x hx => c_allf_Task (hq x hx)
  cases hf
  all_goals simp
  · refine call_pcB (hc) (by first | exact .bool _ | exact .int _ _ | exact .str _) (by repeat' first | exact Bors.nil | refine Bors.cons ?_ ?_ | exact Bor.same _ | refine Bor.fn1 ?_ | refine Bor.bnd1 ?_ | refine Bor.agg1 ?_ | refine Bor.ptr0 (by first | (simp; done) | (simp; rfl) | assumption | (simp [*]; done)) ?_ | refine Bor.ref0 (by first | (simp; done) | (simp; rfl) | (simp [iv, bv]; done)) (by simp) (by simp)) ?_
    simp [resultsA, resA, List.all_eq_not_any_not]
  · refine call_pcB (hc) (by first | exact .bool _ | exact .int _ _ | exact .str _) (by repeat' first | exact Bors.nil | refine Bors.cons ?_ ?_ | exact Bor.same _ | refine Bor.fn1 ?_ | refine Bor.bnd1 ?_ | refine Bor.agg1 ?_ | refine Bor.ptr0 (by first | (simp; done) | (simp; rfl) | assumption | (simp [*]; done)) ?_ | refine Bor.ref0 (by first | (simp; done) | (simp; rfl) | (simp [iv, bv]; done)) (by simp) (by simp)) ?_
    simp [resultsA, resA, List.all_eq_not_any_not]

-- impl.size[impl.Group]
theorem c_size_Group {p : Bool} {pg : Bool} {xs : List Grp} : PC ctx.P 288 [.view p 5 (xs.map (grpV pg))] (.int .i64 xs.length) := by
  refine PC.of okC Tryz.func288 rfl rfl (by kernel_rfl) (Nat.le_of_ble_eq_true rfl) (.int _ _) fun h nx hnx => ?_
  show goC ctx _ _ (.fin (RetP _ _ _ _ _))
  try simp [-List.map_take, -List.map_drop, -List.map_tail, run_guard, run_guardD, resultsA, resA, Nat.add_assoc]
  repeat'
    first
    | done
    | ((first
        | ((with_reducible show lenS _ _ _ _ _ _); refine lenS_slice rfl fun _ => ?_)) <;> simp [-List.map_take, -List.map_drop, -List.map_tail, run_guard, run_guardD, resultsA, resA, Nat.add_assoc])

-- impl.isIn[impl.Group]
theorem c_isIn_Group {p : Bool} {pg : Bool} {n : Int} {xs : List Grp} : PC ctx.P 289 [.int .i64 n, .view p 5 (xs.map (grpV pg))] (.bool (isIn n xs)) := by
  refine PC.lim (n := xs.length) (x := .view p 5 (xs.map (grpV pg))) (by simp) (.here (by simp)) ⟨_, Tryz.func289, by kernel_rfl, by kernel_rfl⟩ fun hlim => ?_
  refine PC.of okC Tryz.func289 rfl rfl (by kernel_rfl) (Nat.le_of_ble_eq_true rfl) (.bool _) fun h nx hnx => ?_
  show goC ctx _ _ (.fin (RetP _ _ _ _ _))
  try simp [-List.map_take, -List.map_drop, -List.map_tail, run_guard, run_guardD, resultsA, resA, Nat.add_assoc, wrap_pred hlim, isIn]
  repeat'
    first
    | done
    | ((first
        | ((with_reducible show doCall _ _ _ 288 _ _); refine call_pc (c_size_Group) ?_)
        | ((with_reducible show doCall _ _ _ 165 _ _); refine call_pc (c_within) ?_)) <;> simp [-List.map_take, -List.map_drop, -List.map_tail, run_guard, run_guardD, resultsA, resA, Nat.add_assoc, wrap_pred hlim, isIn])

-- slices.IndexFunc[[]impl.Group,impl.Group]
theorem c_IndexFunc_Group {p : Bool} {pg : Bool} {xs : List Grp} {q : Grp → Bool} {fv : AV} (hq : ∀ x ∈ xs, FV ctx.P fv [.agg (grpV pg x)] (.bool (q x))) :
    PC ctx.P 354 [.view p 5 (xs.map (grpV pg)), fv] (.int .i64 (idxI q xs 0)) := by
  refine PC.lim (n := xs.length) (x := .view p 5 (xs.map (grpV pg))) (by simp) (.here (by simp)) ⟨_, Tryz.func354, by kernel_rfl, by kernel_rfl⟩ fun hlim => ?_
  refine PC.of okC Tryz.func354 rfl rfl (by kernel_rfl) (Nat.le_of_ble_eq_true rfl) (.int _ _) fun h nx hnx => ?_
  show goC ctx _ _ (.fin (RetP _ _ _ _ _))
  try simp [-List.map_take, -List.map_drop, -List.map_tail, run_guard, run_guardD, resultsA, resA, Nat.add_assoc]
  repeat'
    first
    | done
    | ((first
        | ((with_reducible show lenS _ _ _ _ _ _); refine lenS_slice rfl fun _ => ?_)
        | ((with_reducible show iaddrS _ _ _ _ _ _ _); refine iaddr_map rfl omA omA ?_)) <;> simp [-List.map_take, -List.map_drop, -List.map_tail, run_guard, run_guardD, resultsA, resA, Nat.add_assoc])
    | ((first | (with_reducible refine condS_split ?_ ?_)) <;> intro qb <;> (have qp := qb; try simp only [psq] at qp) <;> simp [-List.map_take, -List.map_drop, -List.map_tail, run_guard, run_guardD, resultsA, resA, Nat.add_assoc, qb])
  refine go_upP [4, 5, 8, 9, 10, 11, 12, 13, 14, 15, 16, 17, 18] (xs.length) (fun (i : Nat) a => [(8, .int .i64 i)]) (fun i_ a_ h_ _ => (fun i (_ : Unit) _ => idxI q (xs.drop i) i = idxI q xs 0) i_ a_ h_) (()) (by simp) ?_ keep_rfl (Nat.le_refl _) ?_
  · simp
  · intro i a tm h' n' hle hJ hE hn' next hnx
    try dsimp only at hJ
    have hK : KeepB nx h' h := KeepB.sub hE keepA (by omega)
    simp [-List.map_take, -List.map_drop, -List.map_tail]
    try simp [-List.map_take, -List.map_drop, -List.map_tail, run_guard, run_guardD, resultsA, resA, Nat.add_assoc, grpV]
    repeat'
      first
      | done
      | ((first
          | ((with_reducible show lenS _ _ _ _ _ _); refine lenS_slice rfl fun _ => ?_)
          | ((with_reducible show iaddrS _ _ _ _ _ _ _); refine iaddr_map rfl omA omA ?_)
          | (refine call_fv (hq _ (gt_mem (by omega) (by omega))) ?_)) <;> simp [-List.map_take, -List.map_drop, -List.map_tail, run_guard, run_guardD, resultsA, resA, Nat.add_assoc, grpV])
      | ((first | (with_reducible refine condS_split ?_ ?_)) <;> intro qb <;> (have qp := qb; try simp only [psq] at qp) <;> simp [-List.map_take, -List.map_drop, -List.map_tail, run_guard, run_guardD, resultsA, resA, Nat.add_assoc, grpV, qb])
    all_goals
      first
      | (have hlt : i < xs.length := (by first | omega | (simp at *; omega))
         rw [drop_gt hlt] at hJ
         first
         | (refine hnx.go (()) ?_ ?_ ?_ ?_ ?_ ?_; omega; (simp [wrap_succ hlt hlim]); (simp); exact keepA; (first | omega | (simp; omega)); (try dsimp only); clear hnx; first | ((try simp only [List.drop_length, Int.toNat_natCast, idxI] at hJ ⊢); grind) | (simp_all [idxI]; done) | (simp_all; omega))
         | (refine ⟨?_, keepA⟩; clear hnx; first | ((try simp only [List.drop_length, Int.toNat_natCast, idxI] at hJ ⊢); grind) | (simp_all [idxI]; done) | (simp_all; omega)))
      | (obtain rfl : i = xs.length := (by first | omega | (simp at *; omega))
         refine ⟨?_, keepA⟩; clear hnx; first | ((try simp only [List.drop_length, Int.toNat_natCast, idxI] at hJ ⊢); grind) | (simp_all [idxI]; done) | (simp_all; omega))

-- slices.ContainsFunc[[]impl.Group,impl.Group]
theorem c_ContainsFunc_Group {p : Bool} {pg : Bool} {xs : List Grp} {q : Grp → Bool} {fv : AV} (hq : ∀ x ∈ xs, FV ctx.P fv [.agg (grpV pg x)] (.bool (q x))) :
    PC ctx.P 290 [.view p 5 (xs.map (grpV pg)), fv] (.bool (xs.any q)) := by
  refine PC.of okC Tryz.func290 rfl rfl (by kernel_rfl) (Nat.le_of_ble_eq_true rfl) (.bool _) fun h nx hnx => ?_
  show goC ctx _ _ (.fin (RetP _ _ _ _ _))
  try simp [-List.map_take, -List.map_drop, -List.map_tail, run_guard, run_guardD, resultsA, resA, Nat.add_assoc, idxI_any q xs 0 (Int.le_refl 0)]
  repeat'
    first
    | done
    | ((first
        | ((with_reducible show doCall _ _ _ 354 _ _); refine call_pc (c_IndexFunc_Group hq) ?_)) <;> simp [-List.map_take, -List.map_drop, -List.map_tail, run_guard, run_guardD, resultsA, resA, Nat.add_assoc, idxI_any q xs 0 (Int.le_refl 0)])

-- impl.all[impl.Group]$1
theorem c_allf_Group {pg : Bool} {x : Grp} {q : Grp → Bool} {fv : AV} (hq : FV ctx.P fv [.agg (grpV pg x)] (.bool (q x))) : PC ctx.P 291 [.agg (grpV pg x), .vptr [fv]] (.bool (!q x)) := by
  refine PC.of okC Tryz.func291 rfl rfl (by kernel_rfl) (Nat.le_of_ble_eq_true rfl) (.bool _) fun h nx hnx => ?_
  show goC ctx _ _ (.fin (RetP _ _ _ _ _))
  try simp [-List.map_take, -List.map_drop, -List.map_tail, run_guard, run_guardD, resultsA, resA, Nat.add_assoc]
  repeat'
    first
    | done
    | ((first
        | (refine call_fv (hq) ?_)) <;> simp [-List.map_take, -List.map_drop, -List.map_tail, run_guard, run_guardD, resultsA, resA, Nat.add_assoc])
-- impl.all[impl.Group]
theorem c_all_Group {p : Bool} {pg : Bool} {xs : List Grp} {q : Grp → Bool} {fv : AV} (hf : IsF fv) (hq : ∀ x ∈ xs, FV ctx.P fv [.agg (grpV pg x)] (.bool (q x))) :
    PC ctx.P 176 [.view p 5 (xs.map (grpV pg)), fv] (.bool (xs.all q)) := by
  refine PC.of okC Tryz.func176 rfl rfl (by kernel_rfl) (Nat.le_of_ble_eq_true rfl) (.bool _) fun h nx hnx => ?_
  show goC ctx _ _ (.fin (RetP _ _ _ _ _))
  have hc := c_ContainsFunc_Group (p := p) (q := fun x => !q x) (xs := xs) (fv := .fn 291 [.vptr [fv]]) fun x hx => c_allf_Group (hq x hx)
  cases hf
  all_goals simp
  · refine call_pcB (hc) (by first | exact .bool _ | exact .int _ _ | exact .str _) (by repeat' first | exact Bors.nil | refine Bors.cons ?_ ?_ | exact Bor.same _ | refine Bor.fn1 ?_ | refine Bor.bnd1 ?_ | refine Bor.agg1 ?_ | refine Bor.ptr0 (by first | (simp; done) | (simp; rfl) | assumption | (simp [*]; done)) ?_ | refine Bor.ref0 (by first | (simp; done) | (simp; rfl) | (simp [iv, bv]; done)) (by simp) (by simp)) ?_
    simp [resultsA, resA, List.all_eq_not_any_not]
  · refine call_pcB (hc) (by first | exact .bool _ | exact .int _ _ | exact .str _) (by repeat' first | exact Bors.nil | refine Bors.cons ?_ ?_ | exact Bor.same _ | refine Bor.fn1 ?_ | refine Bor.bnd1 ?_ | refine Bor.agg1 ?_ | refine Bor.ptr0 (by first | (simp; done) | (simp; rfl) | assumption | (simp [*]; done)) ?_ | refine Bor.ref0 (by first | (simp; done) | (simp; rfl) | (simp [iv, bv]; done)) (by simp) (by simp)) ?_
    simp [resultsA, resA, List.all_eq_not_any_not]



-- slices.IndexFunc[[]impl.Sight,impl.Sight]
theorem c_IndexFunc_Sight {p : Bool} {xs : List Sgt} {q : Sgt → Bool} {fv : AV} (hq : ∀ x ∈ xs, FV ctx.P fv [.agg (sgtC x)] (.bool (q x))) :
    PC ctx.P 355 [.view p 4 (xs.map sgtC), fv] (.int .i64 (idxI q xs 0)) := by
  refine PC.lim (n := xs.length) (x := .view p 4 (xs.map sgtC)) (by simp) (.here (by simp)) ⟨_, Tryz.func355, by kernel_rfl, by kernel_rfl⟩ fun hlim => ?_
  refine PC.of okC Tryz.func355 rfl rfl (by kernel_rfl) (Nat.le_of_ble_eq_true rfl) (.int _ _) fun h nx hnx => ?_
  show goC ctx _ _ (.fin (RetP _ _ _ _ _))
  try simp [-List.map_take, -List.map_drop, -List.map_tail, run_guard, run_guardD, resultsA, resA, Nat.add_assoc]
  repeat'
    first
    | done
    | ((first
        | ((with_reducible show lenS _ _ _ _ _ _); refine lenS_slice rfl fun _ => ?_)
        | ((with_reducible show iaddrS _ _ _ _ _ _ _); refine iaddr_map rfl omA omA ?_)) <;> simp [-List.map_take, -List.map_drop, -List.map_tail, run_guard, run_guardD, resultsA, resA, Nat.add_assoc])
    | ((first | (with_reducible refine condS_split ?_ ?_)) <;> intro qb <;> (have qp := qb; try simp only [psq] at qp) <;> simp [-List.map_take, -List.map_drop, -List.map_tail, run_guard, run_guardD, resultsA, resA, Nat.add_assoc, qb])
  refine go_upP [4, 5, 8, 9, 10, 11, 12, 13, 14, 15, 16, 17, 18] (xs.length) (fun (i : Nat) a => [(8, .int .i64 i)]) (fun i_ a_ h_ _ => (fun i (_ : Unit) _ => idxI q (xs.drop i) i = idxI q xs 0) i_ a_ h_) (()) (by simp) ?_ keep_rfl (Nat.le_refl _) ?_
  · simp
  · intro i a tm h' n' hle hJ hE hn' next hnx
    try dsimp only at hJ
    have hK : KeepB nx h' h := KeepB.sub hE keepA (by omega)
    simp [-List.map_take, -List.map_drop, -List.map_tail]
    try simp [-List.map_take, -List.map_drop, -List.map_tail, run_guard, run_guardD, resultsA, resA, Nat.add_assoc, sgtC]
    repeat'
      first
      | done
      | ((first
          | ((with_reducible show lenS _ _ _ _ _ _); refine lenS_slice rfl fun _ => ?_)
          | ((with_reducible show iaddrS _ _ _ _ _ _ _); refine iaddr_map rfl omA omA ?_)
          | (refine call_fv (hq _ (gt_mem (by omega) (by omega))) ?_)) <;> simp [-List.map_take, -List.map_drop, -List.map_tail, run_guard, run_guardD, resultsA, resA, Nat.add_assoc, sgtC])
      | ((first | (with_reducible refine condS_split ?_ ?_)) <;> intro qb <;> (have qp := qb; try simp only [psq] at qp) <;> simp [-List.map_take, -List.map_drop, -List.map_tail, run_guard, run_guardD, resultsA, resA, Nat.add_assoc, sgtC, qb])
    all_goals
      first
      | (have hlt : i < xs.length := (by first | omega | (simp at *; omega))
         rw [drop_gt hlt] at hJ
         first
         | (refine hnx.go (()) ?_ ?_ ?_ ?_ ?_ ?_; omega; (simp [wrap_succ hlt hlim]); (simp); exact keepA; (first | omega | (simp; omega)); (try dsimp only); clear hnx; first | ((try simp only [List.drop_length, Int.toNat_natCast, idxI] at hJ ⊢); grind) | (simp_all [idxI]; done) | (simp_all; omega))
         | (refine ⟨?_, keepA⟩; clear hnx; first | ((try simp only [List.drop_length, Int.toNat_natCast, idxI] at hJ ⊢); grind) | (simp_all [idxI]; done) | (simp_all; omega)))
      | (obtain rfl : i = xs.length := (by first | omega | (simp at *; omega))
         refine ⟨?_, keepA⟩; clear hnx; first | ((try simp only [List.drop_length, Int.toNat_natCast, idxI] at hJ ⊢); grind) | (simp_all [idxI]; done) | (simp_all; omega))

-- slices.ContainsFunc[[]impl.Sight,impl.Sight]
theorem c_ContainsFunc_Sight {p : Bool} {xs : List Sgt} {q : Sgt → Bool} {fv : AV} (hq : ∀ x ∈ xs, FV ctx.P fv [.agg (sgtC x)] (.bool (q x))) :
    PC ctx.P 294 [.view p 4 (xs.map sgtC), fv] (.bool (xs.any q)) := by
  refine PC.of okC Tryz.func294 rfl rfl (by kernel_rfl) (Nat.le_of_ble_eq_true rfl) (.bool _) fun h nx hnx => ?_
  show goC ctx _ _ (.fin (RetP _ _ _ _ _))
  try simp [-List.map_take, -List.map_drop, -List.map_tail, run_guard, run_guardD, resultsA, resA, Nat.add_assoc, idxI_any q xs 0 (Int.le_refl 0)]
  repeat'
    first
    | done
    | ((first
        | ((with_reducible show doCall _ _ _ 355 _ _); refine call_pc (c_IndexFunc_Sight hq) ?_)) <;> simp [-List.map_take, -List.map_drop, -List.map_tail, run_guard, run_guardD, resultsA, resA, Nat.add_assoc, idxI_any q xs 0 (Int.le_refl 0)])

-- impl.all[impl.Sight]$1
theorem c_allf_Sight {x : Sgt} {q : Sgt → Bool} {fv : AV} (hq : FV ctx.P fv [.agg (sgtC x)] (.bool (q x))) : PC ctx.P 295 [.agg (sgtC x), .vptr [fv]] (.bool (!q x)) := by
  refine PC.of okC Tryz.func295 rfl rfl (by kernel_rfl) (Nat.le_of_ble_eq_true rfl) (.bool _) fun h nx hnx => ?_
  show goC ctx _ _ (.fin (RetP _ _ _ _ _))
  try simp [-List.map_take, -List.map_drop, -List.map_tail, run_guard, run_guardD, resultsA, resA, Nat.add_assoc]
  repeat'
    first
    | done
    | ((first
        | (refine call_fv (hq) ?_)) <;> simp [-List.map_take, -List.map_drop, -List.map_tail, run_guard, run_guardD, resultsA, resA, Nat.add_assoc])
-- impl.all[impl.Sight]
theorem c_all_Sight {p : Bool} {xs : List Sgt} {q : Sgt → Bool} {fv : AV} (hf : IsF fv) (hq : ∀ x ∈ xs, FV ctx.P fv [.agg (sgtC x)] (.bool (q x))) :
    PC ctx.P 178 [.view p 4 (xs.map sgtC), fv] (.bool (xs.all q)) := by
  refine PC.of okC Tryz.func178 rfl rfl (by kernel_rfl) (Nat.le_of_ble_eq_true rfl) (.bool _) fun h nx hnx => ?_
  show goC ctx _ _ (.fin (RetP _ _ _ _ _))
  have hc := c_ContainsFunc_Sight (p := p) (q := fun x => !q x) (xs := xs) (fv := .fn 295 [.vptr [fv]]) fun x hx => c_allf_Sight (hq x hx)
  cases hf
  all_goals simp
  · refine call_pcB (hc) (by first | exact .bool _ | exact .int _ _ | exact .str _) (by repeat' first | exact Bors.nil | refine Bors.cons ?_ ?_ | exact Bor.same _ | refine Bor.fn1 ?_ | refine Bor.bnd1 ?_ | refine Bor.agg1 ?_ | refine Bor.ptr0 (by first | (simp; done) | (simp; rfl) | assumption | (simp [*]; done)) ?_ | refine Bor.ref0 (by first | (simp; done) | (simp; rfl) | (simp [iv, bv]; done)) (by simp) (by simp)) ?_
    simp [resultsA, resA, List.all_eq_not_any_not]
  · refine call_pcB (hc) (by first | exact .bool _ | exact .int _ _ | exact .str _) (by repeat' first | exact Bors.nil | refine Bors.cons ?_ ?_ | exact Bor.same _ | refine Bor.fn1 ?_ | refine Bor.bnd1 ?_ | refine Bor.agg1 ?_ | refine Bor.ptr0 (by first | (simp; done) | (simp; rfl) | assumption | (simp [*]; done)) ?_ | refine Bor.ref0 (by first | (simp; done) | (simp; rfl) | (simp [iv, bv]; done)) (by simp) (by simp)) ?_
    simp [resultsA, resA, List.all_eq_not_any_not]

-- impl.size[int64]
theorem c_size_int64 {p : Bool} {xs : List Int} : PC ctx.P 348 [.view p 1 (xs.map iv)] (.int .i64 xs.length) := by
  refine PC.of okC Tryz.func348 rfl rfl (by kernel_rfl) (Nat.le_of_ble_eq_true rfl) (.int _ _) fun h nx hnx => ?_
  show goC ctx _ _ (.fin (RetP _ _ _ _ _))
  try simp [-List.map_take, -List.map_drop, -List.map_tail, run_guard, run_guardD, resultsA, resA, Nat.add_assoc]
  repeat'
    first
    | done
    | ((first
        | ((with_reducible show lenS _ _ _ _ _ _); refine lenS_slice rfl fun _ => ?_)) <;> simp [-List.map_take, -List.map_drop, -List.map_tail, run_guard, run_guardD, resultsA, resA, Nat.add_assoc])

-- impl.isIn[int64]
theorem c_isIn_int64 {p : Bool} {n : Int} {xs : List Int} : PC ctx.P 350 [.int .i64 n, .view p 1 (xs.map iv)] (.bool (isIn n xs)) := by
  refine PC.lim (n := xs.length) (x := .view p 1 (xs.map iv)) (by simp) (.here (by simp)) ⟨_, Tryz.func350, by kernel_rfl, by kernel_rfl⟩ fun hlim => ?_
  refine PC.of okC Tryz.func350 rfl rfl (by kernel_rfl) (Nat.le_of_ble_eq_true rfl) (.bool _) fun h nx hnx => ?_
  show goC ctx _ _ (.fin (RetP _ _ _ _ _))
  try simp [-List.map_take, -List.map_drop, -List.map_tail, run_guard, run_guardD, resultsA, resA, Nat.add_assoc, wrap_pred hlim, isIn]
  repeat'
    first
    | done
    | ((first
        | ((with_reducible show doCall _ _ _ 348 _ _); refine call_pc (c_size_int64) ?_)
        | ((with_reducible show doCall _ _ _ 165 _ _); refine call_pc (c_within) ?_)) <;> simp [-List.map_take, -List.map_drop, -List.map_tail, run_guard, run_guardD, resultsA, resA, Nat.add_assoc, wrap_pred hlim, isIn])

-- slices.IndexFunc[[]int64,int64]
theorem c_IndexFunc_int64 {p : Bool} {xs : List Int} {q : Int → Bool} {fv : AV} (hq : ∀ x ∈ xs, FV ctx.P fv [.int .i64 x] (.bool (q x))) :
    PC ctx.P 343 [.view p 1 (xs.map iv), fv] (.int .i64 (idxI q xs 0)) := by
  refine PC.lim (n := xs.length) (x := .view p 1 (xs.map iv)) (by simp) (.here (by simp)) ⟨_, Tryz.func343, by kernel_rfl, by kernel_rfl⟩ fun hlim => ?_
  refine PC.of okC Tryz.func343 rfl rfl (by kernel_rfl) (Nat.le_of_ble_eq_true rfl) (.int _ _) fun h nx hnx => ?_
  show goC ctx _ _ (.fin (RetP _ _ _ _ _))
  try simp [-List.map_take, -List.map_drop, -List.map_tail, run_guard, run_guardD, resultsA, resA, Nat.add_assoc]
  repeat'
    first
    | done
    | ((first
        | ((with_reducible show lenS _ _ _ _ _ _); refine lenS_slice rfl fun _ => ?_)
        | ((with_reducible show iaddrS _ _ _ _ _ _ _); refine iaddr_map rfl omA omA ?_)) <;> simp [-List.map_take, -List.map_drop, -List.map_tail, run_guard, run_guardD, resultsA, resA, Nat.add_assoc])
    | ((first | (with_reducible refine condS_split ?_ ?_)) <;> intro qb <;> (have qp := qb; try simp only [psq] at qp) <;> simp [-List.map_take, -List.map_drop, -List.map_tail, run_guard, run_guardD, resultsA, resA, Nat.add_assoc, qb])
  refine go_upP [4, 5, 8, 9, 10, 11, 12, 13, 14, 15, 16, 17, 18] (xs.length) (fun (i : Nat) a => [(8, .int .i64 i)]) (fun i_ a_ h_ _ => (fun i (_ : Unit) _ => idxI q (xs.drop i) i = idxI q xs 0) i_ a_ h_) (()) (by simp) ?_ keep_rfl (Nat.le_refl _) ?_
  · simp
  · intro i a tm h' n' hle hJ hE hn' next hnx
    try dsimp only at hJ
    have hK : KeepB nx h' h := KeepB.sub hE keepA (by omega)
    simp [-List.map_take, -List.map_drop, -List.map_tail]
    try simp [-List.map_take, -List.map_drop, -List.map_tail, run_guard, run_guardD, resultsA, resA, Nat.add_assoc, iv]
    repeat'
      first
      | done
      | ((first
          | ((with_reducible show lenS _ _ _ _ _ _); refine lenS_slice rfl fun _ => ?_)
          | ((with_reducible show iaddrS _ _ _ _ _ _ _); refine iaddr_map rfl omA omA ?_)
          | (refine call_fv (hq _ (gt_mem (by omega) (by omega))) ?_)) <;> simp [-List.map_take, -List.map_drop, -List.map_tail, run_guard, run_guardD, resultsA, resA, Nat.add_assoc, iv])
      | ((first | (with_reducible refine condS_split ?_ ?_)) <;> intro qb <;> (have qp := qb; try simp only [psq] at qp) <;> simp [-List.map_take, -List.map_drop, -List.map_tail, run_guard, run_guardD, resultsA, resA, Nat.add_assoc, iv, qb])
    all_goals
      first
      | (have hlt : i < xs.length := (by first | omega | (simp at *; omega))
         rw [drop_gt hlt] at hJ
         first
         | (refine hnx.go (()) ?_ ?_ ?_ ?_ ?_ ?_; omega; (simp [wrap_succ hlt hlim]); (simp); exact keepA; (first | omega | (simp; omega)); (try dsimp only); clear hnx; first | ((try simp only [List.drop_length, Int.toNat_natCast, idxI] at hJ ⊢); grind) | (simp_all [idxI]; done) | (simp_all; omega))
         | (refine ⟨?_, keepA⟩; clear hnx; first | ((try simp only [List.drop_length, Int.toNat_natCast, idxI] at hJ ⊢); grind) | (simp_all [idxI]; done) | (simp_all; omega)))
      | (obtain rfl : i = xs.length := (by first | omega | (simp at *; omega))
         refine ⟨?_, keepA⟩; clear hnx; first | ((try simp only [List.drop_length, Int.toNat_natCast, idxI] at hJ ⊢); grind) | (simp_all [idxI]; done) | (simp_all; omega))

-- slices.ContainsFunc[[]int64,int64]
theorem c_ContainsFunc_int64 {p : Bool} {xs : List Int} {q : Int → Bool} {fv : AV} (hq : ∀ x ∈ xs, FV ctx.P fv [.int .i64 x] (.bool (q x))) :
    PC ctx.P 268 [.view p 1 (xs.map iv), fv] (.bool (xs.any q)) := by
  refine PC.of okC Tryz.func268 rfl rfl (by kernel_rfl) (Nat.le_of_ble_eq_true rfl) (.bool _) fun h nx hnx => ?_
  show goC ctx _ _ (.fin (RetP _ _ _ _ _))
  try simp [-List.map_take, -List.map_drop, -List.map_tail, run_guard, run_guardD, resultsA, resA, Nat.add_assoc, idxI_any q xs 0 (Int.le_refl 0)]
  repeat'
    first
    | done
    | ((first
        | ((with_reducible show doCall _ _ _ 343 _ _); refine call_pc (c_IndexFunc_int64 hq) ?_)) <;> simp [-List.map_take, -List.map_drop, -List.map_tail, run_guard, run_guardD, resultsA, resA, Nat.add_assoc, idxI_any q xs 0 (Int.le_refl 0)])

-- impl.all[int64]$1
theorem c_allf_int64 {x : Int} {q : Int → Bool} {fv : AV} (hq : FV ctx.P fv [.int .i64 x] (.bool (q x))) : PC ctx.P 297 [.int .i64 x, .vptr [fv]] (.bool (!q x)) := by
  refine PC.of okC Tryz.func297 rfl rfl (by kernel_rfl) (Nat.le_of_ble_eq_true rfl) (.bool _) fun h nx hnx => ?_
  show goC ctx _ _ (.fin (RetP _ _ _ _ _))
  try simp [-List.map_take, -List.map_drop, -List.map_tail, run_guard, run_guardD, resultsA, resA, Nat.add_assoc]
  repeat'
    first
    | done
    | ((first
        | (refine call_fv (hq) ?_)) <;> simp [-List.map_take, -List.map_drop, -List.map_tail, run_guard, run_guardD, resultsA, resA, Nat.add_assoc])
-- impl.all[int64]
theorem c_all_int64 {p : Bool} {xs : List Int} {q : Int → Bool} {fv : AV} (hf : IsF fv) (hq : ∀ x ∈ xs, FV ctx.P fv [.int .i64 x] (.bool (q x))) :
    PC ctx.P 180 [.view p 1 (xs.map iv), fv] (.bool (xs.all q)) := by
  refine PC.of okC Tryz.func180 rfl rfl (by kernel_rfl) (Nat.le_of_ble_eq_true rfl) (.bool _) fun h nx hnx => ?_
  show goC ctx _ _ (.fin (RetP _ _ _ _ _))
  have hc := c_ContainsFunc_int64 (p := p) (q := fun x => !q x) (xs := xs) (fv := .fn 297 [.vptr [fv]]) fun x hx => c_allf_int64 (hq x hx)
  cases hf
  all_goals simp
  · refine call_pcB (hc) (by first | exact .bool _ | exact .int _ _ | exact .str _) (by repeat' first | exact Bors.nil | refine Bors.cons ?_ ?_ | exact Bor.same _ | refine Bor.fn1 ?_ | refine Bor.bnd1 ?_ | refine Bor.agg1 ?_ | refine Bor.ptr0 (by first | (simp; done) | (simp; rfl) | assumption | (simp [*]; done)) ?_ | refine Bor.ref0 (by first | (simp; done) | (simp; rfl) | (simp [iv, bv]; done)) (by simp) (by simp)) ?_
    simp [resultsA, resA, List.all_eq_not_any_not]
  · refine call_pcB (hc) (by first | exact .bool _ | exact .int _ _ | exact .str _) (by repeat' first | exact Bors.nil | refine Bors.cons ?_ ?_ | exact Bor.same _ | refine Bor.fn1 ?_ | refine Bor.bnd1 ?_ | refine Bor.agg1 ?_ | refine Bor.ptr0 (by first | (simp; done) | (simp; rfl) | assumption | (simp [*]; done)) ?_ | refine Bor.ref0 (by first | (simp; done) | (simp; rfl) | (simp [iv, bv]; done)) (by simp) (by simp)) ?_
    simp [resultsA, resA, List.all_eq_not_any_not]

-- impl.size[bool]
-- impl.isIn[bool]
-- impl.size[[]impl.Ins]
theorem c_size_Prog {p : Bool} {pg : Bool} {xs : List (List Inn)} : PC ctx.P 353 [.view p 1 (xs.map (prgV pg))] (.int .i64 xs.length) := by
  refine PC.of okC Tryz.func353 rfl rfl (by kernel_rfl) (Nat.le_of_ble_eq_true rfl) (.int _ _) fun h nx hnx => ?_
  show goC ctx _ _ (.fin (RetP _ _ _ _ _))
  try simp [-List.map_take, -List.map_drop, -List.map_tail, run_guard, run_guardD, resultsA, resA, Nat.add_assoc]
  repeat'
    first
    | done
    | ((first
        | ((with_reducible show lenS _ _ _ _ _ _); refine lenS_slice rfl fun _ => ?_)) <;> simp [-List.map_take, -List.map_drop, -List.map_tail, run_guard, run_guardD, resultsA, resA, Nat.add_assoc])

-- impl.isIn[[]impl.Ins]
theorem c_isIn_Prog {p : Bool} {pg : Bool} {n : Int} {xs : List (List Inn)} : PC ctx.P 287 [.int .i64 n, .view p 1 (xs.map (prgV pg))] (.bool (isIn n xs)) := by
  refine PC.lim (n := xs.length) (x := .view p 1 (xs.map (prgV pg))) (by simp) (.here (by simp)) ⟨_, Tryz.func287, by kernel_rfl, by kernel_rfl⟩ fun hlim => ?_
  refine PC.of okC Tryz.func287 rfl rfl (by kernel_rfl) (Nat.le_of_ble_eq_true rfl) (.bool _) fun h nx hnx => ?_
  show goC ctx _ _ (.fin (RetP _ _ _ _ _))
  try simp [-List.map_take, -List.map_drop, -List.map_tail, run_guard, run_guardD, resultsA, resA, Nat.add_assoc, wrap_pred hlim, isIn]
  repeat'
    first
    | done
    | ((first
        | ((with_reducible show doCall _ _ _ 353 _ _); refine call_pc (c_size_Prog) ?_)
        | ((with_reducible show doCall _ _ _ 165 _ _); refine call_pc (c_within) ?_)) <;> simp [-List.map_take, -List.map_drop, -List.map_tail, run_guard, run_guardD, resultsA, resA, Nat.add_assoc, wrap_pred hlim, isIn])

-- slices.IndexFunc[[][]impl.Ins,[]impl.Ins]
theorem c_IndexFunc_Prog {p : Bool} {pg : Bool} {xs : List (List Inn)} {q : (List Inn) → Bool} {fv : AV} (hq : ∀ x ∈ xs, FV ctx.P fv [.view pg 3 (x.map innC)] (.bool (q x))) :
    PC ctx.P 338 [.view p 1 (xs.map (prgV pg)), fv] (.int .i64 (idxI q xs 0)) := by
  refine PC.lim (n := xs.length) (x := .view p 1 (xs.map (prgV pg))) (by simp) (.here (by simp)) ⟨_, Tryz.func338, by kernel_rfl, by kernel_rfl⟩ fun hlim => ?_
  refine PC.of okC Tryz.func338 rfl rfl (by kernel_rfl) (Nat.le_of_ble_eq_true rfl) (.int _ _) fun h nx hnx => ?_
  show goC ctx _ _ (.fin (RetP _ _ _ _ _))
  try simp [-List.map_take, -List.map_drop, -List.map_tail, run_guard, run_guardD, resultsA, resA, Nat.add_assoc]
  repeat'
    first
    | done
    | ((first
        | ((with_reducible show lenS _ _ _ _ _ _); refine lenS_slice rfl fun _ => ?_)
        | ((with_reducible show iaddrS _ _ _ _ _ _ _); refine iaddr_map rfl omA omA ?_)) <;> simp [-List.map_take, -List.map_drop, -List.map_tail, run_guard, run_guardD, resultsA, resA, Nat.add_assoc])
    | ((first | (with_reducible refine condS_split ?_ ?_)) <;> intro qb <;> (have qp := qb; try simp only [psq] at qp) <;> simp [-List.map_take, -List.map_drop, -List.map_tail, run_guard, run_guardD, resultsA, resA, Nat.add_assoc, qb])
  refine go_upP [4, 5, 8, 9, 10, 11, 12, 13, 14, 15, 16, 17, 18] (xs.length) (fun (i : Nat) a => [(8, .int .i64 i)]) (fun i_ a_ h_ _ => (fun i (_ : Unit) _ => idxI q (xs.drop i) i = idxI q xs 0) i_ a_ h_) (()) (by simp) ?_ keep_rfl (Nat.le_refl _) ?_
  · simp
  · intro i a tm h' n' hle hJ hE hn' next hnx
    try dsimp only at hJ
    have hK : KeepB nx h' h := KeepB.sub hE keepA (by omega)
    simp [-List.map_take, -List.map_drop, -List.map_tail]
    try simp [-List.map_take, -List.map_drop, -List.map_tail, run_guard, run_guardD, resultsA, resA, Nat.add_assoc, prgV]
    repeat'
      first
      | done
      | ((first
          | ((with_reducible show lenS _ _ _ _ _ _); refine lenS_slice rfl fun _ => ?_)
          | ((with_reducible show iaddrS _ _ _ _ _ _ _); refine iaddr_map rfl omA omA ?_)
          | (refine call_fv (hq _ (gt_mem (by omega) (by omega))) ?_)) <;> simp [-List.map_take, -List.map_drop, -List.map_tail, run_guard, run_guardD, resultsA, resA, Nat.add_assoc, prgV])
      | ((first | (with_reducible refine condS_split ?_ ?_)) <;> intro qb <;> (have qp := qb; try simp only [psq] at qp) <;> simp [-List.map_take, -List.map_drop, -List.map_tail, run_guard, run_guardD, resultsA, resA, Nat.add_assoc, prgV, qb])
    all_goals
      first
      | (have hlt : i < xs.length := (by first | omega | (simp at *; omega))
         rw [drop_gt hlt] at hJ
         first
         | (refine hnx.go (()) ?_ ?_ ?_ ?_ ?_ ?_; omega; (simp [wrap_succ hlt hlim]); (simp); exact keepA; (first | omega | (simp; omega)); (try dsimp only); clear hnx; first | ((try simp only [List.drop_length, Int.toNat_natCast, idxI] at hJ ⊢); grind) | (simp_all [idxI]; done) | (simp_all; omega))
         | (refine ⟨?_, keepA⟩; clear hnx; first | ((try simp only [List.drop_length, Int.toNat_natCast, idxI] at hJ ⊢); grind) | (simp_all [idxI]; done) | (simp_all; omega)))
      | (obtain rfl : i = xs.length := (by first | omega | (simp at *; omega))
         refine ⟨?_, keepA⟩; clear hnx; first | ((try simp only [List.drop_length, Int.toNat_natCast, idxI] at hJ ⊢); grind) | (simp_all [idxI]; done) | (simp_all; omega))

-- slices.ContainsFunc[[][]impl.Ins,[]impl.Ins]
theorem c_ContainsFunc_Prog {p : Bool} {pg : Bool} {xs : List (List Inn)} {q : (List Inn) → Bool} {fv : AV} (hq : ∀ x ∈ xs, FV ctx.P fv [.view pg 3 (x.map innC)] (.bool (q x))) :
    PC ctx.P 261 [.view p 1 (xs.map (prgV pg)), fv] (.bool (xs.any q)) := by
  refine PC.of okC Tryz.func261 rfl rfl (by kernel_rfl) (Nat.le_of_ble_eq_true rfl) (.bool _) fun h nx hnx => ?_
  show goC ctx _ _ (.fin (RetP _ _ _ _ _))
  try simp [-List.map_take, -List.map_drop, -List.map_tail, run_guard, run_guardD, resultsA, resA, Nat.add_assoc, idxI_any q xs 0 (Int.le_refl 0)]
  repeat'
    first
    | done
    | ((first
        | ((with_reducible show doCall _ _ _ 338 _ _); refine call_pc (c_IndexFunc_Prog hq) ?_)) <;> simp [-List.map_take, -List.map_drop, -List.map_tail, run_guard, run_guardD, resultsA, resA, Nat.add_assoc, idxI_any q xs 0 (Int.le_refl 0)])

-- impl.all[[]impl.Ins]$1
theorem c_allf_Prog {pg : Bool} {x : (List Inn)} {q : (List Inn) → Bool} {fv : AV} (hq : FV ctx.P fv [.view pg 3 (x.map innC)] (.bool (q x))) : PC ctx.P 262 [.view pg 3 (x.map innC), .vptr [fv]] (.bool (!q x)) := by
  refine PC.of okC Tryz.func262 rfl rfl (by kernel_rfl) (Nat.le_of_ble_eq_true rfl) (.bool _) fun h nx hnx => ?_
  show goC ctx _ _ (.fin (RetP _ _ _ _ _))
  try simp [-List.map_take, -List.map_drop, -List.map_tail, run_guard, run_guardD, resultsA, resA, Nat.add_assoc]
  repeat'
    first
    | done
    | ((first
        | (refine call_fv (hq) ?_)) <;> simp [-List.map_take, -List.map_drop, -List.map_tail, run_guard, run_guardD, resultsA, resA, Nat.add_assoc])
-- impl.all[[]impl.Ins]
theorem c_all_Prog {p : Bool} {pg : Bool} {xs : List (List Inn)} {q : (List Inn) → Bool} {fv : AV} (hf : IsF fv) (hq : ∀ x ∈ xs, FV ctx.P fv [.view pg 3 (x.map innC)] (.bool (q x))) :
    PC ctx.P 160 [.view p 1 (xs.map (prgV pg)), fv] (.bool (xs.all q)) := by
  refine PC.of okC Tryz.func160 rfl rfl (by kernel_rfl) (Nat.le_of_ble_eq_true rfl) (.bool _) fun h nx hnx => ?_
  show goC ctx _ _ (.fin (RetP _ _ _ _ _))
  have hc := c_ContainsFunc_Prog (p := p) (q := fun x => !q x) (xs := xs) (fv := .fn 262 [.vptr [fv]]) fun x hx => c_allf_Prog (hq x hx)
  cases hf
  all_goals simp
  · refine call_pcB (hc) (by first | exact .bool _ | exact .int _ _ | exact .str _) (by repeat' first | exact Bors.nil | refine Bors.cons ?_ ?_ | exact Bor.same _ | refine Bor.fn1 ?_ | refine Bor.bnd1 ?_ | refine Bor.agg1 ?_ | refine Bor.ptr0 (by first | (simp; done) | (simp; rfl) | assumption | (simp [*]; done)) ?_ | refine Bor.ref0 (by first | (simp; done) | (simp; rfl) | (simp [iv, bv]; done)) (by simp) (by simp)) ?_
    simp [resultsA, resA, List.all_eq_not_any_not]
  · refine call_pcB (hc) (by first | exact .bool _ | exact .int _ _ | exact .str _) (by repeat' first | exact Bors.nil | refine Bors.cons ?_ ?_ | exact Bor.same _ | refine Bor.fn1 ?_ | refine Bor.bnd1 ?_ | refine Bor.agg1 ?_ | refine Bor.ptr0 (by first | (simp; done) | (simp; rfl) | assumption | (simp [*]; done)) ?_ | refine Bor.ref0 (by first | (simp; done) | (simp; rfl) | (simp [iv, bv]; done)) (by simp) (by simp)) ?_
    simp [resultsA, resA, List.all_eq_not_any_not]






end Go.AE.Tryz
end

section
/- Contracts of the program's readers: slots, times, heaps, timers. -/
set_option linter.unusedSimpArgs false
set_option linter.unusedVariables false
set_option maxRecDepth 8000
set_option maxHeartbeats 2000000
namespace Go.AE.Tryz
open Go.Proofs

-- impl.SlotsOk$1
theorem c_SlotsOk1 {x : Int} : PC ctx.P 349 [.int .i64 x] (.bool (!inR x 0 1000000)) := by
  refine PC.of okC Tryz.func349 rfl rfl (by kernel_rfl) (Nat.le_of_ble_eq_true rfl) (.bool _) fun h nx hnx => ?_
  show goC ctx _ _ (.fin (RetP _ _ _ _ _))
  try simp [-List.map_take, -List.map_drop, -List.map_tail, run_guard, run_guardD, resultsA, resA, Nat.add_assoc]
  repeat'
    first
    | done
    | ((first
        | ((with_reducible show doCall _ _ _ 165 _ _); refine call_pc (c_within) ?_)) <;> simp [-List.map_take, -List.map_drop, -List.map_tail, run_guard, run_guardD, resultsA, resA, Nat.add_assoc])
-- impl.SlotsOk
theorem c_SlotsOk {F : Nat → Bool} {s : Slt} : PC ctx.P 276 [.agg (sltV F s)] (.bool (sltOk s)) := by
  refine PC.of okC Tryz.func276 rfl rfl (by kernel_rfl) (Nat.le_of_ble_eq_true rfl) (.bool _) fun h nx hnx => ?_
  show goC ctx _ _ (.fin (RetP _ _ _ _ _))
  try simp [-List.map_take, -List.map_drop, -List.map_tail, run_guard, run_guardD, resultsA, resA, Nat.add_assoc, sltV, sltOk]
  repeat'
    first
    | done
    | ((first
        | ((with_reducible show lenS _ _ _ _ _ _); refine lenS_slice rfl fun _ => ?_)
        | ((with_reducible show doCall _ _ _ 348 _ _); refine call_pc (c_size_int64) ?_)
        | ((with_reducible show doCall _ _ _ 165 _ _); refine call_pc (c_within) ?_)
        | ((with_reducible show doCall _ _ _ 268 _ _); refine call_pc (c_ContainsFunc_int64 (q := fun a => !inR a 0 1000000) (fun x _ => c_SlotsOk1)) ?_)) <;> simp [-List.map_take, -List.map_drop, -List.map_tail, run_guard, run_guardD, resultsA, resA, Nat.add_assoc, sltV, sltOk])
    | ((first | (with_reducible refine guardS_split ?_ ?_)) <;> intro qb <;> (have qp := qb; try simp only [psq] at qp) <;> simp [-List.map_take, -List.map_drop, -List.map_tail, run_guard, run_guardD, resultsA, resA, Nat.add_assoc, sltV, sltOk, qb])

-- (impl.Slots).used
theorem c_used {F : Nat → Bool} {s : Slt} : PC ctx.P 278 [.agg (sltV F s)] (.int .i64 (cntB id s.used)) := by
  refine PC.lim (n := s.used.length) (x := .agg (sltV F s)) (by simp) (.agg (x := .view (F 9) 1 (s.used.map bv)) (by simp [sltV]) (.here (by simp))) ⟨_, Tryz.func278, by kernel_rfl, by kernel_rfl⟩ fun hlim => ?_
  refine PC.of okC Tryz.func278 rfl rfl (by kernel_rfl) (Nat.le_of_ble_eq_true rfl) (.int _ _) fun h nx hnx => ?_
  show goC ctx _ _ (.fin (RetP _ _ _ _ _))
  try simp [-List.map_take, -List.map_drop, -List.map_tail, run_guard, run_guardD, resultsA, resA, Nat.add_assoc, sltV]
  repeat'
    first
    | done
    | ((first
        | ((with_reducible show lenS _ _ _ _ _ _); refine lenS_slice rfl fun _ => ?_)
        | ((with_reducible show iaddrS _ _ _ _ _ _ _); refine iaddr_map rfl omA omA ?_)) <;> simp [-List.map_take, -List.map_drop, -List.map_tail, run_guard, run_guardD, resultsA, resA, Nat.add_assoc, sltV])
    | ((first | (with_reducible refine condS_split ?_ ?_)) <;> intro qb <;> (have qp := qb; try simp only [psq] at qp) <;> simp [-List.map_take, -List.map_drop, -List.map_tail, run_guard, run_guardD, resultsA, resA, Nat.add_assoc, sltV, qb])
  refine go_upP [3, 5, 9, 10, 11, 12, 13, 14, 15, 16] (s.used.length) (fun (i : Nat) a => [(9, .int .i64 i), (3, .int .i64 a)]) (fun i_ a_ h_ _ => (fun i (a : Int) _ => a + cntB id (s.used.drop i) = cntB id s.used ∧ 0 ≤ a ∧ a ≤ i) i_ a_ h_) (0) (by simp) ?_ keep_rfl (Nat.le_refl _) ?_
  · simp
  · intro i a tm h' n' hle hJ hE hn' next hnx
    try dsimp only at hJ
    have hK : KeepB nx h' h := KeepB.sub hE keepA (by omega)
    simp [-List.map_take, -List.map_drop, -List.map_tail]
    try simp [-List.map_take, -List.map_drop, -List.map_tail, run_guard, run_guardD, resultsA, resA, Nat.add_assoc, bv]
    repeat'
      first
      | done
      | ((first
          | ((with_reducible show lenS _ _ _ _ _ _); refine lenS_slice rfl fun _ => ?_)
          | ((with_reducible show iaddrS _ _ _ _ _ _ _); refine iaddr_map rfl omA omA ?_)) <;> simp [-List.map_take, -List.map_drop, -List.map_tail, run_guard, run_guardD, resultsA, resA, Nat.add_assoc, bv])
      | ((first | (with_reducible refine condS_split ?_ ?_)) <;> intro qb <;> (have qp := qb; try simp only [psq] at qp) <;> simp [-List.map_take, -List.map_drop, -List.map_tail, run_guard, run_guardD, resultsA, resA, Nat.add_assoc, bv, qb])
    · rw [drop_gt (by omega)] at hJ
      refine hnx.go (a + 1) (by omega) (by simp [wrap_succ (i := i) (n := s.used.length) (by omega) hlim, i64_ok (x := a + 1) (by simp only [LIM] at hlim; omega)]) (by simp) keepA (by first | omega | (simp; omega)) ?_
      try dsimp only
      simp [cntB, qb] at hJ ⊢
      omega
    · rw [drop_gt (by omega)] at hJ
      refine hnx.go (a) (by omega) (by simp [wrap_succ (i := i) (n := s.used.length) (by omega) hlim]) (by simp) keepA (by first | omega | (simp; omega)) ?_
      try dsimp only
      simp [cntB, qb] at hJ ⊢
      omega
    · refine ⟨?_, by simp [hK]⟩
      rw [List.drop_eq_nil_of_le (by omega)] at hJ
      simp [cntB] at hJ ⊢
      omega

-- (impl.Slots).holds
theorem c_holds {F : Nat → Bool} {s : Slt} {x : Han} (hl : s.used.length = s.ages.length) : PC ctx.P 280 [.agg (sltV F s), .agg (hanC x)] (.bool (sltHolds s x)) := by
  refine PC.of okC Tryz.func280 rfl rfl (by kernel_rfl) (Nat.le_of_ble_eq_true rfl) (.bool _) fun h nx hnx => ?_
  show goC ctx _ _ (.fin (RetP _ _ _ _ _))
  try simp [-List.map_take, -List.map_drop, -List.map_tail, run_guard, run_guardD, resultsA, resA, Nat.add_assoc, sltV, hanC, iv, bv, sltHolds]
  repeat'
    first
    | done
    | ((first
        | ((with_reducible show iaddrS _ _ _ _ _ _ _); refine iaddr_map rfl omA omA ?_)
        | ((with_reducible show doCall _ _ _ 350 _ _); refine call_pc (c_isIn_int64) ?_)
        | (with_reducible refine go_draw (i := 1) [(0, [], []), (1, [], []), (2, [], []), (3, [], []), (4, [], []), (5, [], []), (6, [], []), (7, [], []), (8, [], []), (9, [], []), (10, [], []), (11, [], []), (12, [], []), (13, [], []), (14, [], []), (15, [], []), (16, [], []), (17, [], []), (18, [], []), (19, [], []), (20, [], []), (21, [], []), (22, [], []), (23, [], []), (24, [], [])] (by kernel_rfl) ?_)) <;> simp [-List.map_take, -List.map_drop, -List.map_tail, run_guard, run_guardD, resultsA, resA, Nat.add_assoc, sltV, hanC, iv, bv, sltHolds])
    | ((first | (with_reducible refine guardD_split ?_ ?_)) <;> intro qb <;> (have qp := qb; try simp only [psq] at qp) <;> simp [-List.map_take, -List.map_drop, -List.map_tail, run_guard, run_guardD, resultsA, resA, Nat.add_assoc, sltV, hanC, iv, bv, sltHolds, qb])

-- impl.IsDue
theorem c_IsDue {a b : Int} : PC ctx.P 84 [.int .i64 a, .int .i64 b] (.bool (isDue a b)) := by
  refine PC.of okC Tryz.func84 rfl rfl (by kernel_rfl) (Nat.le_of_ble_eq_true rfl) (.bool _) fun h nx hnx => ?_
  show goC ctx _ _ (.fin (RetP _ _ _ _ _))
  try simp [-List.map_take, -List.map_drop, -List.map_tail, run_guard, run_guardD, resultsA, resA, Nat.add_assoc, isDue, never]
  repeat'
    first
    | done
    | ((first | (with_reducible refine guardS_split ?_ ?_)) <;> intro qb <;> (have qp := qb; try simp only [psq] at qp) <;> simp [-List.map_take, -List.map_drop, -List.map_tail, run_guard, run_guardD, resultsA, resA, Nat.add_assoc, isDue, never, qb])

-- cmp.isNaN[int64]
theorem c_isNaN {a : Int} : PC ctx.P 385 [.int .i64 a] (.bool false) := by
  refine PC.of okC Tryz.func385 rfl rfl (by kernel_rfl) (Nat.le_of_ble_eq_true rfl) (.bool _) fun h nx hnx => ?_
  show goC ctx _ _ (.fin (RetP _ _ _ _ _))
  try simp [-List.map_take, -List.map_drop, -List.map_tail, run_guard, run_guardD, resultsA, resA, Nat.add_assoc]
-- cmp.Compare[int64]
theorem c_Compare {a b : Int} : PC ctx.P 383 [.int .i64 a, .int .i64 b] (.int .i64 (cmp2 a b)) := by
  refine PC.of okC Tryz.func383 rfl rfl (by kernel_rfl) (Nat.le_of_ble_eq_true rfl) (.int _ _) fun h nx hnx => ?_
  show goC ctx _ _ (.fin (RetP _ _ _ _ _))
  try simp [-List.map_take, -List.map_drop, -List.map_tail, run_guard, run_guardD, resultsA, resA, Nat.add_assoc, cmp2]
  repeat'
    first
    | done
    | ((first
        | ((with_reducible show doCall _ _ _ 385 _ _); refine call_pc (c_isNaN) ?_)) <;> simp [-List.map_take, -List.map_drop, -List.map_tail, run_guard, run_guardD, resultsA, resA, Nat.add_assoc, cmp2])
    | ((first | (with_reducible refine condS_split ?_ ?_)) <;> intro qb <;> (have qp := qb; try simp only [psq] at qp) <;> simp [-List.map_take, -List.map_drop, -List.map_tail, run_guard, run_guardD, resultsA, resA, Nat.add_assoc, cmp2, qb])
  all_goals omega
-- cmp.Or[int]
theorem c_Or {p : Bool} {xs : List Int} : PC ctx.P 382 [.view p 1 (xs.map iv)] (.int .i64 (orI xs)) := by
  refine PC.lim (n := xs.length) (x := .view p 1 (xs.map iv)) (by simp) (.here (by simp)) ⟨_, Tryz.func382, by kernel_rfl, by kernel_rfl⟩ fun hlim => ?_
  refine PC.of okC Tryz.func382 rfl rfl (by kernel_rfl) (Nat.le_of_ble_eq_true rfl) (.int _ _) fun h nx hnx => ?_
  show goC ctx _ _ (.fin (RetP _ _ _ _ _))
  try simp [-List.map_take, -List.map_drop, -List.map_tail, run_guard, run_guardD, resultsA, resA, Nat.add_assoc]
  repeat'
    first
    | done
    | ((first
        | ((with_reducible show lenS _ _ _ _ _ _); refine lenS_slice rfl fun _ => ?_)
        | ((with_reducible show iaddrS _ _ _ _ _ _ _); refine iaddr_map rfl omA omA ?_)) <;> simp [-List.map_take, -List.map_drop, -List.map_tail, run_guard, run_guardD, resultsA, resA, Nat.add_assoc])
    | ((first | (with_reducible refine condS_split ?_ ?_)) <;> intro qb <;> (have qp := qb; try simp only [psq] at qp) <;> simp [-List.map_take, -List.map_drop, -List.map_tail, run_guard, run_guardD, resultsA, resA, Nat.add_assoc, qb])
  refine go_upP [2, 5, 8, 9, 10, 11, 12, 13, 14, 15, 16] (xs.length) (fun (i : Nat) a => [(8, .int .i64 i)]) (fun i_ a_ h_ _ => (fun i (_ : Unit) _ => orI (xs.drop i) = orI xs) i_ a_ h_) (()) (by simp) ?_ keep_rfl (Nat.le_refl _) ?_
  · simp
  · intro i a tm h' n' hle hJ hE hn' next hnx
    try dsimp only at hJ
    have hK : KeepB nx h' h := KeepB.sub hE keepA (by omega)
    simp [-List.map_take, -List.map_drop, -List.map_tail]
    try simp [-List.map_take, -List.map_drop, -List.map_tail, run_guard, run_guardD, resultsA, resA, Nat.add_assoc, iv]
    repeat'
      first
      | done
      | ((first
          | ((with_reducible show lenS _ _ _ _ _ _); refine lenS_slice rfl fun _ => ?_)
          | ((with_reducible show iaddrS _ _ _ _ _ _ _); refine iaddr_map rfl omA omA ?_)) <;> simp [-List.map_take, -List.map_drop, -List.map_tail, run_guard, run_guardD, resultsA, resA, Nat.add_assoc, iv])
      | ((first | (with_reducible refine condS_split ?_ ?_)) <;> intro qb <;> (have qp := qb; try simp only [psq] at qp) <;> simp [-List.map_take, -List.map_drop, -List.map_tail, run_guard, run_guardD, resultsA, resA, Nat.add_assoc, iv, qb])
    all_goals
      first
      | (have hlt : i < xs.length := (by first | omega | (simp at *; omega))
         rw [drop_gt hlt] at hJ
         first
         | (refine hnx.go (()) ?_ ?_ ?_ ?_ ?_ ?_; omega; (simp [wrap_succ hlt hlim]); (simp); exact keepA; (first | omega | (simp; omega)); (try dsimp only); clear hnx; first | ((try simp only [List.drop_length, Int.toNat_natCast, orI] at hJ ⊢); grind) | (simp_all [orI]; done) | (simp_all; omega))
         | (refine ⟨?_, keepA⟩; clear hnx; first | ((try simp only [List.drop_length, Int.toNat_natCast, orI] at hJ ⊢); grind) | (simp_all [orI]; done) | (simp_all; omega)))
      | (obtain rfl : i = xs.length := (by first | omega | (simp at *; omega))
         refine ⟨?_, keepA⟩; clear hnx; first | ((try simp only [List.drop_length, Int.toNat_natCast, orI] at hJ ⊢); grind) | (simp_all [orI]; done) | (simp_all; omega))
end Go.AE.Tryz
end
