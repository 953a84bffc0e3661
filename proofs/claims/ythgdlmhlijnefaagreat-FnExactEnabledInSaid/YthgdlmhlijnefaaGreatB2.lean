/- Contracts of the seat's functions: what each answers, for all arguments. -/
import Derived.Test.YthgdlmhlijnefaaGreatB1
import Derived.Test.YthgdlmhlijnefaaGreatA3
section
/- Contracts of the reference's readers: heaps, timers, trees, events. -/
set_option linter.unusedSimpArgs false
set_option linter.unusedVariables false
set_option maxRecDepth 8000
set_option maxHeartbeats 4000000
namespace Go.AE.Tryz
open Go.Proofs

-- spec.l3Ahead
theorem s_l3Ahead {a b : Twg} : PC ctx.P 379 [.agg (twgC a), .agg (twgC b)] (.bool (decide (twgCmp a b < 0))) := by
  rw [twgCmp_lt]
  refine PC.of okC Tryz.func379 rfl rfl (by kernel_rfl) (Nat.le_of_ble_eq_true rfl) (.bool _) fun h nx hnx => ?_
  show goC ctx _ _ (.fin (RetP _ _ _ _ _))
  try simp [-List.map_take, -List.map_drop, -List.map_tail, run_guard, run_guardD, resultsA, resA, Nat.add_assoc, twgC]
  repeat'
    first
    | done
    | ((first | (with_reducible refine guardS_split ?_ ?_)) <;> intro qb <;> (have qp := qb; try simp only [psq] at qp) <;> simp [-List.map_take, -List.map_drop, -List.map_tail, run_guard, run_guardD, resultsA, resA, Nat.add_assoc, twgC, qb])
  all_goals (try clear hnx)
  all_goals first | (simp_all []; done) | (simp_all []; omega) | (rw [Bool.eq_iff_iff]; simp_all []; done) | (rw [Bool.eq_iff_iff]; simp_all []; omega) | omega | (simp only []; grind) | grind
-- spec.l3Parts
theorem s_l3Parts {p : Bool} {l : List Twg} (hp : 0 < l.length) (h0 : 0 ≤ (gt l 0).lefts) (h1 : (gt l 0).lefts < l.length) :
    PC ctx.P 378 [.view p 3 (l.map twgC)] (.tup [.view p 3 ((l.tail.take (gt l 0).lefts.toNat).map twgC), .view p 3 ((l.drop ((gt l 0).lefts.toNat + 1)).map twgC), .bool true]) := by
  refine PC.lim (n := l.length) (x := .view p 3 (l.map twgC)) (by simp) (.here (by simp)) ⟨_, Tryz.func378, by kernel_rfl, by kernel_rfl⟩ fun hlim => ?_
  simp only [LIM] at hlim
  have q1 : (1 + (gt l 0).lefts).toNat = (gt l 0).lefts.toNat + 1 := by omega
  have q2 : inR (gt l 0).lefts 0 ((l.length : Int) - 1) = true := by rw [inR_true]; omega
  refine PC.of okC Tryz.func378 rfl rfl (by kernel_rfl) (Nat.le_of_ble_eq_true rfl) (.tup _ (by simp [-List.map_take, -List.map_drop]; exact ⟨.vmap twgC_fz, .vmap twgC_fz⟩)) fun h nx hnx => ?_
  show goC ctx _ _ (.fin (RetP _ _ _ _ _))
  try simp [-List.map_take, -List.map_drop, -List.map_tail, run_guard, run_guardD, resultsA, resA, Nat.add_assoc, twgC, i64_ok (x := 1 + (gt l 0).lefts) (by omega), i64_ok (x := (l.length : Int) - 1) (by omega), q1, q2]
  repeat'
    first
    | done
    | ((first
        | ((with_reducible show lenS _ _ _ _ _ _); refine lenS_slice rfl fun _ => ?_)
        | ((with_reducible show iaddrS _ _ _ _ _ _ _); refine iaddr_map rfl omA omA ?_)
        | ((with_reducible show sliceS _ _ _ _ _ _ _ _); refine slice_to rfl omA omA ?_)
        | ((with_reducible show sliceS _ _ _ _ _ _ _ _); refine slice_from rfl omA omA ?_)
        | ((with_reducible show sliceS _ _ _ _ _ _ _ _); refine slice_mid rfl omA omA omA ?_)
        | ((with_reducible show sliceI _ _ _ _ _ _ _ _ _ _ _); refine sliceI_to rfl omA omA ?_)
        | ((with_reducible show sliceI _ _ _ _ _ _ _ _ _ _ _); refine sliceI_from rfl omA omA ?_)
        | ((with_reducible show sliceI _ _ _ _ _ _ _ _ _ _ _); refine sliceI_mid rfl omA omA omA ?_)
        | ((with_reducible show doCall _ _ _ 252 _ _); refine call_pc (s_l1In) ?_)
        | (with_reducible refine go_draw (i := 4) [(0, [], []), (1, [], []), (2, [], []), (3, [], []), (4, [], []), (5, [], []), (6, [], []), (7, [], []), (8, [], []), (9, [], []), (10, [], [])] (by kernel_rfl) ?_)) <;> simp [-List.map_take, -List.map_drop, -List.map_tail, run_guard, run_guardD, resultsA, resA, Nat.add_assoc, twgC, i64_ok (x := 1 + (gt l 0).lefts) (by omega), i64_ok (x := (l.length : Int) - 1) (by omega), q1, q2])
    | ((first | (with_reducible refine condS_split ?_ ?_)) <;> intro qb <;> (have qp := qb; try simp only [psq] at qp) <;> simp [-List.map_take, -List.map_drop, -List.map_tail, run_guard, run_guardD, resultsA, resA, Nat.add_assoc, twgC, i64_ok (x := 1 + (gt l 0).lefts) (by omega), i64_ok (x := (l.length : Int) - 1) (by omega), q1, q2, qb])
theorem s_l3PartsN {p : Bool} {l : List Twg} (hp : 0 < l.length) (h0 : ¬ (0 ≤ (gt l 0).lefts ∧ (gt l 0).lefts < l.length)) :
    PC ctx.P 378 [.view p 3 (l.map twgC)] (.tup [.view true 3 [], .view true 3 [], .bool false]) := by
  refine PC.lim (n := l.length) (x := .view p 3 (l.map twgC)) (by simp) (.here (by simp)) ⟨_, Tryz.func378, by kernel_rfl, by kernel_rfl⟩ fun hlim => ?_
  simp only [LIM] at hlim
  have q2 : inR (gt l 0).lefts 0 ((l.length : Int) - 1) = false := by rw [inR_false]; omega
  refine PC.of okC Tryz.func378 rfl rfl (by kernel_rfl) (Nat.le_of_ble_eq_true rfl) (.tup _ (by simp; exact .view' (by simp))) fun h nx hnx => ?_
  show goC ctx _ _ (.fin (RetP _ _ _ _ _))
  try simp [-List.map_take, -List.map_drop, -List.map_tail, run_guard, run_guardD, resultsA, resA, Nat.add_assoc, twgC, i64_ok (x := (l.length : Int) - 1) (by omega), q2]
  repeat'
    first
    | done
    | ((first
        | ((with_reducible show lenS _ _ _ _ _ _); refine lenS_slice rfl fun _ => ?_)
        | ((with_reducible show iaddrS _ _ _ _ _ _ _); refine iaddr_map rfl omA omA ?_)
        | ((with_reducible show sliceS _ _ _ _ _ _ _ _); refine slice_to rfl omA omA ?_)
        | ((with_reducible show sliceS _ _ _ _ _ _ _ _); refine slice_from rfl omA omA ?_)
        | ((with_reducible show sliceS _ _ _ _ _ _ _ _); refine slice_mid rfl omA omA omA ?_)
        | ((with_reducible show sliceI _ _ _ _ _ _ _ _ _ _ _); refine sliceI_to rfl omA omA ?_)
        | ((with_reducible show sliceI _ _ _ _ _ _ _ _ _ _ _); refine sliceI_from rfl omA omA ?_)
        | ((with_reducible show sliceI _ _ _ _ _ _ _ _ _ _ _); refine sliceI_mid rfl omA omA omA ?_)
        | ((with_reducible show doCall _ _ _ 252 _ _); refine call_pc (s_l1In) ?_)
        | (with_reducible refine go_draw (i := 4) [(0, [], []), (1, [], []), (2, [], []), (3, [], []), (4, [], []), (5, [], []), (6, [], []), (7, [], []), (8, [], []), (9, [], []), (10, [], [])] (by kernel_rfl) ?_)) <;> simp [-List.map_take, -List.map_drop, -List.map_tail, run_guard, run_guardD, resultsA, resA, Nat.add_assoc, twgC, i64_ok (x := (l.length : Int) - 1) (by omega), q2])
    | ((first | (with_reducible refine condS_split ?_ ?_)) <;> intro qb <;> (have qp := qb; try simp only [psq] at qp) <;> simp [-List.map_take, -List.map_drop, -List.map_tail, run_guard, run_guardD, resultsA, resA, Nat.add_assoc, twgC, i64_ok (x := (l.length : Int) - 1) (by omega), q2, qb])
-- spec.l3Rank
theorem s_l3RankN {p : Bool} : ∀ (n : Nat) (l : List Twg), l.length ≤ n → PC ctx.P 359 [.view p 3 (l.map twgC)] (.int .i64 (rkI l)) := by
  intro n
  induction n with
  | zero =>
    intro l hl
    obtain rfl : l = [] := by simpa using hl
    refine PC.of okC Tryz.func359 rfl rfl (by kernel_rfl) (Nat.le_of_ble_eq_true rfl) (.int _ _) fun h nx hnx => ?_
    show goC ctx _ _ (.fin (RetP _ _ _ _ _))
    try simp [-List.map_take, -List.map_drop, -List.map_tail, run_guard, run_guardD, resultsA, resA, Nat.add_assoc, rkI_nil]
    repeat'
      first
      | done
      | ((first
          | ((with_reducible show lenS _ _ _ _ _ _); refine lenS_slice rfl fun _ => ?_)
          | ((with_reducible show iaddrS _ _ _ _ _ _ _); refine iaddr_map rfl omA omA ?_)
          | (with_reducible refine go_draw (i := 4) [(0, [], []), (1, [], []), (2, [], []), (3, [], []), (4, [], []), (5, [], []), (6, [], []), (7, [], []), (8, [], []), (9, [], []), (10, [], []), (11, [], []), (12, [], []), (13, [], []), (14, [], []), (15, [], []), (16, [], []), (17, [], []), (18, [], []), (19, [], []), (20, [], []), (21, [], []), (22, [], []), (23, [], []), (24, [], []), (25, [], []), (26, [], []), (27, [], []), (28, [], []), (29, [], []), (30, [], []), (31, [], [])] (by kernel_rfl) ?_)) <;> simp [-List.map_take, -List.map_drop, -List.map_tail, run_guard, run_guardD, resultsA, resA, Nat.add_assoc, rkI_nil])
      | ((first | (with_reducible refine guardD_split ?_ ?_) | (with_reducible refine guardS_split ?_ ?_) | (with_reducible refine condS_split ?_ ?_)) <;> intro qb <;> (have qp := qb; try simp only [psq] at qp) <;> simp [-List.map_take, -List.map_drop, -List.map_tail, run_guard, run_guardD, resultsA, resA, Nat.add_assoc, rkI_nil, qb])
  | succ n ih =>
    intro l hl
    refine PC.lim (n := l.length) (x := .view p 3 (l.map twgC)) (by simp) (.here (by simp)) ⟨_, Tryz.func359, by kernel_rfl, by kernel_rfl⟩ fun hlim => ?_
    by_cases hp : 0 < l.length
    · by_cases hb : 0 ≤ (gt l 0).lefts ∧ (gt l 0).lefts < l.length
      · have i1 := ih (l.tail.take (gt l 0).lefts.toNat) (by simp; omega)
        have i2 := ih (l.drop ((gt l 0).lefts.toNat + 1)) (by simp; omega)
        have e := rkI_step hp hb.1 hb.2
        have hr := rkI_le (l.drop ((gt l 0).lefts.toNat + 1))
        simp only [LIM] at hlim
        simp only [List.length_drop] at hr
        refine PC.of okC Tryz.func359 rfl rfl (by kernel_rfl) (Nat.le_of_ble_eq_true rfl) (.int _ _) fun h nx hnx => ?_
        show goC ctx _ _ (.fin (RetP _ _ _ _ _))
        try simp [-List.map_take, -List.map_drop, -List.map_tail, run_guard, run_guardD, resultsA, resA, Nat.add_assoc, twgC, i64_ok (x := rkI (l.drop ((gt l 0).lefts.toNat + 1)) + 1) (by omega)]
        repeat'
          first
          | done
          | ((first
              | ((with_reducible show lenS _ _ _ _ _ _); refine lenS_slice rfl fun _ => ?_)
              | ((with_reducible show iaddrS _ _ _ _ _ _ _); refine iaddr_map rfl omA omA ?_)
              | ((with_reducible show doCall _ _ _ 378 _ _); refine call_pc (s_l3Parts hp hb.1 hb.2) ?_)
              | ((with_reducible show doCall _ _ _ 379 _ _); refine call_pc (s_l3Ahead (a := gt l 0)) ?_)
              | (refine call_pc (i1) ?_)
              | (refine call_pc (i2) ?_)
              | (with_reducible refine go_draw (i := 4) [(0, [], []), (1, [], []), (2, [], []), (3, [], []), (4, [], []), (5, [], []), (6, [], []), (7, [], []), (8, [], []), (9, [], []), (10, [], []), (11, [], []), (12, [], []), (13, [], []), (14, [], []), (15, [], []), (16, [], []), (17, [], []), (18, [], []), (19, [], []), (20, [], []), (21, [], []), (22, [], []), (23, [], []), (24, [], []), (25, [], []), (26, [], []), (27, [], []), (28, [], []), (29, [], []), (30, [], []), (31, [], [])] (by kernel_rfl) ?_)) <;> simp [-List.map_take, -List.map_drop, -List.map_tail, run_guard, run_guardD, resultsA, resA, Nat.add_assoc, twgC, i64_ok (x := rkI (l.drop ((gt l 0).lefts.toNat + 1)) + 1) (by omega)])
          | ((first | (with_reducible refine guardD_split ?_ ?_) | (with_reducible refine guardS_split ?_ ?_) | (with_reducible refine condS_split ?_ ?_)) <;> intro qb <;> (have qp := qb; try simp only [psq] at qp) <;> simp [-List.map_take, -List.map_drop, -List.map_tail, run_guard, run_guardD, resultsA, resA, Nat.add_assoc, twgC, i64_ok (x := rkI (l.drop ((gt l 0).lefts.toNat + 1)) + 1) (by omega), qb])
        all_goals (clear ih i1 i2 hnx; rw [e]; grind)
      · have e := rkI_bad hp hb
        refine PC.of okC Tryz.func359 rfl rfl (by kernel_rfl) (Nat.le_of_ble_eq_true rfl) (.int _ _) fun h nx hnx => ?_
        show goC ctx _ _ (.fin (RetP _ _ _ _ _))
        try simp [-List.map_take, -List.map_drop, -List.map_tail, run_guard, run_guardD, resultsA, resA, Nat.add_assoc, e]
        repeat'
          first
          | done
          | ((first
              | ((with_reducible show lenS _ _ _ _ _ _); refine lenS_slice rfl fun _ => ?_)
              | ((with_reducible show iaddrS _ _ _ _ _ _ _); refine iaddr_map rfl omA omA ?_)
              | ((with_reducible show doCall _ _ _ 378 _ _); refine call_pc (s_l3PartsN hp hb) ?_)
              | (with_reducible refine go_draw (i := 4) [(0, [], []), (1, [], []), (2, [], []), (3, [], []), (4, [], []), (5, [], []), (6, [], []), (7, [], []), (8, [], []), (9, [], []), (10, [], []), (11, [], []), (12, [], []), (13, [], []), (14, [], []), (15, [], []), (16, [], []), (17, [], []), (18, [], []), (19, [], []), (20, [], []), (21, [], []), (22, [], []), (23, [], []), (24, [], []), (25, [], []), (26, [], []), (27, [], []), (28, [], []), (29, [], []), (30, [], []), (31, [], [])] (by kernel_rfl) ?_)) <;> simp [-List.map_take, -List.map_drop, -List.map_tail, run_guard, run_guardD, resultsA, resA, Nat.add_assoc, e])
          | ((first | (with_reducible refine guardD_split ?_ ?_) | (with_reducible refine guardS_split ?_ ?_) | (with_reducible refine condS_split ?_ ?_)) <;> intro qb <;> (have qp := qb; try simp only [psq] at qp) <;> simp [-List.map_take, -List.map_drop, -List.map_tail, run_guard, run_guardD, resultsA, resA, Nat.add_assoc, e, qb])
        all_goals omega
    · obtain rfl : l = [] := by cases l <;> simp at hp ⊢
      refine PC.of okC Tryz.func359 rfl rfl (by kernel_rfl) (Nat.le_of_ble_eq_true rfl) (.int _ _) fun h nx hnx => ?_
      show goC ctx _ _ (.fin (RetP _ _ _ _ _))
      try simp [-List.map_take, -List.map_drop, -List.map_tail, run_guard, run_guardD, resultsA, resA, Nat.add_assoc, rkI_nil]
      repeat'
        first
        | done
        | ((first
            | ((with_reducible show lenS _ _ _ _ _ _); refine lenS_slice rfl fun _ => ?_)
            | ((with_reducible show iaddrS _ _ _ _ _ _ _); refine iaddr_map rfl omA omA ?_)
            | (with_reducible refine go_draw (i := 4) [(0, [], []), (1, [], []), (2, [], []), (3, [], []), (4, [], []), (5, [], []), (6, [], []), (7, [], []), (8, [], []), (9, [], []), (10, [], []), (11, [], []), (12, [], []), (13, [], []), (14, [], []), (15, [], []), (16, [], []), (17, [], []), (18, [], []), (19, [], []), (20, [], []), (21, [], []), (22, [], []), (23, [], []), (24, [], []), (25, [], []), (26, [], []), (27, [], []), (28, [], []), (29, [], []), (30, [], []), (31, [], [])] (by kernel_rfl) ?_)) <;> simp [-List.map_take, -List.map_drop, -List.map_tail, run_guard, run_guardD, resultsA, resA, Nat.add_assoc, rkI_nil])
        | ((first | (with_reducible refine guardD_split ?_ ?_) | (with_reducible refine guardS_split ?_ ?_) | (with_reducible refine condS_split ?_ ?_)) <;> intro qb <;> (have qp := qb; try simp only [psq] at qp) <;> simp [-List.map_take, -List.map_drop, -List.map_tail, run_guard, run_guardD, resultsA, resA, Nat.add_assoc, rkI_nil, qb])
theorem s_l3Rank {p : Bool} {l : List Twg} : PC ctx.P 359 [.view p 3 (l.map twgC)] (.int .i64 (rkI l)) := s_l3RankN _ _ (Nat.le_refl _)
-- spec.l3Twice
theorem s_l3Twice {p : Bool} {l : List Twg} : PC ctx.P 358 [.view p 3 (l.map twgC)] (.bool (!seqsOk l)) := by
  refine PC.lim (n := l.length) (x := .view p 3 (l.map twgC)) (by simp) (.here (by simp)) ⟨_, Tryz.func358, by kernel_rfl, by kernel_rfl⟩ fun hlim => ?_
  refine PC.of okC Tryz.func358 rfl rfl (by kernel_rfl) (Nat.le_of_ble_eq_true rfl) (.bool _) fun h nx hnx => ?_
  show goC ctx _ _ (.fin (RetP _ _ _ _ _))
  try simp [-List.map_take, -List.map_drop, -List.map_tail, run_guard, run_guardD, resultsA, resA, Nat.add_assoc]
  repeat'
    first
    | done
    | ((first
        | ((with_reducible show lenS _ _ _ _ _ _); refine lenS_slice rfl fun _ => ?_)
        | ((with_reducible show iaddrS _ _ _ _ _ _ _); refine iaddr_map rfl omA omA ?_)
        | (with_reducible refine go_draw (i := 7) [(0, [], []), (1, [], []), (2, [], []), (3, [], []), (4, [], []), (5, [], []), (6, [], []), (7, [], []), (8, [], []), (9, [], []), (10, [], [])] (by kernel_rfl) ?_)) <;> simp [-List.map_take, -List.map_drop, -List.map_tail, run_guard, run_guardD, resultsA, resA, Nat.add_assoc])
    | ((first | (with_reducible refine condS_split ?_ ?_)) <;> intro qb <;> (have qp := qb; try simp only [psq] at qp) <;> simp [-List.map_take, -List.map_drop, -List.map_tail, run_guard, run_guardD, resultsA, resA, Nat.add_assoc, qb])
  refine go_upP [2, 3, 4, 5, 6, 7, 8, 9, 10, 11, 12, 13, 14, 15, 16, 17, 18, 19, 20, 21, 22, 23, 24, 25, 26] (l.length) (fun (i : Nat) a => [(3, .int .i64 i)]) (fun i_ a_ h_ _ => (fun i (_ : Unit) _ => allI (fun i x => !(decide (0 ≤ seqAt (l.take i.toNat) x.seq))) (l.drop i) i = seqsOk l) i_ a_ h_) (()) (by simp) ?_ keep_rfl (Nat.le_refl _) ?_
  · simp [seqsOk]
  · intro i a tm h' n' hle hJ hE hn' next hnx
    try dsimp only at hJ
    have hK : KeepB nx h' h := KeepB.sub hE keepA (by omega)
    simp [-List.map_take, -List.map_drop, -List.map_tail]
    try simp [-List.map_take, -List.map_drop, -List.map_tail, run_guard, run_guardD, resultsA, resA, Nat.add_assoc]
    repeat'
      first
      | done
      | ((first
          | ((with_reducible show lenS _ _ _ _ _ _); refine lenS_slice rfl fun _ => ?_)
          | ((with_reducible show iaddrS _ _ _ _ _ _ _); refine iaddr_map rfl omA omA ?_)
          | (with_reducible refine go_draw (i := 7) [(0, [], []), (1, [], []), (2, [], []), (3, [], []), (4, [], []), (5, [], []), (6, [], []), (7, [], []), (8, [], []), (9, [], []), (10, [], [])] (by kernel_rfl) ?_)) <;> simp [-List.map_take, -List.map_drop, -List.map_tail, run_guard, run_guardD, resultsA, resA, Nat.add_assoc])
      | ((first | (with_reducible refine condS_split ?_ ?_)) <;> intro qb <;> (have qp := qb; try simp only [psq] at qp) <;> simp [-List.map_take, -List.map_drop, -List.map_tail, run_guard, run_guardD, resultsA, resA, Nat.add_assoc, qb])
    · refine go_upP [2, 4, 11, 12, 13, 14, 15, 16, 17, 18, 19, 20, 21, 22, 23, 24, 25, 26] (i) (fun (i : Nat) a => [(4, .int .i64 i)]) (fun i_ a_ h_ _ => (fun j (_ : Unit) _ => idxI (fun y => y.seq == (gt l (i : Int)).seq) ((l.take i).drop j) j = seqAt (l.take i) (gt l (i : Int)).seq) i_ a_ h_) (()) (by simp) ?_ keep_rfl (Nat.le_refl _) ?_
      · simp [seqAt]
      · intro j b tm2 h2 n2 hle2 hJ2 hE2 hn2 next2 hnx2
        try dsimp only at hJ2
        have hK2 : KeepB nx h2 h := KeepB.sub hE2 keepA (by omega)
        simp [-List.map_take, -List.map_drop, -List.map_tail]
        try simp [-List.map_take, -List.map_drop, -List.map_tail, run_guard, run_guardD, resultsA, resA, Nat.add_assoc, twgC]
        repeat'
          first
          | done
          | ((first
              | ((with_reducible show lenS _ _ _ _ _ _); refine lenS_slice rfl fun _ => ?_)
              | ((with_reducible show iaddrS _ _ _ _ _ _ _); refine iaddr_map rfl omA omA ?_)
              | (with_reducible refine go_draw (i := 7) [(0, [], []), (1, [], []), (2, [], []), (3, [], []), (4, [], []), (5, [], []), (6, [], []), (7, [], []), (8, [], []), (9, [], []), (10, [], [])] (by kernel_rfl) ?_)) <;> simp [-List.map_take, -List.map_drop, -List.map_tail, run_guard, run_guardD, resultsA, resA, Nat.add_assoc, twgC])
          | ((first | (with_reducible refine condS_split ?_ ?_)) <;> intro qb <;> (have qp := qb; try simp only [psq] at qp) <;> simp [-List.map_take, -List.map_drop, -List.map_tail, run_guard, run_guardD, resultsA, resA, Nat.add_assoc, twgC, qb])
        · have r := idx_here (by omega) (by omega) hJ2 (by simp; omega)
          exact ⟨seqs_false (by omega) hJ (by omega), keepA⟩
        · refine hnx2.go () (by omega) (by simp [wrap_succ (show j < l.length by omega) hlim]) (by simp) keepA (by first | omega | (simp; omega)) ?_
          exact idx_on (by omega) (by omega) hJ2 (by simp; omega)
        · have r := idx_end (by omega) hJ2
          refine hnx.go () (by omega) (by simp [wrap_succ (show i < l.length by omega) hlim]) (by simp) keepA (by first | omega | (simp; omega)) ?_
          exact seqs_next (by omega) hJ (by omega)
    · refine ⟨?_, keepA⟩
      rw [List.drop_eq_nil_of_le (by omega)] at hJ
      exact hJ.symm
-- spec.HeapOk
theorem s_HeapOk {p : Bool} {l : List Twg} : PC ctx.P 307 [.view p 3 (l.map twgC)] (.bool (heapOk l)) := by
  rw [heapOk_eq]
  refine PC.of okC Tryz.func307 rfl rfl (by kernel_rfl) (Nat.le_of_ble_eq_true rfl) (.bool _) fun h nx hnx => ?_
  show goC ctx _ _ (.fin (RetP _ _ _ _ _))
  try simp [-List.map_take, -List.map_drop, -List.map_tail, run_guard, run_guardD, resultsA, resA, Nat.add_assoc]
  repeat'
    first
    | done
    | ((first
        | ((with_reducible show lenS _ _ _ _ _ _); refine lenS_slice rfl fun _ => ?_)
        | ((with_reducible show doCall _ _ _ 358 _ _); refine call_pc (s_l3Twice) ?_)
        | ((with_reducible show doCall _ _ _ 359 _ _); refine call_pc (s_l3Rank) ?_)) <;> simp [-List.map_take, -List.map_drop, -List.map_tail, run_guard, run_guardD, resultsA, resA, Nat.add_assoc])
    | ((first | (with_reducible refine guardS_split ?_ ?_)) <;> intro qb <;> (have qp := qb; try simp only [psq] at qp) <;> simp [-List.map_take, -List.map_drop, -List.map_tail, run_guard, run_guardD, resultsA, resA, Nat.add_assoc, qb])
  all_goals (try clear hnx)
  all_goals first | (simp_all []; done) | (simp_all []; omega) | (rw [Bool.eq_iff_iff]; simp_all []; done) | (rw [Bool.eq_iff_iff]; simp_all []; omega) | omega | (simp only []; grind) | grind
-- spec.l4At
theorem s_l4At {F : Nat → Bool} {t : Tms} {s : Int} : PC ctx.P 234 [.agg (tmsV F t), .int .i64 s] (.int .i64 (tmsAt t.list s)) := by
  refine PC.lim (n := t.list.length) (x := .agg (tmsV F t)) (by simp) (.agg (x := .view (F 7) 5 (t.list.map tmrC)) (by simp [tmsV]) (.here (by simp))) ⟨_, Tryz.func234, by kernel_rfl, by kernel_rfl⟩ fun hlim => ?_
  refine PC.of okC Tryz.func234 rfl rfl (by kernel_rfl) (Nat.le_of_ble_eq_true rfl) (.int _ _) fun h nx hnx => ?_
  show goC ctx _ _ (.fin (RetP _ _ _ _ _))
  try simp [-List.map_take, -List.map_drop, -List.map_tail, run_guard, run_guardD, resultsA, resA, Nat.add_assoc, tmsV]
  repeat'
    first
    | done
    | ((first
        | ((with_reducible show lenS _ _ _ _ _ _); refine lenS_slice rfl fun _ => ?_)
        | ((with_reducible show iaddrS _ _ _ _ _ _ _); refine iaddr_map rfl omA omA ?_)) <;> simp [-List.map_take, -List.map_drop, -List.map_tail, run_guard, run_guardD, resultsA, resA, Nat.add_assoc, tmsV])
    | ((first | (with_reducible refine condS_split ?_ ?_)) <;> intro qb <;> (have qp := qb; try simp only [psq] at qp) <;> simp [-List.map_take, -List.map_drop, -List.map_tail, run_guard, run_guardD, resultsA, resA, Nat.add_assoc, tmsV, qb])
  refine go_upP [4, 5, 6, 7, 8, 9, 10, 11, 12, 13, 14, 15, 16, 17, 18, 19, 20, 21] (t.list.length) (fun (i : Nat) a => [(5, .int .i64 i)]) (fun i_ a_ h_ _ => (fun i (_ : Unit) _ => idxI (fun x => x.seq == s) (t.list.drop i) i = tmsAt t.list s) i_ a_ h_) (()) (by simp) ?_ keep_rfl (Nat.le_refl _) ?_
  · simp [tmsAt]
  · intro i a tm h' n' hle hJ hE hn' next hnx
    try dsimp only at hJ
    have hK : KeepB nx h' h := KeepB.sub hE keepA (by omega)
    simp [-List.map_take, -List.map_drop, -List.map_tail]
    have e1 : h' (nx) = some (.obj (tmsV F t)) := by have := hE (nx) (by omega); simpa [tmsV] using this
    have e1n : ∀ k, ((nx) = n' + k) = False := fun k => by simp only [eq_iff_iff, iff_false]; omega
    have e1m : ((nx) = n') = False := by simp only [eq_iff_iff, iff_false]; omega
    try simp [-List.map_take, -List.map_drop, -List.map_tail, run_guard, run_guardD, resultsA, resA, Nat.add_assoc, tmsV, tmrC, e1, e1n, e1m]
    repeat'
      first
      | done
      | ((first
          | ((with_reducible show lenS _ _ _ _ _ _); refine lenS_slice rfl fun _ => ?_)
          | ((with_reducible show iaddrS _ _ _ _ _ _ _); refine iaddr_map rfl omA omA ?_)) <;> simp [-List.map_take, -List.map_drop, -List.map_tail, run_guard, run_guardD, resultsA, resA, Nat.add_assoc, tmsV, tmrC, e1, e1n, e1m])
      | ((first | (with_reducible refine condS_split ?_ ?_)) <;> intro qb <;> (have qp := qb; try simp only [psq] at qp) <;> simp [-List.map_take, -List.map_drop, -List.map_tail, run_guard, run_guardD, resultsA, resA, Nat.add_assoc, tmsV, tmrC, e1, e1n, e1m, qb])
    all_goals
      first
      | (have hlt : i < t.list.length := (by first | omega | (simp at *; omega))
         rw [drop_gt hlt] at hJ
         first
         | (refine hnx.go (()) ?_ ?_ ?_ ?_ ?_ ?_; omega; (simp [wrap_succ hlt hlim]); (simp); exact keepA; (first | omega | (simp; omega)); (try dsimp only); clear hnx; first | ((try simp only [List.drop_length, Int.toNat_natCast, idxI] at hJ ⊢); grind) | (simp_all [idxI]; done) | (simp_all; omega))
         | (refine ⟨?_, keepA⟩; clear hnx; first | ((try simp only [List.drop_length, Int.toNat_natCast, idxI] at hJ ⊢); grind) | (simp_all [idxI]; done) | (simp_all; omega)))
      | (obtain rfl : i = t.list.length := (by first | omega | (simp at *; omega))
         refine ⟨?_, keepA⟩; clear hnx; first | ((try simp only [List.drop_length, Int.toNat_natCast, idxI] at hJ ⊢); grind) | (simp_all [idxI]; done) | (simp_all; omega))
-- spec.l4Timer
theorem s_l4Timer {x : Tmr} {n : Int} (h : -9223372036854775808 < n ∧ n < 9223372036854775808) : PC ctx.P 308 [.agg (tmrC x), .int .i64 n] (.bool (tmr1 x n)) := by
  refine PC.of okC Tryz.func308 rfl rfl (by kernel_rfl) (Nat.le_of_ble_eq_true rfl) (.bool _) fun h nx hnx => ?_
  show goC ctx _ _ (.fin (RetP _ _ _ _ _))
  try simp [-List.map_take, -List.map_drop, -List.map_tail, run_guard, run_guardD, resultsA, resA, Nat.add_assoc, tmrC, i64_ok (x := n - 1) (by omega)]
  repeat'
    first
    | done
    | ((first
        | ((with_reducible show doCall _ _ _ 252 _ _); refine call_pc (s_l1In) ?_)) <;> simp [-List.map_take, -List.map_drop, -List.map_tail, run_guard, run_guardD, resultsA, resA, Nat.add_assoc, tmrC, i64_ok (x := n - 1) (by omega)])
    | ((first | (with_reducible refine guardS_split ?_ ?_)) <;> intro qb <;> (have qp := qb; try simp only [psq] at qp) <;> simp [-List.map_take, -List.map_drop, -List.map_tail, run_guard, run_guardD, resultsA, resA, Nat.add_assoc, tmrC, i64_ok (x := n - 1) (by omega), qb])
  all_goals (try clear hnx)
  all_goals first | (simp_all [tmr1]; done) | (simp_all [tmr1]; omega) | (rw [Bool.eq_iff_iff]; simp_all [tmr1]; done) | (rw [Bool.eq_iff_iff]; simp_all [tmr1]; omega) | omega | (simp only [tmr1]; grind) | grind
-- spec.TimersOk
theorem s_TimersOk {F : Nat → Bool} {t : Tms} : PC ctx.P 208 [.agg (tmsV F t)] (.bool (tmsOk t)) := by
  refine PC.lim (n := t.list.length) (x := .agg (tmsV F t)) (by simp) (.agg (x := .view (F 7) 5 (t.list.map tmrC)) (by simp [tmsV]) (.here (by simp))) ⟨_, Tryz.func208, by kernel_rfl, by kernel_rfl⟩ fun hlim => ?_
  refine PC.lim (n := t.heap.length) (x := .agg (tmsV F t)) (by simp) (.agg (x := .view (F 6) 3 (t.heap.map twgC)) (by simp [tmsV]) (.here (by simp))) ⟨_, Tryz.func208, by kernel_rfl, by kernel_rfl⟩ fun hlim2 => ?_
  refine PC.of okC Tryz.func208 rfl rfl (by kernel_rfl) (Nat.le_of_ble_eq_true rfl) (.bool _) fun h nx hnx => ?_
  show goC ctx _ _ (.fin (RetP _ _ _ _ _))
  try simp [-List.map_take, -List.map_drop, -List.map_tail, run_guard, run_guardD, resultsA, resA, Nat.add_assoc, tmsV]
  repeat'
    first
    | done
    | ((first
        | ((with_reducible show lenS _ _ _ _ _ _); refine lenS_slice rfl fun _ => ?_)
        | ((with_reducible show iaddrS _ _ _ _ _ _ _); refine iaddr_map rfl omA omA ?_)
        | ((with_reducible show doCall _ _ _ 252 _ _); refine call_pc (s_l1In) ?_)
        | ((with_reducible show doCall _ _ _ 307 _ _); refine call_pc (s_HeapOk) ?_)
        | (with_reducible refine go_draw (i := 7) [(0, [], []), (1, [], []), (2, [], []), (3, [], []), (4, [], []), (5, [], []), (6, [], []), (7, [], []), (8, [], []), (9, [], []), (10, [], []), (11, [], []), (12, [], []), (13, [], []), (14, [], []), (15, [], []), (16, [], []), (17, [], []), (18, [], []), (19, [], []), (20, [], []), (21, [], []), (22, [], []), (23, [], []), (24, [], []), (25, [], []), (26, [], []), (27, [], []), (28, [], [])] (by kernel_rfl) ?_)
        | (with_reducible refine go_draw (i := 14) [(0, [], []), (1, [], []), (2, [], []), (3, [], []), (4, [], []), (5, [], []), (6, [], []), (7, [], []), (8, [], [])] (by kernel_rfl) ?_)
        | (with_reducible refine go_draw (i := 15) [(0, [], []), (1, [], []), (2, [], []), (3, [], []), (4, [], []), (5, [], []), (6, [], []), (7, [], []), (8, [], []), (9, [], []), (10, [], []), (11, [], []), (12, [], []), (13, [], []), (14, [], []), (15, [], []), (16, [], []), (17, [], []), (18, [], []), (19, [], []), (20, [], []), (21, [], []), (22, [], []), (23, [], []), (24, [], []), (25, [], [])] (by kernel_rfl) ?_)) <;> simp [-List.map_take, -List.map_drop, -List.map_tail, run_guard, run_guardD, resultsA, resA, Nat.add_assoc, tmsV])
    | ((first | (with_reducible refine guardD_split ?_ ?_) | (with_reducible refine guardS_split ?_ ?_) | (with_reducible refine condS_split ?_ ?_)) <;> intro qb <;> (have qp := qb; try simp only [psq] at qp) <;> simp [-List.map_take, -List.map_drop, -List.map_tail, run_guard, run_guardD, resultsA, resA, Nat.add_assoc, tmsV, qb])
  · all_goals (try clear hnx)
    all_goals first | (simp_all [tmsOk]; done) | (simp_all [tmsOk]; omega) | (rw [Bool.eq_iff_iff]; simp_all [tmsOk]; done) | (rw [Bool.eq_iff_iff]; simp_all [tmsOk]; omega) | omega | (simp only [tmsOk]; grind) | grind
  · simp [tmsOk]; omega
  · all_goals (try clear hnx)
    all_goals first | (simp_all [tmsOk]; done) | (simp_all [tmsOk]; omega) | (rw [Bool.eq_iff_iff]; simp_all [tmsOk]; done) | (rw [Bool.eq_iff_iff]; simp_all [tmsOk]; omega) | omega | (simp only [tmsOk]; grind) | grind
  · have hnl : -9223372036854775808 < t.next ∧ t.next < 9223372036854775808 := by omega
    refine go_upP [2, 3, 4, 23, 24, 25, 26, 27, 28, 29, 30, 31, 32, 33, 34, 35, 36, 37, 38, 39, 40, 41, 42, 43, 44, 45, 46, 47, 48, 49, 50, 51, 52, 53, 54, 55, 56, 57, 58, 59, 60, 61, 62, 63, 64, 65, 66] (t.list.length) (fun (i : Nat) a => [(4, .int .i64 i), (3, .int .i64 a.2)]) (fun i_ a_ h_ _ => (fun (i : Nat) (a : Int × Int) _ => a.1 = (if i = 0 then -1 else (gt t.list ((i : Int) - 1)).seq) ∧ -1 ≤ a.1 ∧ tmsRise t.next (t.list.drop i) a.1 = tmsRise t.next t.list (-1) ∧ a.2 + cntB (·.armed) (t.list.drop i) = cntB (·.armed) t.list ∧ 0 ≤ a.2 ∧ a.2 ≤ i) i_ a_ h_) ((-1, 0)) (by simp) ?_ keep_rfl (Nat.le_refl _) ?_
    · simp
    · intro i a tm h' n' hle hJ hE hn' next hnx
      try dsimp only at hJ
      have hK : KeepB nx h' h := KeepB.sub hE keepA (by omega)
      simp [-List.map_take, -List.map_drop, -List.map_tail]
      have e1 : h' (nx) = some (.obj (tmsV F t)) := by have := hE (nx) (by omega); simpa [tmsV] using this
      have e1n : ∀ k, ((nx) = n' + k) = False := fun k => by simp only [eq_iff_iff, iff_false]; omega
      have e1m : ((nx) = n') = False := by simp only [eq_iff_iff, iff_false]; omega
      simp only [LIM] at hlim
      try simp [-List.map_take, -List.map_drop, -List.map_tail, run_guard, run_guardD, resultsA, resA, Nat.add_assoc, tmsV, tmrC, e1, e1n, e1m, i64_ok (x := (i : Int) - 1) (by omega)]
      repeat'
        first
        | done
        | ((first
            | ((with_reducible show lenS _ _ _ _ _ _); refine lenS_slice rfl fun _ => ?_)
            | ((with_reducible show iaddrS _ _ _ _ _ _ _); refine iaddr_map rfl omA omA ?_)
            | ((with_reducible show doCall _ _ _ 308 _ _); refine call_pc (s_l4Timer hnl) ?_)
            | (with_reducible refine go_draw (i := 7) [(0, [], []), (1, [], []), (2, [], []), (3, [], []), (4, [], []), (5, [], []), (6, [], []), (7, [], []), (8, [], []), (9, [], []), (10, [], []), (11, [], []), (12, [], []), (13, [], []), (14, [], []), (15, [], []), (16, [], []), (17, [], []), (18, [], []), (19, [], []), (20, [], []), (21, [], []), (22, [], []), (23, [], []), (24, [], []), (25, [], []), (26, [], []), (27, [], []), (28, [], [])] (by kernel_rfl) ?_)
            | (with_reducible refine go_draw (i := 14) [(0, [], []), (1, [], []), (2, [], []), (3, [], []), (4, [], []), (5, [], []), (6, [], []), (7, [], []), (8, [], [])] (by kernel_rfl) ?_)
            | (with_reducible refine go_draw (i := 15) [(0, [], []), (1, [], []), (2, [], []), (3, [], []), (4, [], []), (5, [], []), (6, [], []), (7, [], []), (8, [], []), (9, [], []), (10, [], []), (11, [], []), (12, [], []), (13, [], []), (14, [], []), (15, [], []), (16, [], []), (17, [], []), (18, [], []), (19, [], []), (20, [], []), (21, [], []), (22, [], []), (23, [], []), (24, [], []), (25, [], [])] (by kernel_rfl) ?_)) <;> simp [-List.map_take, -List.map_drop, -List.map_tail, run_guard, run_guardD, resultsA, resA, Nat.add_assoc, tmsV, tmrC, e1, e1n, e1m, i64_ok (x := (i : Int) - 1) (by omega)])
        | ((first | (with_reducible refine guardD_split ?_ ?_) | (with_reducible refine guardS_split ?_ ?_) | (with_reducible refine condS_split ?_ ?_)) <;> intro qb <;> (have qp := qb; try simp only [psq] at qp) <;> simp [-List.map_take, -List.map_drop, -List.map_tail, run_guard, run_guardD, resultsA, resA, Nat.add_assoc, tmsV, tmrC, e1, e1n, e1m, i64_ok (x := (i : Int) - 1) (by omega), qb])
      all_goals
        first
        | (have hlt : i < t.list.length := (by omega)
           obtain ⟨j0, j1, j2, j3, j4, j5⟩ := hJ
           rw [drop_gt hlt] at j2 j3
           simp only [tmsRise, cntB_cons] at j2 j3
           first
           | (refine ⟨?_, keepA⟩; clear hnx; simp only [tmsOk, tmr1, inR] at *; grind)
           | (refine hnx.go ((gt t.list (i : Int)).seq, a.2 + 1) ?_ ?_ ?_ ?_ ?_ ?_; omega; (simp [i64_ok (x := (i : Int) + 1) (by omega), i64_ok (x := a.2 + 1) (by omega)]); simp; exact keepA; (first | omega | (simp; omega)); (clear hnx; dsimp only; simp only [tmr1, inR] at *; grind))
           | (refine hnx.go ((gt t.list (i : Int)).seq, a.2) ?_ ?_ ?_ ?_ ?_ ?_; omega; (simp [i64_ok (x := (i : Int) + 1) (by omega)]); simp; exact keepA; (first | omega | (simp; omega)); (clear hnx; dsimp only; simp only [tmr1, inR] at *; grind)))
        | skip
      · have hfin : tmsRise t.next t.list (-1) = true ∧ a.2 = cntB (·.armed) t.list := by
          obtain ⟨j0, j1, j2, j3, j4, j5⟩ := hJ
          rw [List.drop_eq_nil_of_le (by omega)] at j2 j3
          simp only [tmsRise, cntB_nil] at j2 j3
          exact ⟨j2.symm, by omega⟩
        refine go_upP [2, 5, 6, 67, 68, 69, 70, 71, 72, 73, 74, 75, 76, 77, 78, 79, 80, 81, 82, 83, 84, 85, 86, 87, 88, 89, 90, 91, 92, 93, 94, 95, 96, 97, 98, 99, 100, 101, 102, 103, 104, 105, 106, 107] (t.heap.length) (fun (i : Nat) a => [(5, .int .i64 i)]) (fun i_ a_ h_ _ => (fun j (_ : Unit) _ => (t.heap.drop j).any (fun h => decide (tmsAt t.list h.seq < 0) || (!(gt t.list (tmsAt t.list h.seq)).armed || (gt t.list (tmsAt t.list h.seq)).due != h.due)) = t.heap.any (fun h => decide (tmsAt t.list h.seq < 0) || (!(gt t.list (tmsAt t.list h.seq)).armed || (gt t.list (tmsAt t.list h.seq)).due != h.due))) i_ a_ h_) (()) (by simp) ?_ keep_rfl (Nat.le_refl _) ?_
        · simp
        · intro j b tm2 h2 n2 hle2 hJ2 hE2 hn2 next2 hnx2
          try dsimp only at hJ2
          have hK2 : KeepB nx h2 h := KeepB.sub hE2 keepA (by omega)
          simp [-List.map_take, -List.map_drop, -List.map_tail]
          have hat := tmsAt_lt t.list (gt t.heap (j : Int)).seq
          have e2 := (hE2 (nx) (by omega)).trans e1
          have e2n : ∀ k, ((nx) = n2 + k) = False := fun k => by simp only [eq_iff_iff, iff_false]; omega
          have e2m : ((nx) = n2) = False := by simp only [eq_iff_iff, iff_false]; omega
          try simp [-List.map_take, -List.map_drop, -List.map_tail, run_guard, run_guardD, resultsA, resA, Nat.add_assoc, tmsV, tmrC, twgC, e2, e2n, e2m]
          repeat'
            first
            | done
            | ((first
                | ((with_reducible show lenS _ _ _ _ _ _); refine lenS_slice rfl fun _ => ?_)
                | ((with_reducible show iaddrS _ _ _ _ _ _ _); refine iaddr_map rfl omA omA ?_)
                | ((with_reducible show doCall _ _ _ 234 _ _); refine call_pc (s_l4At (t := t) (F := F)) ?_)
                | (with_reducible refine go_draw (i := 7) [(0, [], []), (1, [], []), (2, [], []), (3, [], []), (4, [], []), (5, [], []), (6, [], []), (7, [], []), (8, [], []), (9, [], []), (10, [], []), (11, [], []), (12, [], []), (13, [], []), (14, [], []), (15, [], []), (16, [], []), (17, [], []), (18, [], []), (19, [], []), (20, [], []), (21, [], []), (22, [], []), (23, [], []), (24, [], []), (25, [], []), (26, [], []), (27, [], []), (28, [], [])] (by kernel_rfl) ?_)
                | (with_reducible refine go_draw (i := 14) [(0, [], []), (1, [], []), (2, [], []), (3, [], []), (4, [], []), (5, [], []), (6, [], []), (7, [], []), (8, [], [])] (by kernel_rfl) ?_)
                | (with_reducible refine go_draw (i := 15) [(0, [], []), (1, [], []), (2, [], []), (3, [], []), (4, [], []), (5, [], []), (6, [], []), (7, [], []), (8, [], []), (9, [], []), (10, [], []), (11, [], []), (12, [], []), (13, [], []), (14, [], []), (15, [], []), (16, [], []), (17, [], []), (18, [], []), (19, [], []), (20, [], []), (21, [], []), (22, [], []), (23, [], []), (24, [], []), (25, [], [])] (by kernel_rfl) ?_)) <;> simp [-List.map_take, -List.map_drop, -List.map_tail, run_guard, run_guardD, resultsA, resA, Nat.add_assoc, tmsV, tmrC, twgC, e2, e2n, e2m])
            | ((first | (with_reducible refine guardD_split ?_ ?_) | (with_reducible refine guardS_split ?_ ?_) | (with_reducible refine condS_split ?_ ?_)) <;> intro qb <;> (have qp := qb; try simp only [psq] at qp) <;> simp [-List.map_take, -List.map_drop, -List.map_tail, run_guard, run_guardD, resultsA, resA, Nat.add_assoc, tmsV, tmrC, twgC, e2, e2n, e2m, qb])
          all_goals clear hJ hnx
          all_goals
            first
            | (have hlt : j < t.heap.length := (by first | omega | (simp at *; omega))
               rw [drop_gt hlt] at hJ2
               first
               | (refine hnx2.go (()) ?_ ?_ ?_ ?_ ?_ ?_; omega; (simp [wrap_succ hlt hlim2]); (simp); exact keepA; (first | omega | (simp; omega)); (try dsimp only); clear hnx2; first | ((try simp only [List.drop_length, Int.toNat_natCast, List.any_cons, List.any_nil, tmsOk] at hJ2 ⊢); grind) | (simp_all [List.any_cons, List.any_nil, tmsOk]; done) | (simp_all; omega))
               | (refine ⟨?_, keepA⟩; clear hnx2; first | ((try simp only [List.drop_length, Int.toNat_natCast, List.any_cons, List.any_nil, tmsOk] at hJ2 ⊢); grind) | (simp_all [List.any_cons, List.any_nil, tmsOk]; done) | (simp_all; omega)))
            | (obtain rfl : j = t.heap.length := (by first | omega | (simp at *; omega))
               refine ⟨?_, keepA⟩; clear hnx2; first | ((try simp only [List.drop_length, Int.toNat_natCast, List.any_cons, List.any_nil, tmsOk] at hJ2 ⊢); grind) | (simp_all [List.any_cons, List.any_nil, tmsOk]; done) | (simp_all; omega))

-- spec.l5Node
theorem s_l5Node {n : Nod} : PC ctx.P 336 [.agg (nodC n)] (.bool (nod1 n)) := by
  refine PC.of okC Tryz.func336 rfl rfl (by kernel_rfl) (Nat.le_of_ble_eq_true rfl) (.bool _) fun h nx hnx => ?_
  show goC ctx _ _ (.fin (RetP _ _ _ _ _))
  try simp [-List.map_take, -List.map_drop, -List.map_tail, run_guard, run_guardD, resultsA, resA, Nat.add_assoc, nodC]
  repeat'
    first
    | done
    | ((first
        | ((with_reducible show doCall _ _ _ 252 _ _); refine call_pc (s_l1In) ?_)) <;> simp [-List.map_take, -List.map_drop, -List.map_tail, run_guard, run_guardD, resultsA, resA, Nat.add_assoc, nodC])
    | ((first | (with_reducible refine guardS_split ?_ ?_) | (with_reducible refine condS_split ?_ ?_)) <;> intro qb <;> (have qp := qb; try simp only [psq] at qp) <;> simp [-List.map_take, -List.map_drop, -List.map_tail, run_guard, run_guardD, resultsA, resA, Nat.add_assoc, nodC, qb])
  all_goals (try clear hnx)
  all_goals first | (simp_all [nod1, never]; done) | (simp_all [nod1, never]; omega) | (rw [Bool.eq_iff_iff]; simp_all [nod1, never]; done) | (rw [Bool.eq_iff_iff]; simp_all [nod1, never]; omega) | omega | (simp only [nod1, never]; grind) | grind
-- spec.TreeOk
theorem s_TreeOk {p : Bool} {t : List Nod} : PC ctx.P 251 [.view p 5 (t.map nodC)] (.bool (treeOk t)) := by
  rw [treeOk_eq]
  refine PC.lim (n := t.length) (x := .view p 5 (t.map nodC)) (by simp) (.here (by simp)) ⟨_, Tryz.func251, by kernel_rfl, by kernel_rfl⟩ fun hlim => ?_
  have hlim2 := hlim
  simp only [LIM] at hlim2
  refine PC.of okC Tryz.func251 rfl rfl (by kernel_rfl) (Nat.le_of_ble_eq_true rfl) (.bool _) fun h nx hnx => ?_
  show goC ctx _ _ (.fin (RetP _ _ _ _ _))
  try simp [-List.map_take, -List.map_drop, -List.map_tail, run_guard, run_guardD, resultsA, resA, Nat.add_assoc]
  repeat'
    first
    | done
    | ((first
        | ((with_reducible show lenS _ _ _ _ _ _); refine lenS_slice rfl fun _ => ?_)
        | ((with_reducible show iaddrS _ _ _ _ _ _ _); refine iaddr_map rfl omA omA ?_)) <;> simp [-List.map_take, -List.map_drop, -List.map_tail, run_guard, run_guardD, resultsA, resA, Nat.add_assoc])
    | ((first | (with_reducible refine condS_split ?_ ?_)) <;> intro qb <;> (have qp := qb; try simp only [psq] at qp) <;> simp [-List.map_take, -List.map_drop, -List.map_tail, run_guard, run_guardD, resultsA, resA, Nat.add_assoc, qb])
  · simp_all; omega
  · refine go_upP [2, 3, 7, 8, 9, 10, 11, 12, 13, 14, 15, 16, 17, 18, 19, 20, 21, 22, 23, 24, 25, 26, 27, 28, 29, 30, 31, 32, 33, 34, 35, 36, 37, 38, 39] (t.length) (fun (i : Nat) a => [(3, .int .i64 i)]) (fun i_ a_ h_ _ => (fun i (_ : Unit) _ => allI (fun i n => isNode n i) (t.drop i) i = allI (fun i n => isNode n i) t 0) i_ a_ h_) (()) (by simp) ?_ keep_rfl (Nat.le_refl _) ?_
    · simp
    · intro i a tm h' n' hle hJ hE hn' next hnx
      try dsimp only at hJ
      have hK : KeepB nx h' h := KeepB.sub hE keepA (by omega)
      simp [-List.map_take, -List.map_drop, -List.map_tail]
      try simp [-List.map_take, -List.map_drop, -List.map_tail, run_guard, run_guardD, resultsA, resA, Nat.add_assoc, nodC, i64_ok (x := (i : Int)) (by omega), i64_ok (x := (i : Int) - 1) (by omega)]
      repeat'
        first
        | done
        | ((first
            | ((with_reducible show lenS _ _ _ _ _ _); refine lenS_slice rfl fun _ => ?_)
            | ((with_reducible show iaddrS _ _ _ _ _ _ _); refine iaddr_map rfl omA omA ?_)
            | ((with_reducible show doCall _ _ _ 336 _ _); refine call_pc (s_l5Node) ?_)
            | ((with_reducible show doCall _ _ _ 252 _ _); refine call_pc (s_l1In) ?_)) <;> simp [-List.map_take, -List.map_drop, -List.map_tail, run_guard, run_guardD, resultsA, resA, Nat.add_assoc, nodC, i64_ok (x := (i : Int)) (by omega), i64_ok (x := (i : Int) - 1) (by omega)])
        | ((first | (with_reducible refine condS_split ?_ ?_)) <;> intro qb <;> (have qp := qb; try simp only [psq] at qp) <;> simp [-List.map_take, -List.map_drop, -List.map_tail, run_guard, run_guardD, resultsA, resA, Nat.add_assoc, nodC, i64_ok (x := (i : Int)) (by omega), i64_ok (x := (i : Int) - 1) (by omega), qb])
      all_goals
        first
        | (have hlt : i < t.length := (by first | omega | (simp at *; omega))
           rw [drop_gt hlt] at hJ
           first
           | (refine hnx.go (()) ?_ ?_ ?_ ?_ ?_ ?_; omega; (simp [wrap_succ hlt hlim]); (simp); exact keepA; (first | omega | (simp; omega)); (try dsimp only); clear hnx; first | ((try simp only [List.drop_length, Int.toNat_natCast, allI, isNode_eq] at hJ ⊢); grind) | (simp_all [allI, isNode_eq]; done) | (simp_all; omega))
           | (refine ⟨?_, keepA⟩; clear hnx; first | ((try simp only [List.drop_length, Int.toNat_natCast, allI, isNode_eq] at hJ ⊢); grind) | (simp_all [allI, isNode_eq]; done) | (simp_all; omega)))
        | (obtain rfl : i = t.length := (by first | omega | (simp at *; omega))
           refine ⟨?_, keepA⟩; clear hnx; first | ((try simp only [List.drop_length, Int.toNat_natCast, allI, isNode_eq] at hJ ⊢); grind) | (simp_all [allI, isNode_eq]; done) | (simp_all; omega))
-- spec.l5Has
theorem s_l5Has {p : Bool} {t : List Nod} {n : Int} : PC ctx.P 302 [.view p 5 (t.map nodC), .int .i64 n] (.bool (treeOk t && isIn n t)) := by
  refine PC.lim (n := t.length) (x := .view p 5 (t.map nodC)) (by simp) (.here (by simp)) ⟨_, Tryz.func302, by kernel_rfl, by kernel_rfl⟩ fun hlim => ?_
  refine PC.of okC Tryz.func302 rfl rfl (by kernel_rfl) (Nat.le_of_ble_eq_true rfl) (.bool _) fun h nx hnx => ?_
  show goC ctx _ _ (.fin (RetP _ _ _ _ _))
  try simp [-List.map_take, -List.map_drop, -List.map_tail, run_guard, run_guardD, resultsA, resA, Nat.add_assoc, wrap_pred hlim]
  repeat'
    first
    | done
    | ((first
        | ((with_reducible show lenS _ _ _ _ _ _); refine lenS_slice rfl fun _ => ?_)
        | ((with_reducible show doCall _ _ _ 251 _ _); refine call_pc (s_TreeOk) ?_)
        | ((with_reducible show doCall _ _ _ 252 _ _); refine call_pc (s_l1In) ?_)) <;> simp [-List.map_take, -List.map_drop, -List.map_tail, run_guard, run_guardD, resultsA, resA, Nat.add_assoc, wrap_pred hlim])
    | ((first | (with_reducible refine guardS_split ?_ ?_)) <;> intro qb <;> (have qp := qb; try simp only [psq] at qp) <;> simp [-List.map_take, -List.map_drop, -List.map_tail, run_guard, run_guardD, resultsA, resA, Nat.add_assoc, wrap_pred hlim, qb])
  all_goals (try clear hnx)
  all_goals first | (simp_all [isIn]; done) | (simp_all [isIn]; omega) | (rw [Bool.eq_iff_iff]; simp_all [isIn]; done) | (rw [Bool.eq_iff_iff]; simp_all [isIn]; omega) | omega | (simp only [isIn]; grind) | grind
-- spec.l6In
theorem s_l6In {p : Bool} {xs : List Int} {n : Int} : PC ctx.P 304 [.view p 1 (xs.map iv), .int .i64 n] (.bool (xs.contains n)) := by
  refine PC.lim (n := xs.length) (x := .view p 1 (xs.map iv)) (by simp) (.here (by simp)) ⟨_, Tryz.func304, by kernel_rfl, by kernel_rfl⟩ fun hlim => ?_
  refine PC.of okC Tryz.func304 rfl rfl (by kernel_rfl) (Nat.le_of_ble_eq_true rfl) (.bool _) fun h nx hnx => ?_
  show goC ctx _ _ (.fin (RetP _ _ _ _ _))
  try simp [-List.map_take, -List.map_drop, -List.map_tail, run_guard, run_guardD, resultsA, resA, Nat.add_assoc]
  repeat'
    first
    | done
    | ((first
        | ((with_reducible show lenS _ _ _ _ _ _); refine lenS_slice rfl fun _ => ?_)
        | ((with_reducible show iaddrS _ _ _ _ _ _ _); refine iaddr_map rfl omA omA ?_)) <;> simp [-List.map_take, -List.map_drop, -List.map_tail, run_guard, run_guardD, resultsA, resA, Nat.add_assoc])
    | ((first | (with_reducible refine condS_split ?_ ?_)) <;> intro qb <;> (have qp := qb; try simp only [psq] at qp) <;> simp [-List.map_take, -List.map_drop, -List.map_tail, run_guard, run_guardD, resultsA, resA, Nat.add_assoc, qb])
  refine go_upP [4, 5, 6, 7, 8, 9, 10, 11, 12, 13, 14, 15, 16, 17] (xs.length) (fun (i : Nat) a => [(5, .int .i64 i)]) (fun i_ a_ h_ _ => (fun i (_ : Unit) _ => ((xs.drop i).any fun x => x == n) = xs.contains n) i_ a_ h_) (()) (by simp) ?_ keep_rfl (Nat.le_refl _) ?_
  · simp [any_contains']
  · intro i a tm h' n' hle hJ hE hn' next hnx
    try dsimp only at hJ
    have hK : KeepB nx h' h := KeepB.sub hE keepA (by omega)
    simp [-List.map_take, -List.map_drop, -List.map_tail]
    try simp [-List.map_take, -List.map_drop, -List.map_tail, run_guard, run_guardD, resultsA, resA, Nat.add_assoc, iv]
    repeat'
      first
      | done
      | ((first
          | ((with_reducible show lenS _ _ _ _ _ _); refine lenS_slice rfl fun _ => ?_)
          | ((with_reducible show iaddrS _ _ _ _ _ _ _); refine iaddr_map rfl omA omA ?_)) <;> simp [-List.map_take, -List.map_drop, -List.map_tail, run_guard, run_guardD, resultsA, resA, Nat.add_assoc, iv])
      | ((first | (with_reducible refine condS_split ?_ ?_)) <;> intro qb <;> (have qp := qb; try simp only [psq] at qp) <;> simp [-List.map_take, -List.map_drop, -List.map_tail, run_guard, run_guardD, resultsA, resA, Nat.add_assoc, iv, qb])
    all_goals
      first
      | (have hlt : i < xs.length := (by first | omega | (simp at *; omega))
         rw [drop_gt hlt] at hJ
         first
         | (refine hnx.go (()) ?_ ?_ ?_ ?_ ?_ ?_; omega; (simp [wrap_succ hlt hlim]); (simp); exact keepA; (first | omega | (simp; omega)); (try dsimp only); clear hnx; first | ((try simp only [List.drop_length, Int.toNat_natCast, List.any_cons, List.any_nil] at hJ ⊢); grind) | (simp_all [List.any_cons, List.any_nil]; done) | (simp_all; omega))
         | (refine ⟨?_, keepA⟩; clear hnx; first | ((try simp only [List.drop_length, Int.toNat_natCast, List.any_cons, List.any_nil] at hJ ⊢); grind) | (simp_all [List.any_cons, List.any_nil]; done) | (simp_all; omega)))
      | (obtain rfl : i = xs.length := (by first | omega | (simp at *; omega))
         refine ⟨?_, keepA⟩; clear hnx; first | ((try simp only [List.drop_length, Int.toNat_natCast, List.any_cons, List.any_nil] at hJ ⊢); grind) | (simp_all [List.any_cons, List.any_nil]; done) | (simp_all; omega))
end Go.AE.Tryz
end

section
/- Contracts of the reference's readers: chains, events, functions, tasks, groups. -/
set_option linter.unusedSimpArgs false
set_option linter.unusedVariables false
set_option maxRecDepth 8000
set_option maxHeartbeats 4000000
namespace Go.AE.Tryz
open Go.Proofs

-- spec.ChainOf
theorem s_ChainOf {p : Bool} {t : List Nod} {n : Int} (ht : treeOk t = true) (h0 : 0 ≤ n) (h1 : n < t.length) : PC ctx.P 194 [.view p 5 (t.map nodC), .int .i64 n] (.view true 1 ((chain t n).map iv)) := by
  have hl60 := treeOk_len ht
  have hin : isIn n t = true := by rw [isIn_true]; omega
  refine PC.of okC Tryz.func194 rfl rfl (by kernel_rfl) (Nat.le_of_ble_eq_true rfl) (.vmap iv_fz) fun h nx hnx => ?_
  show goC ctx _ _ (.fin (RetP _ _ _ _ _))
  try simp [-List.map_take, -List.map_drop, -List.map_tail, run_guard, run_guardD, resultsA, resA, Nat.add_assoc, ht, hin]
  repeat'
    first
    | done
    | ((first
        | ((with_reducible show iaddrS _ _ _ _ _ _ _); refine iaddr_map rfl omA omA ?_)
        | ((with_reducible show doCall _ _ _ 302 _ _); refine call_pc (s_l5Has) ?_)
        | ((with_reducible show appS _ _ _ _ _ _ _ _); refine app_end rfl rfl (by decide) (by decide) (by first | (simp [-List.map_take, -List.map_drop, -List.map_tail, run_guard, run_guardD, resultsA, resA, Nat.add_assoc, ht, hin]; done) | (simp [-List.map_take, -List.map_drop, -List.map_tail, run_guard, run_guardD, resultsA, resA, Nat.add_assoc, ht, hin]; rfl)) (by first | (simp [-List.map_take, -List.map_drop, -List.map_tail, run_guard, run_guardD, resultsA, resA, Nat.add_assoc, ht, hin]; done) | (simp [-List.map_take, -List.map_drop, -List.map_tail, run_guard, run_guardD, resultsA, resA, Nat.add_assoc, ht, hin]; rfl)) (by first | (simp; done) | (simp; omega)) (by first | (simp only [MLIM, LIM] at *; simp; omega) | (simp only [MLIM]; simp; omega)) (by simp [iv, bv]) ?_)) <;> simp [-List.map_take, -List.map_drop, -List.map_tail, run_guard, run_guardD, resultsA, resA, Nat.add_assoc, ht, hin])
    | ((first | (with_reducible refine guardS_split ?_ ?_) | (with_reducible refine condS_split ?_ ?_)) <;> intro qb <;> (have qp := qb; try simp only [psq] at qp) <;> simp [-List.map_take, -List.map_drop, -List.map_tail, run_guard, run_guardD, resultsA, resA, Nat.add_assoc, ht, hin, qb])
  refine go_dnP (h0 := h) (nx0 := nx) [4, 5, 6, 14, 15, 16, 17, 18, 19, 20, 21, 22, 23, 24, 25, 26, 27, 28, 29, 30, 31, 32, 33, 34, 35, 36, 37] (fun a => [(6, .int .i64 a.1), (5, .ref a.2.2 1 0 a.2.1.length)]) (fun a => a.1.toNat) (fun (a : Int × List Int × Nat) h' n' => 0 ≤ a.1 ∧ a.1 < t.length ∧ nx ≤ a.2.2 ∧ h' a.2.2 = some (.row 1 (a.2.1.map iv)) ∧ a.2.1 ++ chain t a.1 = chain t n ∧ (a.2.1.length : Int) + a.1 ≤ n ∧ a.2.2 < n') ((n, [], nx + 1)) (by simp) ?_ keepA (by omega) ?_
  · simp [h0, h1, iv]
  · intro a tm h' n' hJ hE hn' next hnx
    try dsimp only at hJ
    have hK : KeepB nx h' h := KeepB.sub hE keepA (by omega)
    obtain ⟨m, pre, id⟩ := a
    obtain ⟨g0, g1, g2, g3, g4, g5, g6⟩ := hJ
    dsimp only at g0 g1 g2 g3 g4 g5 g6 ⊢
    have hs := chain_step ht g0 g1
    have hu := treeOk_up ht g0 g1
    have k1 : ∀ k, (id = n' + k) = False := fun k => by simp only [eq_iff_iff, iff_false]; omega
    try simp [-List.map_take, -List.map_drop, -List.map_tail, run_guard, run_guardD, resultsA, resA, Nat.add_assoc, nodC, g3, k1, iv]
    repeat'
      first
      | done
      | ((first
          | ((with_reducible show iaddrS _ _ _ _ _ _ _); refine iaddr_map rfl omA omA ?_)
          | ((with_reducible show appS _ _ _ _ _ _ _ _); refine app_end rfl rfl (by decide) (by decide) (by first | (simp [-List.map_take, -List.map_drop, -List.map_tail, run_guard, run_guardD, resultsA, resA, Nat.add_assoc, nodC, g3, k1, iv]; done) | (simp [-List.map_take, -List.map_drop, -List.map_tail, run_guard, run_guardD, resultsA, resA, Nat.add_assoc, nodC, g3, k1, iv]; rfl)) (by first | (simp [-List.map_take, -List.map_drop, -List.map_tail, run_guard, run_guardD, resultsA, resA, Nat.add_assoc, nodC, g3, k1, iv]; done) | (simp [-List.map_take, -List.map_drop, -List.map_tail, run_guard, run_guardD, resultsA, resA, Nat.add_assoc, nodC, g3, k1, iv]; rfl)) (by first | (simp; done) | (simp; omega)) (by first | (simp only [MLIM, LIM] at *; simp; omega) | (simp only [MLIM]; simp; omega)) (by simp [iv, bv]) ?_)) <;> simp [-List.map_take, -List.map_drop, -List.map_tail, run_guard, run_guardD, resultsA, resA, Nat.add_assoc, nodC, g3, k1, iv])
      | ((first | (with_reducible refine guardS_split ?_ ?_) | (with_reducible refine condS_split ?_ ?_)) <;> intro qb <;> (have qp := qb; try simp only [psq] at qp) <;> simp [-List.map_take, -List.map_drop, -List.map_tail, run_guard, run_guardD, resultsA, resA, Nat.add_assoc, nodC, g3, k1, iv, qb])
    all_goals first
      | (refine ⟨?_, keepA⟩; rw [if_pos (by simp; omega)] at hs; rw [← g4, hs]; first | (rw [List.take_of_length_le (by simp)]; simp [iv]) | (simp [iv]))
      | (have hu' := hu (by omega)
         refine hnx.go ((gt t m).up, pre ++ [m], n' + 3) (by simp; omega) (by simp) (by simp) keepA (by first | omega | (simp; omega)) ?_
         dsimp only
         refine ⟨by omega, by omega, by omega, by simp [iv], ?_, by simp; omega, by simp⟩
         rw [if_neg (by simp; omega)] at hs
         rw [← g4, hs]; simp)
-- spec.IsDue
theorem s_IsDue {a b : Int} : PC ctx.P 80 [.int .i64 a, .int .i64 b] (.bool (isDue a b)) := by
  refine PC.of okC Tryz.func80 rfl rfl (by kernel_rfl) (Nat.le_of_ble_eq_true rfl) (.bool _) fun h nx hnx => ?_
  show goC ctx _ _ (.fin (RetP _ _ _ _ _))
  try simp [-List.map_take, -List.map_drop, -List.map_tail, run_guard, run_guardD, resultsA, resA, Nat.add_assoc, isDue, never]
  repeat'
    first
    | done
    | ((first | (with_reducible refine guardS_split ?_ ?_)) <;> intro qb <;> (have qp := qb; try simp only [psq] at qp) <;> simp [-List.map_take, -List.map_drop, -List.map_tail, run_guard, run_guardD, resultsA, resA, Nat.add_assoc, isDue, never, qb])
-- spec.l6Event
theorem s_l6Event {p : Bool} {t : List Nod} {e : Evt} : PC ctx.P 335 [.view p 5 (t.map nodC), .agg (evtC e)] (.bool (isEvent t e)) := by
  refine PC.lim (n := t.length) (x := .view p 5 (t.map nodC)) (by simp) (.here (by simp)) ⟨_, Tryz.func335, by kernel_rfl, by kernel_rfl⟩ fun hlim => ?_
  refine PC.of okC Tryz.func335 rfl rfl (by kernel_rfl) (Nat.le_of_ble_eq_true rfl) (.bool _) fun h nx hnx => ?_
  show goC ctx _ _ (.fin (RetP _ _ _ _ _))
  try simp [-List.map_take, -List.map_drop, -List.map_tail, run_guard, run_guardD, resultsA, resA, Nat.add_assoc, evtC, nodC, wrap_pred hlim]
  repeat'
    first
    | done
    | ((first
        | ((with_reducible show lenS _ _ _ _ _ _); refine lenS_slice rfl fun _ => ?_)
        | ((with_reducible show iaddrS _ _ _ _ _ _ _); refine iaddr_map rfl omA omA ?_)
        | ((with_reducible show doCall _ _ _ 252 _ _); refine call_pc (s_l1In) ?_)
        | ((with_reducible show doCall _ _ _ 80 _ _); refine call_pc (s_IsDue) ?_)) <;> simp [-List.map_take, -List.map_drop, -List.map_tail, run_guard, run_guardD, resultsA, resA, Nat.add_assoc, evtC, nodC, wrap_pred hlim])
    | ((first | (with_reducible refine guardS_split ?_ ?_) | (with_reducible refine condS_split ?_ ?_)) <;> intro qb <;> (have qp := qb; try simp only [psq] at qp) <;> simp [-List.map_take, -List.map_drop, -List.map_tail, run_guard, run_guardD, resultsA, resA, Nat.add_assoc, evtC, nodC, wrap_pred hlim, qb])
  all_goals (try clear hnx)
  all_goals first | (simp_all [isEvent, isIn]; done) | (simp_all [isEvent, isIn]; omega) | (rw [Bool.eq_iff_iff]; simp_all [isEvent, isIn]; done) | (rw [Bool.eq_iff_iff]; simp_all [isEvent, isIn]; omega) | omega | (simp only [isEvent, isIn]; grind) | grind
-- spec.l6First
theorem s_l6First {p q : Bool} {t : List Nod} {l : List Evt} {n : Int} (ht : treeOk t = true) (h0 : 0 ≤ n) (h1 : n < t.length) :
    PC ctx.P 199 [.view p 5 (t.map nodC), .view q 4 (l.map evtC), .int .i64 n] (.int .i64 (idxI (fun e => (chain t n).contains e.node) l 0)) := by
  refine PC.lim (n := l.length) (x := .view q 4 (l.map evtC)) (by simp) (.here (by simp)) ⟨_, Tryz.func199, by kernel_rfl, by kernel_rfl⟩ fun hlim => ?_
  refine PC.of okC Tryz.func199 rfl rfl (by kernel_rfl) (Nat.le_of_ble_eq_true rfl) (.int _ _) fun h nx hnx => ?_
  show goC ctx _ _ (.fin (RetP _ _ _ _ _))
  try simp [-List.map_take, -List.map_drop, -List.map_tail, run_guard, run_guardD, resultsA, resA, Nat.add_assoc]
  repeat'
    first
    | done
    | ((first
        | ((with_reducible show lenS _ _ _ _ _ _); refine lenS_slice rfl fun _ => ?_)
        | ((with_reducible show iaddrS _ _ _ _ _ _ _); refine iaddr_map rfl omA omA ?_)
        | ((with_reducible show doCall _ _ _ 194 _ _); refine call_pc (s_ChainOf ht h0 h1) ?_)) <;> simp [-List.map_take, -List.map_drop, -List.map_tail, run_guard, run_guardD, resultsA, resA, Nat.add_assoc])
    | ((first | (with_reducible refine condS_split ?_ ?_)) <;> intro qb <;> (have qp := qb; try simp only [psq] at qp) <;> simp [-List.map_take, -List.map_drop, -List.map_tail, run_guard, run_guardD, resultsA, resA, Nat.add_assoc, qb])
  refine go_upP [6, 8, 12, 13, 14, 15, 16, 17, 18, 19, 20, 21, 22, 23, 24, 25] (l.length) (fun (i : Nat) a => [(8, .int .i64 i)]) (fun i_ a_ h_ _ => (fun i (_ : Unit) _ => idxI (fun e => (chain t n).contains e.node) (l.drop i) i = idxI (fun e => (chain t n).contains e.node) l 0) i_ a_ h_) (()) (by simp) ?_ keep_rfl (Nat.le_refl _) ?_
  · simp
  · intro i a tm h' n' hle hJ hE hn' next hnx
    try dsimp only at hJ
    have hK : KeepB nx h' h := KeepB.sub hE keepA (by omega)
    simp [-List.map_take, -List.map_drop, -List.map_tail]
    try simp [-List.map_take, -List.map_drop, -List.map_tail, run_guard, run_guardD, resultsA, resA, Nat.add_assoc, evtC]
    repeat'
      first
      | done
      | ((first
          | ((with_reducible show lenS _ _ _ _ _ _); refine lenS_slice rfl fun _ => ?_)
          | ((with_reducible show iaddrS _ _ _ _ _ _ _); refine iaddr_map rfl omA omA ?_)
          | ((with_reducible show doCall _ _ _ 304 _ _); refine call_pc (s_l6In) ?_)) <;> simp [-List.map_take, -List.map_drop, -List.map_tail, run_guard, run_guardD, resultsA, resA, Nat.add_assoc, evtC])
      | ((first | (with_reducible refine condS_split ?_ ?_)) <;> intro qb <;> (have qp := qb; try simp only [psq] at qp) <;> simp [-List.map_take, -List.map_drop, -List.map_tail, run_guard, run_guardD, resultsA, resA, Nat.add_assoc, evtC, qb])
    all_goals
      first
      | (have hlt : i < l.length := (by first | omega | (simp at *; omega))
         rw [drop_gt hlt] at hJ
         first
         | (refine hnx.go (()) ?_ ?_ ?_ ?_ ?_ ?_; omega; (simp [wrap_succ hlt hlim]); (simp); exact keepA; (first | omega | (simp; omega)); (try dsimp only); clear hnx; first | ((try simp only [List.drop_length, Int.toNat_natCast, idxI] at hJ ⊢); grind) | (simp_all [idxI]; done) | (simp_all; omega))
         | (refine ⟨?_, keepA⟩; clear hnx; first | ((try simp only [List.drop_length, Int.toNat_natCast, idxI] at hJ ⊢); grind) | (simp_all [idxI]; done) | (simp_all; omega)))
      | (obtain rfl : i = l.length := (by first | omega | (simp at *; omega))
         refine ⟨?_, keepA⟩; clear hnx; first | ((try simp only [List.drop_length, Int.toNat_natCast, idxI] at hJ ⊢); grind) | (simp_all [idxI]; done) | (simp_all; omega))
-- spec.EventsOk
theorem s_EventsOk {p q : Bool} {t : List Nod} {l : List Evt} : PC ctx.P 250 [.view p 5 (t.map nodC), .view q 4 (l.map evtC)] (.bool (eventsOk t l)) := by
  refine PC.lim (n := l.length) (x := .view q 4 (l.map evtC)) (by simp) (.here (by simp)) ⟨_, Tryz.func250, by kernel_rfl, by kernel_rfl⟩ fun hlim => ?_
  by_cases ht : treeOk t = true
  · refine PC.of okC Tryz.func250 rfl rfl (by kernel_rfl) (Nat.le_of_ble_eq_true rfl) (.bool _) fun h nx hnx => ?_
    show goC ctx _ _ (.fin (RetP _ _ _ _ _))
    try simp [-List.map_take, -List.map_drop, -List.map_tail, run_guard, run_guardD, resultsA, resA, Nat.add_assoc, ht]
    repeat'
      first
      | done
      | ((first
          | ((with_reducible show lenS _ _ _ _ _ _); refine lenS_slice rfl fun _ => ?_)
          | ((with_reducible show iaddrS _ _ _ _ _ _ _); refine iaddr_map rfl omA omA ?_)
          | ((with_reducible show sliceS _ _ _ _ _ _ _ _); refine slice_to rfl omA omA ?_)
          | ((with_reducible show sliceS _ _ _ _ _ _ _ _); refine slice_from rfl omA omA ?_)
          | ((with_reducible show sliceS _ _ _ _ _ _ _ _); refine slice_mid rfl omA omA omA ?_)
          | ((with_reducible show sliceI _ _ _ _ _ _ _ _ _ _ _); refine sliceI_to rfl omA omA ?_)
          | ((with_reducible show sliceI _ _ _ _ _ _ _ _ _ _ _); refine sliceI_from rfl omA omA ?_)
          | ((with_reducible show sliceI _ _ _ _ _ _ _ _ _ _ _); refine sliceI_mid rfl omA omA omA ?_)
          | ((with_reducible show doCall _ _ _ 251 _ _); refine call_pc (s_TreeOk) ?_)
          | (with_reducible refine go_draw (i := 6) [(0, [], []), (1, [], []), (2, [], []), (3, [], []), (4, [], []), (5, [], []), (6, [], []), (7, [], []), (8, [], []), (9, [], []), (10, [], []), (11, [], []), (12, [], []), (13, [], []), (14, [], []), (15, [], []), (16, [], []), (17, [], []), (18, [], []), (19, [], []), (20, [], []), (21, [], []), (22, [], []), (23, [], []), (24, [], []), (25, [], []), (26, [], []), (27, [], []), (28, [], []), (29, [], []), (30, [], []), (31, [], []), (32, [], []), (33, [], []), (34, [], []), (35, [], []), (36, [], []), (37, [], [])] (by kernel_rfl) ?_)) <;> simp [-List.map_take, -List.map_drop, -List.map_tail, run_guard, run_guardD, resultsA, resA, Nat.add_assoc, ht])
      | ((first | (with_reducible refine guardD_split ?_ ?_) | (with_reducible refine condS_split ?_ ?_)) <;> intro qb <;> (have qp := qb; try simp only [psq] at qp) <;> simp [-List.map_take, -List.map_drop, -List.map_tail, run_guard, run_guardD, resultsA, resA, Nat.add_assoc, ht, qb])
    refine go_upP [4, 5, 9, 10, 11, 12, 13, 14, 15, 16, 17, 18, 19, 20, 21, 22, 23, 24, 25, 26, 27, 28, 29, 30, 31, 32, 33, 34, 35, 36, 37, 38, 39, 40, 41, 42, 43, 44, 45, 46, 47, 48, 49, 50, 51, 52] (l.length) (fun (i : Nat) a => [(5, .int .i64 i)]) (fun i_ a_ h_ _ => (fun i (_ : Unit) _ => allI (fun i e => fits t (l.take i.toNat) e) (l.drop i) i = allI (fun i e => fits t (l.take i.toNat) e) l 0) i_ a_ h_) (()) (by simp) ?_ keep_rfl (Nat.le_refl _) ?_
    · simp
    · intro i a tm h' n' hle hJ hE hn' next hnx
      try dsimp only at hJ
      have hK : KeepB nx h' h := KeepB.sub hE keepA (by omega)
      simp [-List.map_take, -List.map_drop, -List.map_tail]
      have hlim' := hlim
      simp only [LIM] at hlim'
      have hnode : isEvent t (gt l (i : Int)) = true → 0 ≤ (gt l (i : Int)).node ∧ (gt l (i : Int)).node < t.length := isEvent_in
      try simp [-List.map_take, -List.map_drop, -List.map_tail, run_guard, run_guardD, resultsA, resA, Nat.add_assoc, evtC, i64_ok (x := (i : Int) - 1) (by omega)]
      repeat'
        first
        | done
        | ((first
            | ((with_reducible show lenS _ _ _ _ _ _); refine lenS_slice rfl fun _ => ?_)
            | ((with_reducible show iaddrS _ _ _ _ _ _ _); refine iaddr_map rfl omA omA ?_)
            | ((with_reducible show sliceS _ _ _ _ _ _ _ _); refine slice_to rfl omA omA ?_)
            | ((with_reducible show sliceS _ _ _ _ _ _ _ _); refine slice_from rfl omA omA ?_)
            | ((with_reducible show sliceS _ _ _ _ _ _ _ _); refine slice_mid rfl omA omA omA ?_)
            | ((with_reducible show sliceI _ _ _ _ _ _ _ _ _ _ _); refine sliceI_to rfl omA omA ?_)
            | ((with_reducible show sliceI _ _ _ _ _ _ _ _ _ _ _); refine sliceI_from rfl omA omA ?_)
            | ((with_reducible show sliceI _ _ _ _ _ _ _ _ _ _ _); refine sliceI_mid rfl omA omA omA ?_)
            | ((with_reducible show doCall _ _ _ 335 _ _); refine call_pc (s_l6Event (e := gt l (i : Int))) ?_)
            | ((with_reducible show doCall _ _ _ 199 _ _); refine call_pc (s_l6First ht (hnode (by assumption)).1 (hnode (by assumption)).2) ?_)
            | (with_reducible refine go_draw (i := 6) [(0, [], []), (1, [], []), (2, [], []), (3, [], []), (4, [], []), (5, [], []), (6, [], []), (7, [], []), (8, [], []), (9, [], []), (10, [], []), (11, [], []), (12, [], []), (13, [], []), (14, [], []), (15, [], []), (16, [], []), (17, [], []), (18, [], []), (19, [], []), (20, [], []), (21, [], []), (22, [], []), (23, [], []), (24, [], []), (25, [], []), (26, [], []), (27, [], []), (28, [], []), (29, [], []), (30, [], []), (31, [], []), (32, [], []), (33, [], []), (34, [], []), (35, [], []), (36, [], []), (37, [], [])] (by kernel_rfl) ?_)) <;> simp [-List.map_take, -List.map_drop, -List.map_tail, run_guard, run_guardD, resultsA, resA, Nat.add_assoc, evtC, i64_ok (x := (i : Int) - 1) (by omega)])
        | ((first | (with_reducible refine guardD_split ?_ ?_) | (with_reducible refine condS_split ?_ ?_)) <;> intro qb <;> (have qp := qb; try simp only [psq] at qp) <;> simp [-List.map_take, -List.map_drop, -List.map_tail, run_guard, run_guardD, resultsA, resA, Nat.add_assoc, evtC, i64_ok (x := (i : Int) - 1) (by omega), qb])
      all_goals first
        | (have hlt : i < l.length := (by omega)
           rw [drop_gt hlt] at hJ
           simp only [allI, Int.toNat_natCast, fits_eq hlt] at hJ
           first
           | (refine hnx.go () (by omega) (by simp [wrap_succ hlt hlim]) (by simp) keepA (by first | omega | (simp; omega)) ?_; clear hnx; grind)
           | (refine ⟨?_, keepA⟩; clear hnx; simp only [eventsOk]; grind))
        | (refine ⟨?_, keepA⟩; rw [List.drop_eq_nil_of_le (by omega)] at hJ; clear hnx; simp only [allI, eventsOk] at hJ ⊢; grind)
  · refine PC.of okC Tryz.func250 rfl rfl (by kernel_rfl) (Nat.le_of_ble_eq_true rfl) (.bool _) fun h nx hnx => ?_
    show goC ctx _ _ (.fin (RetP _ _ _ _ _))
    try simp [-List.map_take, -List.map_drop, -List.map_tail, run_guard, run_guardD, resultsA, resA, Nat.add_assoc, ht]
    repeat'
      first
      | done
      | ((first
          | ((with_reducible show lenS _ _ _ _ _ _); refine lenS_slice rfl fun _ => ?_)
          | ((with_reducible show iaddrS _ _ _ _ _ _ _); refine iaddr_map rfl omA omA ?_)
          | ((with_reducible show sliceS _ _ _ _ _ _ _ _); refine slice_to rfl omA omA ?_)
          | ((with_reducible show sliceS _ _ _ _ _ _ _ _); refine slice_from rfl omA omA ?_)
          | ((with_reducible show sliceS _ _ _ _ _ _ _ _); refine slice_mid rfl omA omA omA ?_)
          | ((with_reducible show sliceI _ _ _ _ _ _ _ _ _ _ _); refine sliceI_to rfl omA omA ?_)
          | ((with_reducible show sliceI _ _ _ _ _ _ _ _ _ _ _); refine sliceI_from rfl omA omA ?_)
          | ((with_reducible show sliceI _ _ _ _ _ _ _ _ _ _ _); refine sliceI_mid rfl omA omA omA ?_)
          | ((with_reducible show doCall _ _ _ 251 _ _); refine call_pc (s_TreeOk) ?_)
          | (with_reducible refine go_draw (i := 6) [(0, [], []), (1, [], []), (2, [], []), (3, [], []), (4, [], []), (5, [], []), (6, [], []), (7, [], []), (8, [], []), (9, [], []), (10, [], []), (11, [], []), (12, [], []), (13, [], []), (14, [], []), (15, [], []), (16, [], []), (17, [], []), (18, [], []), (19, [], []), (20, [], []), (21, [], []), (22, [], []), (23, [], []), (24, [], []), (25, [], []), (26, [], []), (27, [], []), (28, [], []), (29, [], []), (30, [], []), (31, [], []), (32, [], []), (33, [], []), (34, [], []), (35, [], []), (36, [], []), (37, [], [])] (by kernel_rfl) ?_)) <;> simp [-List.map_take, -List.map_drop, -List.map_tail, run_guard, run_guardD, resultsA, resA, Nat.add_assoc, ht])
      | ((first | (with_reducible refine guardD_split ?_ ?_) | (with_reducible refine condS_split ?_ ?_)) <;> intro qb <;> (have qp := qb; try simp only [psq] at qp) <;> simp [-List.map_take, -List.map_drop, -List.map_tail, run_guard, run_guardD, resultsA, resA, Nat.add_assoc, ht, qb])
    all_goals (try clear hnx)
    all_goals first | (simp_all [eventsOk]; done) | (simp_all [eventsOk]; omega) | (rw [Bool.eq_iff_iff]; simp_all [eventsOk]; done) | (rw [Bool.eq_iff_iff]; simp_all [eventsOk]; omega) | omega | (simp only [eventsOk]; grind) | grind
-- spec.FirstOf
-- spec.ErrOf
-- spec.CauseOf
end Go.AE.Tryz
end

section
/- Contracts of the reference's readers: chains, events, functions, tasks, groups. -/
set_option linter.unusedSimpArgs false
set_option linter.unusedVariables false
set_option maxRecDepth 8000
set_option maxHeartbeats 4000000
namespace Go.AE.Tryz
open Go.Proofs

-- spec.l9Leash
theorem s_l9Leash {n : Int} : PC ctx.P 374 [.int .i64 n] (.bool (inR n (-1) 59)) := by
  refine PC.of okC Tryz.func374 rfl rfl (by kernel_rfl) (Nat.le_of_ble_eq_true rfl) (.bool _) fun h nx hnx => ?_
  show goC ctx _ _ (.fin (RetP _ _ _ _ _))
  try simp [-List.map_take, -List.map_drop, -List.map_tail, run_guard, run_guardD, resultsA, resA, Nat.add_assoc]
  repeat'
    first
    | done
    | ((first
        | ((with_reducible show doCall _ _ _ 252 _ _); refine call_pc (s_l1In) ?_)) <;> simp [-List.map_take, -List.map_drop, -List.map_tail, run_guard, run_guardD, resultsA, resA, Nat.add_assoc])
-- spec.InsOk
theorem s_InsOk {x : Inn} : PC ctx.P 334 [.agg (innC x)] (.bool (innOk x)) := by
  refine PC.of okC Tryz.func334 rfl rfl (by kernel_rfl) (Nat.le_of_ble_eq_true rfl) (.bool _) fun h nx hnx => ?_
  show goC ctx _ _ (.fin (RetP _ _ _ _ _))
  try simp [-List.map_take, -List.map_drop, -List.map_tail, run_guard, run_guardD, resultsA, resA, Nat.add_assoc, innC]
  repeat'
    first
    | done
    | ((first
        | ((with_reducible show doCall _ _ _ 374 _ _); refine call_pc (s_l9Leash) ?_)
        | ((with_reducible show doCall _ _ _ 252 _ _); refine call_pc (s_l1In) ?_)) <;> simp [-List.map_take, -List.map_drop, -List.map_tail, run_guard, run_guardD, resultsA, resA, Nat.add_assoc, innC])
    | ((first | (with_reducible refine guardS_split ?_ ?_) | (with_reducible refine condS_split ?_ ?_)) <;> intro qb <;> (have qp := qb; try simp only [psq] at qp) <;> simp [-List.map_take, -List.map_drop, -List.map_tail, run_guard, run_guardD, resultsA, resA, Nat.add_assoc, innC, qb])
  all_goals (try clear hnx)
  all_goals first | (simp_all [innOk, hasNode, hasB, inR]; done) | (simp_all [innOk, hasNode, hasB, inR]; omega) | (rw [Bool.eq_iff_iff]; simp_all [innOk, hasNode, hasB, inR]; done) | (rw [Bool.eq_iff_iff]; simp_all [innOk, hasNode, hasB, inR]; omega) | omega | (simp only [innOk, hasNode, hasB, inR]; grind) | grind
-- spec.ProgOk
theorem s_ProgOk {p : Bool} {l : List Inn} : PC ctx.P 249 [.view p 3 (l.map innC)] (.bool (progOk l)) := by
  refine PC.lim (n := l.length) (x := .view p 3 (l.map innC)) (by simp) (.here (by simp)) ⟨_, Tryz.func249, by kernel_rfl, by kernel_rfl⟩ fun hlim => ?_
  refine PC.of okC Tryz.func249 rfl rfl (by kernel_rfl) (Nat.le_of_ble_eq_true rfl) (.bool _) fun h nx hnx => ?_
  show goC ctx _ _ (.fin (RetP _ _ _ _ _))
  try simp [-List.map_take, -List.map_drop, -List.map_tail, run_guard, run_guardD, resultsA, resA, Nat.add_assoc]
  repeat'
    first
    | done
    | ((first
        | ((with_reducible show lenS _ _ _ _ _ _); refine lenS_slice rfl fun _ => ?_)
        | ((with_reducible show iaddrS _ _ _ _ _ _ _); refine iaddr_map rfl omA omA ?_)) <;> simp [-List.map_take, -List.map_drop, -List.map_tail, run_guard, run_guardD, resultsA, resA, Nat.add_assoc])
    | ((first | (with_reducible refine condS_split ?_ ?_)) <;> intro qb <;> (have qp := qb; try simp only [psq] at qp) <;> simp [-List.map_take, -List.map_drop, -List.map_tail, run_guard, run_guardD, resultsA, resA, Nat.add_assoc, qb])
  refine go_upP [2, 3, 4, 5, 6, 7, 8, 9, 10, 11, 12, 13, 14, 15] (l.length) (fun (i : Nat) a => [(3, .int .i64 i)]) (fun i_ a_ h_ _ => (fun i (_ : Unit) _ => ((l.drop i).any fun x => !innOk x) = l.any fun x => !innOk x) i_ a_ h_) (()) (by simp) ?_ keep_rfl (Nat.le_refl _) ?_
  · simp
  · intro i a tm h' n' hle hJ hE hn' next hnx
    try dsimp only at hJ
    have hK : KeepB nx h' h := KeepB.sub hE keepA (by omega)
    simp [-List.map_take, -List.map_drop, -List.map_tail]
    try simp [-List.map_take, -List.map_drop, -List.map_tail, run_guard, run_guardD, resultsA, resA, Nat.add_assoc]
    repeat'
      first
      | done
      | ((first
          | ((with_reducible show lenS _ _ _ _ _ _); refine lenS_slice rfl fun _ => ?_)
          | ((with_reducible show iaddrS _ _ _ _ _ _ _); refine iaddr_map rfl omA omA ?_)
          | ((with_reducible show doCall _ _ _ 334 _ _); refine call_pc (s_InsOk) ?_)) <;> simp [-List.map_take, -List.map_drop, -List.map_tail, run_guard, run_guardD, resultsA, resA, Nat.add_assoc])
      | ((first | (with_reducible refine condS_split ?_ ?_)) <;> intro qb <;> (have qp := qb; try simp only [psq] at qp) <;> simp [-List.map_take, -List.map_drop, -List.map_tail, run_guard, run_guardD, resultsA, resA, Nat.add_assoc, qb])
    all_goals
      first
      | (have hlt : i < l.length := (by first | omega | (simp at *; omega))
         rw [drop_gt hlt] at hJ
         first
         | (refine hnx.go (()) ?_ ?_ ?_ ?_ ?_ ?_; omega; (simp [wrap_succ hlt hlim]); (simp); exact keepA; (first | omega | (simp; omega)); (try dsimp only); clear hnx; first | ((try simp only [List.drop_length, Int.toNat_natCast, List.any_cons, List.any_nil, progOk] at hJ ⊢); grind) | (simp_all [List.any_cons, List.any_nil, progOk]; done) | (simp_all; omega))
         | (refine ⟨?_, keepA⟩; clear hnx; first | ((try simp only [List.drop_length, Int.toNat_natCast, List.any_cons, List.any_nil, progOk] at hJ ⊢); grind) | (simp_all [List.any_cons, List.any_nil, progOk]; done) | (simp_all; omega)))
      | (obtain rfl : i = l.length := (by first | omega | (simp at *; omega))
         refine ⟨?_, keepA⟩; clear hnx; first | ((try simp only [List.drop_length, Int.toNat_natCast, List.any_cons, List.any_nil, progOk] at hJ ⊢); grind) | (simp_all [List.any_cons, List.any_nil, progOk]; done) | (simp_all; omega))
-- spec.l10Waits
theorem s_l10Waits {t : Tsk} : PC ctx.P 357 [.agg (tskC t)] (.bool (tsk1 t)) := by
  refine PC.of okC Tryz.func357 rfl rfl (by kernel_rfl) (Nat.le_of_ble_eq_true rfl) (.bool _) fun h nx hnx => ?_
  show goC ctx _ _ (.fin (RetP _ _ _ _ _))
  try simp [-List.map_take, -List.map_drop, -List.map_tail, run_guard, run_guardD, resultsA, resA, Nat.add_assoc, tskC]
  repeat'
    first
    | done
    | ((first
        | ((with_reducible show doCall _ _ _ 252 _ _); refine call_pc (s_l1In) ?_)) <;> simp [-List.map_take, -List.map_drop, -List.map_tail, run_guard, run_guardD, resultsA, resA, Nat.add_assoc, tskC])
    | ((first | (with_reducible refine guardS_split ?_ ?_) | (with_reducible refine condS_split ?_ ?_)) <;> intro qb <;> (have qp := qb; try simp only [psq] at qp) <;> simp [-List.map_take, -List.map_drop, -List.map_tail, run_guard, run_guardD, resultsA, resA, Nat.add_assoc, tskC, qb])
  all_goals (try clear hnx)
  all_goals first | (simp_all [tsk1, inR]; done) | (simp_all [tsk1, inR]; omega) | (rw [Bool.eq_iff_iff]; simp_all [tsk1, inR]; done) | (rw [Bool.eq_iff_iff]; simp_all [tsk1, inR]; omega) | omega | (simp only [tsk1, inR]; grind) | grind
-- spec.TaskOk
theorem s_TaskOk {t : Tsk} : PC ctx.P 306 [.agg (tskC t)] (.bool (tskOk t)) := by
  rw [tskOk_eq]
  refine PC.of okC Tryz.func306 rfl rfl (by kernel_rfl) (Nat.le_of_ble_eq_true rfl) (.bool _) fun h nx hnx => ?_
  show goC ctx _ _ (.fin (RetP _ _ _ _ _))
  try simp [-List.map_take, -List.map_drop, -List.map_tail, run_guard, run_guardD, resultsA, resA, Nat.add_assoc, tskC]
  repeat'
    first
    | done
    | ((first
        | ((with_reducible show doCall _ _ _ 252 _ _); refine call_pc (s_l1In) ?_)
        | ((with_reducible show doCall _ _ _ 357 _ _); refine call_pc (s_l10Waits (t := t)) ?_)) <;> simp [-List.map_take, -List.map_drop, -List.map_tail, run_guard, run_guardD, resultsA, resA, Nat.add_assoc, tskC])
    | ((first | (with_reducible refine guardS_split ?_ ?_) | (with_reducible refine condS_split ?_ ?_)) <;> intro qb <;> (have qp := qb; try simp only [psq] at qp) <;> simp [-List.map_take, -List.map_drop, -List.map_tail, run_guard, run_guardD, resultsA, resA, Nat.add_assoc, tskC, qb])
  all_goals (try clear hnx)
  all_goals first | (simp_all [tskS]; done) | (simp_all [tskS]; omega) | (rw [Bool.eq_iff_iff]; simp_all [tskS]; done) | (rw [Bool.eq_iff_iff]; simp_all [tskS]; omega) | omega | (simp only [tskS]; grind) | grind
-- spec.TasksOk
theorem s_TasksOk {p : Bool} {l : List Tsk} : PC ctx.P 207 [.view p 9 (l.map tskC)] (.bool (tasksOk l)) := by
  refine PC.lim (n := l.length) (x := .view p 9 (l.map tskC)) (by simp) (.here (by simp)) ⟨_, Tryz.func207, by kernel_rfl, by kernel_rfl⟩ fun hlim => ?_
  refine PC.of okC Tryz.func207 rfl rfl (by kernel_rfl) (Nat.le_of_ble_eq_true rfl) (.bool _) fun h nx hnx => ?_
  show goC ctx _ _ (.fin (RetP _ _ _ _ _))
  try simp [-List.map_take, -List.map_drop, -List.map_tail, run_guard, run_guardD, resultsA, resA, Nat.add_assoc]
  repeat'
    first
    | done
    | ((first
        | ((with_reducible show lenS _ _ _ _ _ _); refine lenS_slice rfl fun _ => ?_)
        | ((with_reducible show iaddrS _ _ _ _ _ _ _); refine iaddr_map rfl omA omA ?_)) <;> simp [-List.map_take, -List.map_drop, -List.map_tail, run_guard, run_guardD, resultsA, resA, Nat.add_assoc])
    | ((first | (with_reducible refine condS_split ?_ ?_)) <;> intro qb <;> (have qp := qb; try simp only [psq] at qp) <;> simp [-List.map_take, -List.map_drop, -List.map_tail, run_guard, run_guardD, resultsA, resA, Nat.add_assoc, qb])
  refine go_upP [2, 3, 4, 5, 6, 7, 8, 9, 10, 11, 12, 13, 14, 15] (l.length) (fun (i : Nat) a => [(3, .int .i64 i)]) (fun i_ a_ h_ _ => (fun i (_ : Unit) _ => ((l.drop i).any fun x => !tskOk x) = l.any fun x => !tskOk x) i_ a_ h_) (()) (by simp) ?_ keep_rfl (Nat.le_refl _) ?_
  · simp
  · intro i a tm h' n' hle hJ hE hn' next hnx
    try dsimp only at hJ
    have hK : KeepB nx h' h := KeepB.sub hE keepA (by omega)
    simp [-List.map_take, -List.map_drop, -List.map_tail]
    try simp [-List.map_take, -List.map_drop, -List.map_tail, run_guard, run_guardD, resultsA, resA, Nat.add_assoc]
    repeat'
      first
      | done
      | ((first
          | ((with_reducible show lenS _ _ _ _ _ _); refine lenS_slice rfl fun _ => ?_)
          | ((with_reducible show iaddrS _ _ _ _ _ _ _); refine iaddr_map rfl omA omA ?_)
          | ((with_reducible show doCall _ _ _ 306 _ _); refine call_pc (s_TaskOk) ?_)) <;> simp [-List.map_take, -List.map_drop, -List.map_tail, run_guard, run_guardD, resultsA, resA, Nat.add_assoc])
      | ((first | (with_reducible refine condS_split ?_ ?_)) <;> intro qb <;> (have qp := qb; try simp only [psq] at qp) <;> simp [-List.map_take, -List.map_drop, -List.map_tail, run_guard, run_guardD, resultsA, resA, Nat.add_assoc, qb])
    all_goals
      first
      | (have hlt : i < l.length := (by first | omega | (simp at *; omega))
         rw [drop_gt hlt] at hJ
         first
         | (refine hnx.go (()) ?_ ?_ ?_ ?_ ?_ ?_; omega; (simp [wrap_succ hlt hlim]); (simp); exact keepA; (first | omega | (simp; omega)); (try dsimp only); clear hnx; first | ((try simp only [List.drop_length, Int.toNat_natCast, List.any_cons, List.any_nil, tasksOk] at hJ ⊢); grind) | (simp_all [List.any_cons, List.any_nil, tasksOk]; done) | (simp_all; omega))
         | (refine ⟨?_, keepA⟩; clear hnx; first | ((try simp only [List.drop_length, Int.toNat_natCast, List.any_cons, List.any_nil, tasksOk] at hJ ⊢); grind) | (simp_all [List.any_cons, List.any_nil, tasksOk]; done) | (simp_all; omega)))
      | (obtain rfl : i = l.length := (by first | omega | (simp at *; omega))
         refine ⟨?_, keepA⟩; clear hnx; first | ((try simp only [List.drop_length, Int.toNat_natCast, List.any_cons, List.any_nil, tasksOk] at hJ ⊢); grind) | (simp_all [List.any_cons, List.any_nil, tasksOk]; done) | (simp_all; omega))
-- spec.GroupOk
theorem s_GroupOk {p : Bool} {g : Grp} : PC ctx.P 256 [.agg (grpV p g)] (.bool (grpOk g)) := by
  refine PC.lim (n := g.waits.length) (x := .agg (grpV p g)) (by simp) (.agg (x := .view p 1 (g.waits.map iv)) (by simp [grpV]) (.here (by simp))) ⟨_, Tryz.func256, by kernel_rfl, by kernel_rfl⟩ fun hlim => ?_
  refine PC.of okC Tryz.func256 rfl rfl (by kernel_rfl) (Nat.le_of_ble_eq_true rfl) (.bool _) fun h nx hnx => ?_
  show goC ctx _ _ (.fin (RetP _ _ _ _ _))
  try simp [-List.map_take, -List.map_drop, -List.map_tail, run_guard, run_guardD, resultsA, resA, Nat.add_assoc, grpV]
  repeat'
    first
    | done
    | ((first
        | ((with_reducible show lenS _ _ _ _ _ _); refine lenS_slice rfl fun _ => ?_)
        | ((with_reducible show iaddrS _ _ _ _ _ _ _); refine iaddr_map rfl omA omA ?_)
        | ((with_reducible show sliceS _ _ _ _ _ _ _ _); refine slice_to rfl omA omA ?_)
        | ((with_reducible show sliceS _ _ _ _ _ _ _ _); refine slice_from rfl omA omA ?_)
        | ((with_reducible show sliceS _ _ _ _ _ _ _ _); refine slice_mid rfl omA omA omA ?_)
        | ((with_reducible show sliceI _ _ _ _ _ _ _ _ _ _ _); refine sliceI_to rfl omA omA ?_)
        | ((with_reducible show sliceI _ _ _ _ _ _ _ _ _ _ _); refine sliceI_from rfl omA omA ?_)
        | ((with_reducible show sliceI _ _ _ _ _ _ _ _ _ _ _); refine sliceI_mid rfl omA omA omA ?_)
        | ((with_reducible show doCall _ _ _ 252 _ _); refine call_pc (s_l1In) ?_)
        | (with_reducible refine go_draw (i := 6) [(0, [], []), (1, [], []), (2, [], []), (3, [], []), (4, [], []), (5, [], []), (6, [], []), (7, [], []), (8, [], []), (9, [], []), (10, [], []), (11, [], []), (12, [], []), (13, [], []), (14, [], []), (15, [], []), (16, [], []), (17, [], []), (18, [], [])] (by kernel_rfl) ?_)) <;> simp [-List.map_take, -List.map_drop, -List.map_tail, run_guard, run_guardD, resultsA, resA, Nat.add_assoc, grpV])
    | ((first | (with_reducible refine guardD_split ?_ ?_) | (with_reducible refine guardS_split ?_ ?_) | (with_reducible refine condS_split ?_ ?_)) <;> intro qb <;> (have qp := qb; try simp only [psq] at qp) <;> simp [-List.map_take, -List.map_drop, -List.map_tail, run_guard, run_guardD, resultsA, resA, Nat.add_assoc, grpV, qb])
  all_goals first | (clear hnx; simp only [grpOk]; grind) | skip
  all_goals
    refine go_upP [2, 3, 38, 39, 40, 41, 42, 43, 44, 45, 46, 47, 48, 49, 50, 51, 52, 53, 54, 55, 56, 57, 58, 59, 60, 61, 62, 63] (g.waits.length) (fun (i : Nat) a => [(3, .int .i64 i)]) (fun i_ a_ h_ _ => (fun i (_ : Unit) _ => allI (fun i n => inR n 0 59 && !(g.waits.take i.toNat).contains n) (g.waits.drop i) i = allI (fun i n => inR n 0 59 && !(g.waits.take i.toNat).contains n) g.waits 0) i_ a_ h_) (()) (by simp) ?_ keep_rfl (Nat.le_refl _) ?_
    · simp
    · intro i a tm h' n' hle hJ hE hn' next hnx
      try dsimp only at hJ
      have hK : KeepB nx h' h := KeepB.sub hE keepA (by omega)
      simp [-List.map_take, -List.map_drop, -List.map_tail]
      have e1 : h' (nx) = some (.obj (grpV p g)) := by have := hE (nx) (by omega); simpa [grpV] using this
      have e1n : ∀ k, ((nx) = n' + k) = False := fun k => by simp only [eq_iff_iff, iff_false]; omega
      have e1m : ((nx) = n') = False := by simp only [eq_iff_iff, iff_false]; omega
      try simp [-List.map_take, -List.map_drop, -List.map_tail, run_guard, run_guardD, resultsA, resA, Nat.add_assoc, grpV, iv, e1, e1n, e1m]
      repeat'
        first
        | done
        | ((first
            | ((with_reducible show lenS _ _ _ _ _ _); refine lenS_slice rfl fun _ => ?_)
            | ((with_reducible show iaddrS _ _ _ _ _ _ _); refine iaddr_map rfl omA omA ?_)
            | ((with_reducible show sliceS _ _ _ _ _ _ _ _); refine slice_to rfl omA omA ?_)
            | ((with_reducible show sliceS _ _ _ _ _ _ _ _); refine slice_from rfl omA omA ?_)
            | ((with_reducible show sliceS _ _ _ _ _ _ _ _); refine slice_mid rfl omA omA omA ?_)
            | ((with_reducible show sliceI _ _ _ _ _ _ _ _ _ _ _); refine sliceI_to rfl omA omA ?_)
            | ((with_reducible show sliceI _ _ _ _ _ _ _ _ _ _ _); refine sliceI_from rfl omA omA ?_)
            | ((with_reducible show sliceI _ _ _ _ _ _ _ _ _ _ _); refine sliceI_mid rfl omA omA omA ?_)
            | ((with_reducible show doCall _ _ _ 252 _ _); refine call_pc (s_l1In) ?_)
            | ((with_reducible show doCall _ _ _ 304 _ _); refine call_pc (s_l6In) ?_)
            | (with_reducible refine go_draw (i := 6) [(0, [], []), (1, [], []), (2, [], []), (3, [], []), (4, [], []), (5, [], []), (6, [], []), (7, [], []), (8, [], []), (9, [], []), (10, [], []), (11, [], []), (12, [], []), (13, [], []), (14, [], []), (15, [], []), (16, [], []), (17, [], []), (18, [], [])] (by kernel_rfl) ?_)) <;> simp [-List.map_take, -List.map_drop, -List.map_tail, run_guard, run_guardD, resultsA, resA, Nat.add_assoc, grpV, iv, e1, e1n, e1m])
        | ((first | (with_reducible refine guardD_split ?_ ?_) | (with_reducible refine guardS_split ?_ ?_) | (with_reducible refine condS_split ?_ ?_)) <;> intro qb <;> (have qp := qb; try simp only [psq] at qp) <;> simp [-List.map_take, -List.map_drop, -List.map_tail, run_guard, run_guardD, resultsA, resA, Nat.add_assoc, grpV, iv, e1, e1n, e1m, qb])
      all_goals
        first
        | (have hlt : i < g.waits.length := (by first | omega | (simp at *; omega))
           rw [drop_gt hlt] at hJ
           first
           | (refine hnx.go (()) ?_ ?_ ?_ ?_ ?_ ?_; omega; (simp [wrap_succ hlt hlim]); (simp); exact keepA; (first | omega | (simp; omega)); (try dsimp only); clear hnx; first | ((try simp only [List.drop_length, Int.toNat_natCast, allI, grpOk] at hJ ⊢); grind) | (simp_all [allI, grpOk]; done) | (simp_all; omega))
           | (refine ⟨?_, keepA⟩; clear hnx; first | ((try simp only [List.drop_length, Int.toNat_natCast, allI, grpOk] at hJ ⊢); grind) | (simp_all [allI, grpOk]; done) | (simp_all; omega)))
        | (obtain rfl : i = g.waits.length := (by first | omega | (simp at *; omega))
           refine ⟨?_, keepA⟩; clear hnx; first | ((try simp only [List.drop_length, Int.toNat_natCast, allI, grpOk] at hJ ⊢); grind) | (simp_all [allI, grpOk]; done) | (simp_all; omega))
end Go.AE.Tryz
end

section
/- Contracts of the reference's readers: chains, events, functions, tasks, groups. -/
set_option linter.unusedSimpArgs false
set_option linter.unusedVariables false
set_option maxRecDepth 8000
set_option maxHeartbeats 4000000
namespace Go.AE.Tryz
open Go.Proofs

-- spec.SpreadOk
theorem s_SpreadOk {F : Nat → Bool} {p : Bool} {t : List Nod} {s : Spr} : PC ctx.P 142 [.view p 5 (t.map nodC), .agg (sprV F s)] (.bool (treeOk t && isSpread s t)) := by
  refine PC.lim (n := s.work.length) (x := .agg (sprV F s)) (by simp) (.agg (x := .view (F 5) 1 (s.work.map iv)) (by simp [sprV]) (.here (by simp))) ⟨_, Tryz.func142, by kernel_rfl, by kernel_rfl⟩ fun hlim => ?_
  refine PC.lim (n := t.length) (x := .view p 5 (t.map nodC)) (by simp) (.here (by simp)) ⟨_, Tryz.func142, by kernel_rfl, by kernel_rfl⟩ fun hlim2 => ?_
  refine PC.of okC Tryz.func142 rfl rfl (by kernel_rfl) (Nat.le_of_ble_eq_true rfl) (.bool _) fun h nx hnx => ?_
  show goC ctx _ _ (.fin (RetP _ _ _ _ _))
  try simp [-List.map_take, -List.map_drop, -List.map_tail, run_guard, run_guardD, resultsA, resA, Nat.add_assoc, sprV]
  repeat'
    first
    | done
    | ((first
        | ((with_reducible show lenS _ _ _ _ _ _); refine lenS_slice rfl fun _ => ?_)
        | ((with_reducible show iaddrS _ _ _ _ _ _ _); refine iaddr_map rfl omA omA ?_)
        | ((with_reducible show doCall _ _ _ 251 _ _); refine call_pc (s_TreeOk) ?_)) <;> simp [-List.map_take, -List.map_drop, -List.map_tail, run_guard, run_guardD, resultsA, resA, Nat.add_assoc, sprV])
    | ((first | (with_reducible refine guardS_split ?_ ?_) | (with_reducible refine condS_split ?_ ?_)) <;> intro qb <;> (have qp := qb; try simp only [psq] at qp) <;> simp [-List.map_take, -List.map_drop, -List.map_tail, run_guard, run_guardD, resultsA, resA, Nat.add_assoc, sprV, qb])
  all_goals first | (clear hnx; simp [isSpread]; grind) | skip
  refine go_upP [4, 5, 23, 24, 25, 26, 27, 28, 29, 30, 31, 32, 33, 34, 35, 36, 37, 38, 39] (s.work.length) (fun (i : Nat) a => [(5, .int .i64 i)]) (fun i_ a_ h_ _ => (fun i (_ : Unit) _ => ((s.work.drop i).any fun n => !isIn n t) = s.work.any fun n => !isIn n t) i_ a_ h_) (()) (by simp) ?_ keep_rfl (Nat.le_refl _) ?_
  · simp
  · intro i a tm h' n' hle hJ hE hn' next hnx
    try dsimp only at hJ
    have hK : KeepB nx h' h := KeepB.sub hE keepA (by omega)
    simp [-List.map_take, -List.map_drop, -List.map_tail]
    have e1 : h' (nx) = some (.obj (sprV F s)) := by have := hE (nx) (by omega); simpa [sprV] using this
    have e1n : ∀ k, ((nx) = n' + k) = False := fun k => by simp only [eq_iff_iff, iff_false]; omega
    have e1m : ((nx) = n') = False := by simp only [eq_iff_iff, iff_false]; omega
    try simp [-List.map_take, -List.map_drop, -List.map_tail, run_guard, run_guardD, resultsA, resA, Nat.add_assoc, sprV, iv, wrap_pred hlim2, e1, e1n, e1m]
    repeat'
      first
      | done
      | ((first
          | ((with_reducible show lenS _ _ _ _ _ _); refine lenS_slice rfl fun _ => ?_)
          | ((with_reducible show iaddrS _ _ _ _ _ _ _); refine iaddr_map rfl omA omA ?_)
          | ((with_reducible show doCall _ _ _ 252 _ _); refine call_pc (s_l1In) ?_)) <;> simp [-List.map_take, -List.map_drop, -List.map_tail, run_guard, run_guardD, resultsA, resA, Nat.add_assoc, sprV, iv, wrap_pred hlim2, e1, e1n, e1m])
      | ((first | (with_reducible refine guardS_split ?_ ?_) | (with_reducible refine condS_split ?_ ?_)) <;> intro qb <;> (have qp := qb; try simp only [psq] at qp) <;> simp [-List.map_take, -List.map_drop, -List.map_tail, run_guard, run_guardD, resultsA, resA, Nat.add_assoc, sprV, iv, wrap_pred hlim2, e1, e1n, e1m, qb])
    all_goals
      first
      | (have hlt : i < s.work.length := (by first | omega | (simp at *; omega))
         rw [drop_gt hlt] at hJ
         first
         | (refine hnx.go (()) ?_ ?_ ?_ ?_ ?_ ?_; omega; (simp [wrap_succ hlt hlim]); (simp); exact keepA; (first | omega | (simp; omega)); (try dsimp only); clear hnx; first | ((try simp only [List.drop_length, Int.toNat_natCast, List.any_cons, List.any_nil, isSpread, isIn] at hJ ⊢); grind) | (simp_all [List.any_cons, List.any_nil, isSpread, isIn]; done) | (simp_all; omega))
         | (refine ⟨?_, keepA⟩; clear hnx; first | ((try simp only [List.drop_length, Int.toNat_natCast, List.any_cons, List.any_nil, isSpread, isIn] at hJ ⊢); grind) | (simp_all [List.any_cons, List.any_nil, isSpread, isIn]; done) | (simp_all; omega)))
      | (obtain rfl : i = s.work.length := (by first | omega | (simp at *; omega))
         refine ⟨?_, keepA⟩; clear hnx; first | ((try simp only [List.drop_length, Int.toNat_natCast, List.any_cons, List.any_nil, isSpread, isIn] at hJ ⊢); grind) | (simp_all [List.any_cons, List.any_nil, isSpread, isIn]; done) | (simp_all; omega))
-- spec.AftersOk
theorem s_AftersOk {F : Nat → Bool} {x : Afs} : PC ctx.P 231 [.agg (afsV F x)] (.bool (afsOk x)) := by
  refine PC.lim (n := x.list.length) (x := .agg (afsV F x)) (by simp) (.agg (x := .view (F 10) 5 (x.list.map afrC)) (by simp [afsV]) (.here (by simp))) ⟨_, Tryz.func231, by kernel_rfl, by kernel_rfl⟩ fun hlim => ?_
  by_cases hs : sltOk x.slots = true
  · refine PC.of okC Tryz.func231 rfl rfl (by kernel_rfl) (Nat.le_of_ble_eq_true rfl) (.bool _) fun h nx hnx => ?_
    show goC ctx _ _ (.fin (RetP _ _ _ _ _))
    try simp [-List.map_take, -List.map_drop, -List.map_tail, run_guard, run_guardD, resultsA, resA, Nat.add_assoc, afsV, hs]
    repeat'
      first
      | done
      | ((first
          | ((with_reducible show lenS _ _ _ _ _ _); refine lenS_slice rfl fun _ => ?_)
          | ((with_reducible show iaddrS _ _ _ _ _ _ _); refine iaddr_map rfl omA omA ?_)
          | ((with_reducible show doCall _ _ _ 321 _ _); refine call_pc (s_SlotsOk (s := x.slots) (F := F)) ?_)
          | ((with_reducible show doCall _ _ _ 322 _ _); refine call_pc (s_UsedIn (s := x.slots) (F := F)) ?_)
          | (with_reducible refine go_draw (i := 1) [(0, [], []), (1, [], []), (2, [], []), (3, [], []), (4, [], []), (5, [], []), (6, [], []), (7, [], []), (8, [], []), (9, [], []), (10, [.tmp 11], []), (11, [], []), (12, [], [])] (by kernel_rfl) ?_)
          | (with_reducible refine go_draw (i := 12) [(0, [], []), (1, [], []), (2, [], []), (3, [], []), (4, [], []), (5, [], []), (6, [], []), (7, [], []), (8, [], [])] (by kernel_rfl) ?_)) <;> simp [-List.map_take, -List.map_drop, -List.map_tail, run_guard, run_guardD, resultsA, resA, Nat.add_assoc, afsV, hs])
      | ((first | (with_reducible refine guardD_split ?_ ?_) | (with_reducible refine guardS_split ?_ ?_) | (with_reducible refine condS_split ?_ ?_)) <;> intro qb <;> (have qp := qb; try simp only [psq] at qp) <;> simp [-List.map_take, -List.map_drop, -List.map_tail, run_guard, run_guardD, resultsA, resA, Nat.add_assoc, afsV, hs, qb])
    · simp only [afsOk]; grind
    refine go_upP [2, 3, 4, 5, 19, 20, 21, 22, 23, 24, 25, 26, 27, 28, 29, 30, 31, 32, 33, 34, 35, 36, 37, 38, 39, 40, 41, 42, 43, 44, 45, 46, 47, 48, 49, 50, 51, 52, 53, 54, 55, 56, 57, 58, 59, 60, 61, 62] (x.list.length) (fun (i : Nat) a => [(3, .int .i64 i)]) (fun i_ a_ h_ _ => (fun (i : Nat) (_ : Unit) _ => allI (fun i y => isAfter y.node y.fn && (sltHolds x.slots y.han && afsAt x.list y.han == i)) (x.list.drop i) i = allI (fun i y => isAfter y.node y.fn && (sltHolds x.slots y.han && afsAt x.list y.han == i)) x.list 0) i_ a_ h_) (()) (by simp) ?_ keep_rfl (Nat.le_refl _) ?_
    · simp
    · intro i a tm h' n' hle hJ hE hn' next hnx
      try dsimp only at hJ
      have hK : KeepB nx h' h := KeepB.sub hE keepA (by omega)
      simp [-List.map_take, -List.map_drop, -List.map_tail]
      have e1 : h' (nx) = some (.obj (afsV F x)) := by have := hE (nx) (by omega); simpa [afsV] using this
      have e1n : ∀ k, ((nx) = n' + k) = False := fun k => by simp only [eq_iff_iff, iff_false]; omega
      have e1m : ((nx) = n') = False := by simp only [eq_iff_iff, iff_false]; omega
      try simp [-List.map_take, -List.map_drop, -List.map_tail, run_guard, run_guardD, resultsA, resA, Nat.add_assoc, afsV, afrC, e1, e1n, e1m, hs]
      repeat'
        first
        | done
        | ((first
            | ((with_reducible show lenS _ _ _ _ _ _); refine lenS_slice rfl fun _ => ?_)
            | ((with_reducible show iaddrS _ _ _ _ _ _ _); refine iaddr_map rfl omA omA ?_)
            | ((with_reducible show doCall _ _ _ 323 _ _); refine call_pc (s_Holds (s := x.slots) (F := F) (x := (gt x.list (i : Int)).han)) ?_)
            | ((with_reducible show doCall _ _ _ 252 _ _); refine call_pc (s_l1In) ?_)
            | (with_reducible refine go_draw (i := 1) [(0, [], []), (1, [], []), (2, [], []), (3, [], []), (4, [], []), (5, [], []), (6, [], []), (7, [], []), (8, [], []), (9, [], []), (10, [.tmp 11], []), (11, [], []), (12, [], [])] (by kernel_rfl) ?_)
            | (with_reducible refine go_draw (i := 12) [(0, [], []), (1, [], []), (2, [], []), (3, [], []), (4, [], []), (5, [], []), (6, [], []), (7, [], []), (8, [], [])] (by kernel_rfl) ?_)) <;> simp [-List.map_take, -List.map_drop, -List.map_tail, run_guard, run_guardD, resultsA, resA, Nat.add_assoc, afsV, afrC, e1, e1n, e1m, hs])
        | ((first | (with_reducible refine guardD_split ?_ ?_) | (with_reducible refine guardS_split ?_ ?_) | (with_reducible refine condS_split ?_ ?_)) <;> intro qb <;> (have qp := qb; try simp only [psq] at qp) <;> simp [-List.map_take, -List.map_drop, -List.map_tail, run_guard, run_guardD, resultsA, resA, Nat.add_assoc, afsV, afrC, e1, e1n, e1m, hs, qb])
      · have hlt : i < x.list.length := (by omega)
        rw [drop_gt hlt] at hJ
        refine ⟨?_, keepA⟩; clear hnx; simp only [allI] at hJ; simp only [afsOk]; grind
      · have hlt : i < x.list.length := (by omega)
        rw [drop_gt hlt] at hJ
        refine ⟨?_, keepA⟩; clear hnx; simp only [allI, isAfter] at hJ; simp only [afsOk, isAfter]; grind
      · have hlt : i < x.list.length := (by omega)
        rw [drop_gt hlt] at hJ
        refine ⟨?_, keepA⟩; clear hnx; simp only [allI, isAfter] at hJ; simp only [afsOk, isAfter]; grind
      · have hlt : i < x.list.length := (by omega)
        rw [drop_gt hlt] at hJ
        refine go_upP [2, 5, 49, 50, 51, 52, 53, 54, 55, 56, 57, 58, 59, 60, 61, 62] (i) (fun (i : Nat) a => [(5, .int .i64 i)]) (fun i_ a_ h_ _ => (fun (j : Nat) (_ : Unit) _ => idxI (fun y => y.han == (gt x.list (i : Int)).han) ((x.list.take i).drop j) j = idxI (fun y => y.han == (gt x.list (i : Int)).han) (x.list.take i) 0) i_ a_ h_) (()) (by simp) ?_ keep_rfl (Nat.le_refl _) ?_
        · simp
        · intro j b tm2 h2 n2 hle2 hJ2 hE2 hn2 next2 hnx2
          try dsimp only at hJ2
          have hK2 : KeepB nx h2 h := KeepB.sub hE2 keepA (by omega)
          simp [-List.map_take, -List.map_drop, -List.map_tail]
          have e2 : h2 (nx) = some (.obj (afsV F x)) := by have := hE2 (nx) (by omega); simpa [e1, e1n, e1m, afsV] using this
          have e2n : ∀ k, ((nx) = n2 + k) = False := fun k => by simp only [eq_iff_iff, iff_false]; omega
          have e2m : ((nx) = n2) = False := by simp only [eq_iff_iff, iff_false]; omega
          have e3 : h2 (n' + 10) = some (.obj (afrC (gt x.list (i : Int)))) := by have := hE2 (n' + 10) (by omega); simpa [afrC] using this
          have e3n : ∀ k, ((n' + 10) = n2 + k) = False := fun k => by simp only [eq_iff_iff, iff_false]; omega
          have e3m : ((n' + 10) = n2) = False := by simp only [eq_iff_iff, iff_false]; omega
          try simp [-List.map_take, -List.map_drop, -List.map_tail, run_guard, run_guardD, resultsA, resA, Nat.add_assoc, afsV, afrC, e2, e2n, e2m, e3, e3n, e3m, hanC, lfOf, cellsEq, cellEq]
          repeat'
            first
            | done
            | ((first
                | ((with_reducible show lenS _ _ _ _ _ _); refine lenS_slice rfl fun _ => ?_)
                | ((with_reducible show iaddrS _ _ _ _ _ _ _); refine iaddr_map rfl omA omA ?_)
                | (with_reducible refine go_draw (i := 1) [(0, [], []), (1, [], []), (2, [], []), (3, [], []), (4, [], []), (5, [], []), (6, [], []), (7, [], []), (8, [], []), (9, [], []), (10, [.tmp 11], []), (11, [], []), (12, [], [])] (by kernel_rfl) ?_)
                | (with_reducible refine go_draw (i := 12) [(0, [], []), (1, [], []), (2, [], []), (3, [], []), (4, [], []), (5, [], []), (6, [], []), (7, [], []), (8, [], [])] (by kernel_rfl) ?_)) <;> simp [-List.map_take, -List.map_drop, -List.map_tail, run_guard, run_guardD, resultsA, resA, Nat.add_assoc, afsV, afrC, e2, e2n, e2m, e3, e3n, e3m, hanC, lfOf, cellsEq, cellEq])
            | ((first | (with_reducible refine guardD_split ?_ ?_) | (with_reducible refine guardS_split ?_ ?_) | (with_reducible refine condS_split ?_ ?_)) <;> intro qb <;> (have qp := qb; try simp only [psq] at qp) <;> simp [-List.map_take, -List.map_drop, -List.map_tail, run_guard, run_guardD, resultsA, resA, Nat.add_assoc, afsV, afrC, e2, e2n, e2m, e3, e3n, e3m, hanC, lfOf, cellsEq, cellEq, qb])
          · rw [han_eq] at qb
            have r := idx_here (by omega) (by omega) hJ2 qb
            have hh := afsAt_here hlt
            rw [r] at hh
            refine ⟨?_, keepA⟩; clear hnx hnx2; simp only [allI, isAfter] at hJ; simp only [afsOk, isAfter]; grind
          · rw [han_eq] at qb
            refine hnx2.go () (by omega) (by simp [wrap_succ (show j < x.list.length by omega) hlim]) (by simp) keepA (by first | omega | (simp; omega)) ?_
            exact idx_on (by omega) (by omega) hJ2 qb
          · have r := idx_end (by omega) hJ2
            have hh := afsAt_here hlt
            rw [r] at hh
            refine hnx.go () (by omega) (by simp [wrap_succ hlt hlim]) (by simp) keepA (by first | omega | (simp; omega)) ?_
            clear hnx hnx2; dsimp only; simp only [allI, isAfter] at hJ ⊢; grind
      · refine ⟨?_, keepA⟩; rw [List.drop_eq_nil_of_le (by omega)] at hJ; clear hnx; simp only [allI] at hJ; simp only [afsOk]; grind
  · refine PC.of okC Tryz.func231 rfl rfl (by kernel_rfl) (Nat.le_of_ble_eq_true rfl) (.bool _) fun h nx hnx => ?_
    show goC ctx _ _ (.fin (RetP _ _ _ _ _))
    try simp [-List.map_take, -List.map_drop, -List.map_tail, run_guard, run_guardD, resultsA, resA, Nat.add_assoc, afsV, hs]
    repeat'
      first
      | done
      | ((first
          | ((with_reducible show lenS _ _ _ _ _ _); refine lenS_slice rfl fun _ => ?_)
          | ((with_reducible show iaddrS _ _ _ _ _ _ _); refine iaddr_map rfl omA omA ?_)
          | ((with_reducible show doCall _ _ _ 321 _ _); refine call_pc (s_SlotsOk (s := x.slots) (F := F)) ?_)
          | (with_reducible refine go_draw (i := 1) [(0, [], []), (1, [], []), (2, [], []), (3, [], []), (4, [], []), (5, [], []), (6, [], []), (7, [], []), (8, [], []), (9, [], []), (10, [.tmp 11], []), (11, [], []), (12, [], [])] (by kernel_rfl) ?_)
          | (with_reducible refine go_draw (i := 12) [(0, [], []), (1, [], []), (2, [], []), (3, [], []), (4, [], []), (5, [], []), (6, [], []), (7, [], []), (8, [], [])] (by kernel_rfl) ?_)) <;> simp [-List.map_take, -List.map_drop, -List.map_tail, run_guard, run_guardD, resultsA, resA, Nat.add_assoc, afsV, hs])
      | ((first | (with_reducible refine guardD_split ?_ ?_) | (with_reducible refine guardS_split ?_ ?_) | (with_reducible refine condS_split ?_ ?_)) <;> intro qb <;> (have qp := qb; try simp only [psq] at qp) <;> simp [-List.map_take, -List.map_drop, -List.map_tail, run_guard, run_guardD, resultsA, resA, Nat.add_assoc, afsV, hs, qb])
    all_goals (try clear hnx)
    all_goals first | (simp_all [afsOk]; done) | (simp_all [afsOk]; omega) | (rw [Bool.eq_iff_iff]; simp_all [afsOk]; done) | (rw [Bool.eq_iff_iff]; simp_all [afsOk]; omega) | omega | (simp only [afsOk]; grind) | grind
end Go.AE.Tryz
end

section
/- Contracts of the reference's readers: worlds. -/
set_option linter.unusedSimpArgs false
set_option linter.unusedVariables false
set_option maxRecDepth 8000
set_option maxHeartbeats 4000000
namespace Go.AE.Tryz
open Go.Proofs

-- spec.l13Numbers
theorem s_Numbers {p : Bool} {l : List Int} {m : Int} : PC ctx.P 148 [.view p 1 (l.map iv), .int .i64 m] (.bool (all1 (fun n => inR n 0 m) l && decide (l.length ≤ 2000))) := by
  refine PC.lim (n := l.length) (x := .view p 1 (l.map iv)) (by simp) (.here (by simp)) ⟨_, Tryz.func148, by kernel_rfl, by kernel_rfl⟩ fun hlim => ?_
  refine PC.of okC Tryz.func148 rfl rfl (by kernel_rfl) (Nat.le_of_ble_eq_true rfl) (.bool _) fun h nx hnx => ?_
  show goC ctx _ _ (.fin (RetP _ _ _ _ _))
  try simp [-List.map_take, -List.map_drop, -List.map_tail, run_guard, run_guardD, resultsA, resA, Nat.add_assoc]
  repeat'
    first
    | done
    | ((first
        | ((with_reducible show lenS _ _ _ _ _ _); refine lenS_slice rfl fun _ => ?_)
        | ((with_reducible show iaddrS _ _ _ _ _ _ _); refine iaddr_map rfl omA omA ?_)) <;> simp [-List.map_take, -List.map_drop, -List.map_tail, run_guard, run_guardD, resultsA, resA, Nat.add_assoc])
    | ((first | (with_reducible refine condS_split ?_ ?_)) <;> intro qb <;> (have qp := qb; try simp only [psq] at qp) <;> simp [-List.map_take, -List.map_drop, -List.map_tail, run_guard, run_guardD, resultsA, resA, Nat.add_assoc, qb])
  refine go_upP [4, 5, 6, 7, 8, 9, 10, 11, 12, 13, 14, 15, 16, 17, 18] (l.length) (fun (i : Nat) a => [(5, .int .i64 i)]) (fun i_ a_ h_ _ => (fun i (_ : Unit) _ => all1 (fun n => inR n 0 m) (l.drop i) = all1 (fun n => inR n 0 m) l) i_ a_ h_) (()) (by simp) ?_ keep_rfl (Nat.le_refl _) ?_
  · simp
  · intro i a tm h' n' hle hJ hE hn' next hnx
    try dsimp only at hJ
    have hK : KeepB nx h' h := KeepB.sub hE keepA (by omega)
    simp [-List.map_take, -List.map_drop, -List.map_tail]
    try simp [-List.map_take, -List.map_drop, -List.map_tail, run_guard, run_guardD, resultsA, resA, Nat.add_assoc, iv]
    repeat'
      first
      | done
      | ((first
          | ((with_reducible show lenS _ _ _ _ _ _); refine lenS_slice rfl fun _ => ?_)
          | ((with_reducible show iaddrS _ _ _ _ _ _ _); refine iaddr_map rfl omA omA ?_)
          | ((with_reducible show doCall _ _ _ 252 _ _); refine call_pc (s_l1In) ?_)) <;> simp [-List.map_take, -List.map_drop, -List.map_tail, run_guard, run_guardD, resultsA, resA, Nat.add_assoc, iv])
      | ((first | (with_reducible refine condS_split ?_ ?_)) <;> intro qb <;> (have qp := qb; try simp only [psq] at qp) <;> simp [-List.map_take, -List.map_drop, -List.map_tail, run_guard, run_guardD, resultsA, resA, Nat.add_assoc, iv, qb])
    all_goals
      first
      | (have hlt : i < l.length := (by first | omega | (simp at *; omega))
         rw [drop_gt hlt] at hJ
         first
         | (refine hnx.go (()) ?_ ?_ ?_ ?_ ?_ ?_; omega; (simp [wrap_succ hlt hlim]); (simp); exact keepA; (first | omega | (simp; omega)); (try dsimp only); clear hnx; first | ((try simp only [List.drop_length, Int.toNat_natCast, all1_cons, all1_nil] at hJ ⊢); grind) | (simp_all [all1_cons, all1_nil]; done) | (simp_all; omega))
         | (refine ⟨?_, keepA⟩; clear hnx; first | ((try simp only [List.drop_length, Int.toNat_natCast, all1_cons, all1_nil] at hJ ⊢); grind) | (simp_all [all1_cons, all1_nil]; done) | (simp_all; omega)))
      | (obtain rfl : i = l.length := (by first | omega | (simp at *; omega))
         refine ⟨?_, keepA⟩; clear hnx; first | ((try simp only [List.drop_length, Int.toNat_natCast, all1_cons, all1_nil] at hJ ⊢); grind) | (simp_all [all1_cons, all1_nil]; done) | (simp_all; omega))
-- spec.l13Progs
theorem s_Progs {p r : Bool} {l : List (List Inn)} : PC ctx.P 140 [.view p 1 (l.map (prgV r))] (.bool (all1 progOk l && decide (l.length ≤ 8))) := by
  refine PC.lim (n := l.length) (x := .view p 1 (l.map (prgV r))) (by simp) (.here (by simp)) ⟨_, Tryz.func140, by kernel_rfl, by kernel_rfl⟩ fun hlim => ?_
  refine PC.of okC Tryz.func140 rfl rfl (by kernel_rfl) (Nat.le_of_ble_eq_true rfl) (.bool _) fun h nx hnx => ?_
  show goC ctx _ _ (.fin (RetP _ _ _ _ _))
  try simp [-List.map_take, -List.map_drop, -List.map_tail, run_guard, run_guardD, resultsA, resA, Nat.add_assoc]
  repeat'
    first
    | done
    | ((first
        | ((with_reducible show lenS _ _ _ _ _ _); refine lenS_slice rfl fun _ => ?_)
        | ((with_reducible show iaddrS _ _ _ _ _ _ _); refine iaddr_map rfl omA omA ?_)) <;> simp [-List.map_take, -List.map_drop, -List.map_tail, run_guard, run_guardD, resultsA, resA, Nat.add_assoc])
    | ((first | (with_reducible refine condS_split ?_ ?_)) <;> intro qb <;> (have qp := qb; try simp only [psq] at qp) <;> simp [-List.map_take, -List.map_drop, -List.map_tail, run_guard, run_guardD, resultsA, resA, Nat.add_assoc, qb])
  refine go_upP [2, 3, 4, 5, 6, 7, 8, 9, 10, 11, 12, 13, 14, 15] (l.length) (fun (i : Nat) a => [(3, .int .i64 i)]) (fun i_ a_ h_ _ => (fun i (_ : Unit) _ => all1 progOk (l.drop i) = all1 progOk l) i_ a_ h_) (()) (by simp) ?_ keep_rfl (Nat.le_refl _) ?_
  · simp
  · intro i a tm h' n' hle hJ hE hn' next hnx
    try dsimp only at hJ
    have hK : KeepB nx h' h := KeepB.sub hE keepA (by omega)
    simp [-List.map_take, -List.map_drop, -List.map_tail]
    try simp [-List.map_take, -List.map_drop, -List.map_tail, run_guard, run_guardD, resultsA, resA, Nat.add_assoc, prgV]
    repeat'
      first
      | done
      | ((first
          | ((with_reducible show lenS _ _ _ _ _ _); refine lenS_slice rfl fun _ => ?_)
          | ((with_reducible show iaddrS _ _ _ _ _ _ _); refine iaddr_map rfl omA omA ?_)
          | ((with_reducible show doCall _ _ _ 249 _ _); refine call_pc (s_ProgOk) ?_)) <;> simp [-List.map_take, -List.map_drop, -List.map_tail, run_guard, run_guardD, resultsA, resA, Nat.add_assoc, prgV])
      | ((first | (with_reducible refine condS_split ?_ ?_)) <;> intro qb <;> (have qp := qb; try simp only [psq] at qp) <;> simp [-List.map_take, -List.map_drop, -List.map_tail, run_guard, run_guardD, resultsA, resA, Nat.add_assoc, prgV, qb])
    all_goals
      first
      | (have hlt : i < l.length := (by first | omega | (simp at *; omega))
         rw [drop_gt hlt] at hJ
         first
         | (refine hnx.go (()) ?_ ?_ ?_ ?_ ?_ ?_; omega; (simp [wrap_succ hlt hlim]); (simp); exact keepA; (first | omega | (simp; omega)); (try dsimp only); clear hnx; first | ((try simp only [List.drop_length, Int.toNat_natCast, all1_cons, all1_nil] at hJ ⊢); grind) | (simp_all [all1_cons, all1_nil]; done) | (simp_all; omega))
         | (refine ⟨?_, keepA⟩; clear hnx; first | ((try simp only [List.drop_length, Int.toNat_natCast, all1_cons, all1_nil] at hJ ⊢); grind) | (simp_all [all1_cons, all1_nil]; done) | (simp_all; omega)))
      | (obtain rfl : i = l.length := (by first | omega | (simp at *; omega))
         refine ⟨?_, keepA⟩; clear hnx; first | ((try simp only [List.drop_length, Int.toNat_natCast, all1_cons, all1_nil] at hJ ⊢); grind) | (simp_all [all1_cons, all1_nil]; done) | (simp_all; omega))
-- spec.l13Node
theorem s_Node {F : Nat → Bool} {w : Wld} {n : Int} : PC ctx.P 253 [.agg (wldV F w), .int .i64 n] (.bool (isIn n w.tree)) := by
  refine PC.lim (n := w.tree.length) (x := .agg (wldV F w)) (by simp) (.agg (x := .view (F 2) 5 (w.tree.map nodC)) (by simp [wldV]) (.here (by simp))) ⟨_, Tryz.func253, by kernel_rfl, by kernel_rfl⟩ fun hlim => ?_
  refine PC.of okC Tryz.func253 rfl rfl (by kernel_rfl) (Nat.le_of_ble_eq_true rfl) (.bool _) fun h nx hnx => ?_
  show goC ctx _ _ (.fin (RetP _ _ _ _ _))
  try simp [-List.map_take, -List.map_drop, -List.map_tail, run_guard, run_guardD, resultsA, resA, Nat.add_assoc, wldV, wrap_pred hlim, isIn]
  repeat'
    first
    | done
    | ((first
        | ((with_reducible show lenS _ _ _ _ _ _); refine lenS_slice rfl fun _ => ?_)
        | ((with_reducible show doCall _ _ _ 252 _ _); refine call_pc (s_l1In) ?_)) <;> simp [-List.map_take, -List.map_drop, -List.map_tail, run_guard, run_guardD, resultsA, resA, Nat.add_assoc, wldV, wrap_pred hlim, isIn])
-- spec.l13Task
theorem s_Task {F : Nat → Bool} {w : Wld} {n : Int} : PC ctx.P 254 [.agg (wldV F w), .int .i64 n] (.bool (isIn n w.tasks)) := by
  refine PC.lim (n := w.tasks.length) (x := .agg (wldV F w)) (by simp) (.agg (x := .view (F 11) 9 (w.tasks.map tskC)) (by simp [wldV]) (.here (by simp))) ⟨_, Tryz.func254, by kernel_rfl, by kernel_rfl⟩ fun hlim => ?_
  refine PC.of okC Tryz.func254 rfl rfl (by kernel_rfl) (Nat.le_of_ble_eq_true rfl) (.bool _) fun h nx hnx => ?_
  show goC ctx _ _ (.fin (RetP _ _ _ _ _))
  try simp [-List.map_take, -List.map_drop, -List.map_tail, run_guard, run_guardD, resultsA, resA, Nat.add_assoc, wldV, wrap_pred hlim, isIn]
  repeat'
    first
    | done
    | ((first
        | ((with_reducible show lenS _ _ _ _ _ _); refine lenS_slice rfl fun _ => ?_)
        | ((with_reducible show doCall _ _ _ 252 _ _); refine call_pc (s_l1In) ?_)) <;> simp [-List.map_take, -List.map_drop, -List.map_tail, run_guard, run_guardD, resultsA, resA, Nat.add_assoc, wldV, wrap_pred hlim, isIn])
-- spec.l13Group
theorem s_Group {F : Nat → Bool} {w : Wld} {n : Int} : PC ctx.P 255 [.agg (wldV F w), .int .i64 n] (.bool (isIn n w.groups)) := by
  refine PC.lim (n := w.groups.length) (x := .agg (wldV F w)) (by simp) (.agg (x := .view (F 12) 5 (w.groups.map (grpV (F 13)))) (by simp [wldV]) (.here (by simp))) ⟨_, Tryz.func255, by kernel_rfl, by kernel_rfl⟩ fun hlim => ?_
  refine PC.of okC Tryz.func255 rfl rfl (by kernel_rfl) (Nat.le_of_ble_eq_true rfl) (.bool _) fun h nx hnx => ?_
  show goC ctx _ _ (.fin (RetP _ _ _ _ _))
  try simp [-List.map_take, -List.map_drop, -List.map_tail, run_guard, run_guardD, resultsA, resA, Nat.add_assoc, wldV, wrap_pred hlim, isIn]
  repeat'
    first
    | done
    | ((first
        | ((with_reducible show lenS _ _ _ _ _ _); refine lenS_slice rfl fun _ => ?_)
        | ((with_reducible show doCall _ _ _ 252 _ _); refine call_pc (s_l1In) ?_)) <;> simp [-List.map_take, -List.map_drop, -List.map_tail, run_guard, run_guardD, resultsA, resA, Nat.add_assoc, wldV, wrap_pred hlim, isIn])
-- spec.l13Events
theorem s_Events {F : Nat → Bool} {w : Wld} : PC ctx.P 141 [.agg (wldV F w)] (.bool (eventsOk w.tree w.events && w.events.all (fun e => inR e.time 0 w.now))) := by
  refine PC.lim (n := w.events.length) (x := .agg (wldV F w)) (by simp) (.agg (x := .view (F 3) 4 (w.events.map evtC)) (by simp [wldV]) (.here (by simp))) ⟨_, Tryz.func141, by kernel_rfl, by kernel_rfl⟩ fun hlim => ?_
  rw [evTimes_eq]
  refine PC.of okC Tryz.func141 rfl rfl (by kernel_rfl) (Nat.le_of_ble_eq_true rfl) (.bool _) fun h nx hnx => ?_
  show goC ctx _ _ (.fin (RetP _ _ _ _ _))
  try simp [-List.map_take, -List.map_drop, -List.map_tail, run_guard, run_guardD, resultsA, resA, Nat.add_assoc, wldV, evtC, wrap_pred hlim]
  repeat'
    first
    | done
    | ((first
        | ((with_reducible show lenS _ _ _ _ _ _); refine lenS_slice rfl fun _ => ?_)
        | ((with_reducible show iaddrS _ _ _ _ _ _ _); refine iaddr_map rfl omA omA ?_)
        | ((with_reducible show doCall _ _ _ 250 _ _); refine call_pc (s_EventsOk) ?_)
        | (with_reducible refine go_draw (i := 2) [(0, [], []), (1, [], []), (2, [], []), (3, [], []), (4, [], []), (5, [], []), (6, [], []), (7, [], []), (8, [], []), (9, [], []), (10, [], []), (11, [], []), (12, [], []), (13, [], []), (14, [], []), (15, [], []), (16, [], []), (17, [], []), (18, [], []), (19, [], []), (20, [], []), (21, [], []), (22, [], []), (23, [], []), (24, [], []), (25, [], []), (26, [], []), (27, [], []), (28, [], []), (29, [], [])] (by kernel_rfl) ?_)) <;> simp [-List.map_take, -List.map_drop, -List.map_tail, run_guard, run_guardD, resultsA, resA, Nat.add_assoc, wldV, evtC, wrap_pred hlim])
    | ((first | (with_reducible refine guardD_split ?_ ?_)) <;> intro qb <;> (have qp := qb; try simp only [psq] at qp) <;> simp [-List.map_take, -List.map_drop, -List.map_tail, run_guard, run_guardD, resultsA, resA, Nat.add_assoc, wldV, evtC, wrap_pred hlim, qb])
  all_goals (try clear hnx)
  all_goals first | (simp_all []; done) | (simp_all []; omega) | (rw [Bool.eq_iff_iff]; simp_all []; done) | (rw [Bool.eq_iff_iff]; simp_all []; omega) | omega | (simp only []; grind) | grind
-- spec.l13Timers
theorem s_Timers {F : Nat → Bool} {w : Wld} : PC ctx.P 143 [.agg (wldV F w)] (.bool (tmsOk w.timers && all1 (isTimer w) w.timers.list)) := by
  refine PC.lim (n := w.timers.list.length) (x := .agg (wldV F w)) (by simp) (.agg (x := .view (F 7) 5 (w.timers.list.map tmrC)) (by simp [wldV]) (.here (by simp))) ⟨_, Tryz.func143, by kernel_rfl, by kernel_rfl⟩ fun hlim => ?_
  refine PC.of okC Tryz.func143 rfl rfl (by kernel_rfl) (Nat.le_of_ble_eq_true rfl) (.bool _) fun h nx hnx => ?_
  show goC ctx _ _ (.fin (RetP _ _ _ _ _))
  try simp [-List.map_take, -List.map_drop, -List.map_tail, run_guard, run_guardD, resultsA, resA, Nat.add_assoc, wldV]
  repeat'
    first
    | done
    | ((first
        | ((with_reducible show lenS _ _ _ _ _ _); refine lenS_slice rfl fun _ => ?_)
        | ((with_reducible show iaddrS _ _ _ _ _ _ _); refine iaddr_map rfl omA omA ?_)
        | ((with_reducible show doCall _ _ _ 208 _ _); refine call_pc (s_TimersOk (t := w.timers) (F := F)) ?_)) <;> simp [-List.map_take, -List.map_drop, -List.map_tail, run_guard, run_guardD, resultsA, resA, Nat.add_assoc, wldV])
    | ((first | (with_reducible refine guardS_split ?_ ?_) | (with_reducible refine condS_split ?_ ?_)) <;> intro qb <;> (have qp := qb; try simp only [psq] at qp) <;> simp [-List.map_take, -List.map_drop, -List.map_tail, run_guard, run_guardD, resultsA, resA, Nat.add_assoc, wldV, qb])
  all_goals first | (clear hnx; simp_all; done) | skip
  refine go_upP [2, 3, 4, 9, 10, 11, 12, 13, 14, 15, 16, 17, 18, 19, 20, 21, 22, 23, 24, 25, 26, 27, 28, 29, 30, 31, 32, 33, 34, 35, 36, 37, 38, 39, 40, 41, 42, 43, 44] (w.timers.list.length) (fun (i : Nat) a => [(3, .int .i64 i)]) (fun i_ a_ h_ _ => (fun i (_ : Unit) _ => all1 (isTimer w) (w.timers.list.drop i) = all1 (isTimer w) w.timers.list) i_ a_ h_) (()) (by simp) ?_ keep_rfl (Nat.le_refl _) ?_
  · simp
  · intro i a tm h' n' hle hJ hE hn' next hnx
    try dsimp only at hJ
    have hK : KeepB nx h' h := KeepB.sub hE keepA (by omega)
    simp [-List.map_take, -List.map_drop, -List.map_tail]
    have e1 : h' (nx) = some (.obj (wldV F w)) := by have := hE (nx) (by omega); simpa [wldV] using this
    have e1n : ∀ k, ((nx) = n' + k) = False := fun k => by simp only [eq_iff_iff, iff_false]; omega
    have e1m : ((nx) = n') = False := by simp only [eq_iff_iff, iff_false]; omega
    try simp [-List.map_take, -List.map_drop, -List.map_tail, run_guard, run_guardD, resultsA, resA, Nat.add_assoc, wldV, tmrC, e1, e1n, e1m]
    repeat'
      first
      | done
      | ((first
          | ((with_reducible show lenS _ _ _ _ _ _); refine lenS_slice rfl fun _ => ?_)
          | ((with_reducible show iaddrS _ _ _ _ _ _ _); refine iaddr_map rfl omA omA ?_)
          | ((with_reducible show doCall _ _ _ 253 _ _); refine call_pc (s_Node (w := w) (F := F)) ?_)
          | ((with_reducible show doCall _ _ _ 254 _ _); refine call_pc (s_Task (w := w) (F := F)) ?_)) <;> simp [-List.map_take, -List.map_drop, -List.map_tail, run_guard, run_guardD, resultsA, resA, Nat.add_assoc, wldV, tmrC, e1, e1n, e1m])
      | ((first | (with_reducible refine guardS_split ?_ ?_) | (with_reducible refine condS_split ?_ ?_)) <;> intro qb <;> (have qp := qb; try simp only [psq] at qp) <;> simp [-List.map_take, -List.map_drop, -List.map_tail, run_guard, run_guardD, resultsA, resA, Nat.add_assoc, wldV, tmrC, e1, e1n, e1m, qb])
    all_goals
      first
      | (have hlt : i < w.timers.list.length := (by first | omega | (simp at *; omega))
         rw [drop_gt hlt] at hJ
         first
         | (refine hnx.go (()) ?_ ?_ ?_ ?_ ?_ ?_; omega; (simp [wrap_succ hlt hlim]); (simp); exact keepA; (first | omega | (simp; omega)); (try dsimp only); clear hnx; first | ((try simp only [List.drop_length, Int.toNat_natCast, all1_cons, all1_nil, isTimer] at hJ ⊢); grind) | (simp_all [all1_cons, all1_nil, isTimer]; done) | (simp_all; omega))
         | (refine ⟨?_, keepA⟩; clear hnx; first | ((try simp only [List.drop_length, Int.toNat_natCast, all1_cons, all1_nil, isTimer] at hJ ⊢); grind) | (simp_all [all1_cons, all1_nil, isTimer]; done) | (simp_all; omega)))
      | (obtain rfl : i = w.timers.list.length := (by first | omega | (simp at *; omega))
         refine ⟨?_, keepA⟩; clear hnx; first | ((try simp only [List.drop_length, Int.toNat_natCast, all1_cons, all1_nil, isTimer] at hJ ⊢); grind) | (simp_all [all1_cons, all1_nil, isTimer]; done) | (simp_all; omega))
-- spec.l13Afters
theorem s_Afters {F : Nat → Bool} {w : Wld} : PC ctx.P 144 [.agg (wldV F w)] (.bool (all1 (fun a => isIn a.node w.tree) w.afters.list && afsOk w.afters)) := by
  refine PC.lim (n := w.afters.list.length) (x := .agg (wldV F w)) (by simp) (.agg (x := .view (F 10) 5 (w.afters.list.map afrC)) (by simp [wldV]) (.here (by simp))) ⟨_, Tryz.func144, by kernel_rfl, by kernel_rfl⟩ fun hlim => ?_
  refine PC.of okC Tryz.func144 rfl rfl (by kernel_rfl) (Nat.le_of_ble_eq_true rfl) (.bool _) fun h nx hnx => ?_
  show goC ctx _ _ (.fin (RetP _ _ _ _ _))
  try simp [-List.map_take, -List.map_drop, -List.map_tail, run_guard, run_guardD, resultsA, resA, Nat.add_assoc, wldV]
  repeat'
    first
    | done
    | ((first
        | ((with_reducible show lenS _ _ _ _ _ _); refine lenS_slice rfl fun _ => ?_)
        | ((with_reducible show iaddrS _ _ _ _ _ _ _); refine iaddr_map rfl omA omA ?_)
        | (with_reducible refine go_draw (i := 4) [(0, [], []), (1, [], []), (2, [], []), (3, [], []), (4, [], []), (5, [], []), (6, [], []), (7, [], []), (8, [], []), (9, [], [])] (by kernel_rfl) ?_)) <;> simp [-List.map_take, -List.map_drop, -List.map_tail, run_guard, run_guardD, resultsA, resA, Nat.add_assoc, wldV])
    | ((first | (with_reducible refine condS_split ?_ ?_)) <;> intro qb <;> (have qp := qb; try simp only [psq] at qp) <;> simp [-List.map_take, -List.map_drop, -List.map_tail, run_guard, run_guardD, resultsA, resA, Nat.add_assoc, wldV, qb])
  refine go_upP [2, 3, 4, 5, 6, 7, 8, 9, 10, 11, 12, 13, 14, 15, 16, 17, 18, 19, 20, 21] (w.afters.list.length) (fun (i : Nat) a => [(3, .int .i64 i)]) (fun i_ a_ h_ _ => (fun i (_ : Unit) _ => all1 (fun a => isIn a.node w.tree) (w.afters.list.drop i) = all1 (fun a => isIn a.node w.tree) w.afters.list) i_ a_ h_) (()) (by simp) ?_ keep_rfl (Nat.le_refl _) ?_
  · simp
  · intro i a tm h' n' hle hJ hE hn' next hnx
    try dsimp only at hJ
    have hK : KeepB nx h' h := KeepB.sub hE keepA (by omega)
    simp [-List.map_take, -List.map_drop, -List.map_tail]
    have e1 : h' (nx) = some (.obj (wldV F w)) := by have := hE (nx) (by omega); simpa [wldV] using this
    have e1n : ∀ k, ((nx) = n' + k) = False := fun k => by simp only [eq_iff_iff, iff_false]; omega
    have e1m : ((nx) = n') = False := by simp only [eq_iff_iff, iff_false]; omega
    try simp [-List.map_take, -List.map_drop, -List.map_tail, run_guard, run_guardD, resultsA, resA, Nat.add_assoc, wldV, afrC, e1, e1n, e1m]
    repeat'
      first
      | done
      | ((first
          | ((with_reducible show lenS _ _ _ _ _ _); refine lenS_slice rfl fun _ => ?_)
          | ((with_reducible show iaddrS _ _ _ _ _ _ _); refine iaddr_map rfl omA omA ?_)
          | ((with_reducible show doCall _ _ _ 253 _ _); refine call_pc (s_Node (w := w) (F := F)) ?_)
          | ((with_reducible show doCall _ _ _ 231 _ _); refine call_pc (s_AftersOk (x := w.afters) (F := F)) ?_)
          | (with_reducible refine go_draw (i := 4) [(0, [], []), (1, [], []), (2, [], []), (3, [], []), (4, [], []), (5, [], []), (6, [], []), (7, [], []), (8, [], []), (9, [], [])] (by kernel_rfl) ?_)) <;> simp [-List.map_take, -List.map_drop, -List.map_tail, run_guard, run_guardD, resultsA, resA, Nat.add_assoc, wldV, afrC, e1, e1n, e1m])
      | ((first | (with_reducible refine condS_split ?_ ?_)) <;> intro qb <;> (have qp := qb; try simp only [psq] at qp) <;> simp [-List.map_take, -List.map_drop, -List.map_tail, run_guard, run_guardD, resultsA, resA, Nat.add_assoc, wldV, afrC, e1, e1n, e1m, qb])
    all_goals
      first
      | (have hlt : i < w.afters.list.length := (by first | omega | (simp at *; omega))
         rw [drop_gt hlt] at hJ
         first
         | (refine hnx.go (()) ?_ ?_ ?_ ?_ ?_ ?_; omega; (simp [wrap_succ hlt hlim]); (simp); exact keepA; (first | omega | (simp; omega)); (try dsimp only); clear hnx; first | ((try simp only [List.drop_length, Int.toNat_natCast, all1_cons, all1_nil] at hJ ⊢); grind) | (simp_all [all1_cons, all1_nil]; done) | (simp_all; omega))
         | (refine ⟨?_, keepA⟩; clear hnx; first | ((try simp only [List.drop_length, Int.toNat_natCast, all1_cons, all1_nil] at hJ ⊢); grind) | (simp_all [all1_cons, all1_nil]; done) | (simp_all; omega)))
      | (obtain rfl : i = w.afters.list.length := (by first | omega | (simp at *; omega))
         refine ⟨?_, keepA⟩; clear hnx; first | ((try simp only [List.drop_length, Int.toNat_natCast, all1_cons, all1_nil] at hJ ⊢); grind) | (simp_all [all1_cons, all1_nil]; done) | (simp_all; omega))
end Go.AE.Tryz
end

section
/- Contracts of the reference's readers: worlds. -/
set_option linter.unusedSimpArgs false
set_option linter.unusedVariables false
set_option maxRecDepth 8000
set_option maxHeartbeats 4000000
namespace Go.AE.Tryz
open Go.Proofs

-- spec.l13Groups
theorem s_Groups {F : Nat → Bool} {w : Wld} : PC ctx.P 146 [.agg (wldV F w)] (.bool (all1 (isGroup w) w.groups && decide (w.groups.length ≤ 8))) := by
  refine PC.lim (n := w.groups.length) (x := .agg (wldV F w)) (by simp) (.agg (x := .view (F 12) 5 (w.groups.map (grpV (F 13)))) (by simp [wldV]) (.here (by simp))) ⟨_, Tryz.func146, by kernel_rfl, by kernel_rfl⟩ fun hlim => ?_
  refine PC.of okC Tryz.func146 rfl rfl (by kernel_rfl) (Nat.le_of_ble_eq_true rfl) (.bool _) fun h nx hnx => ?_
  show goC ctx _ _ (.fin (RetP _ _ _ _ _))
  try simp [-List.map_take, -List.map_drop, -List.map_tail, run_guard, run_guardD, resultsA, resA, Nat.add_assoc, wldV]
  repeat'
    first
    | done
    | ((first
        | ((with_reducible show lenS _ _ _ _ _ _); refine lenS_slice rfl fun _ => ?_)
        | ((with_reducible show iaddrS _ _ _ _ _ _ _); refine iaddr_map rfl omA omA ?_)
        | (with_reducible refine go_draw (i := 10) [(0, [], []), (1, [], []), (2, [], []), (3, [], []), (4, [], []), (5, [], []), (6, [], []), (7, [], [])] (by kernel_rfl) ?_)) <;> simp [-List.map_take, -List.map_drop, -List.map_tail, run_guard, run_guardD, resultsA, resA, Nat.add_assoc, wldV])
    | ((first | (with_reducible refine guardS_split ?_ ?_) | (with_reducible refine condS_split ?_ ?_)) <;> intro qb <;> (have qp := qb; try simp only [psq] at qp) <;> simp [-List.map_take, -List.map_drop, -List.map_tail, run_guard, run_guardD, resultsA, resA, Nat.add_assoc, wldV, qb])
  refine go_upP [2, 3, 4, 5, 6, 7, 8, 9, 10, 11, 12, 13, 14, 15, 16, 17, 18, 19, 20, 21, 22, 23, 24, 25, 26, 27, 28, 29, 30, 31, 32, 33, 34, 35, 36, 37, 38, 39, 40, 41, 42, 43, 44, 45, 46, 47, 48, 49, 50, 51, 52] (w.groups.length) (fun (i : Nat) a => [(3, .int .i64 i)]) (fun i_ a_ h_ _ => (fun i (_ : Unit) _ => all1 (isGroup w) (w.groups.drop i) = all1 (isGroup w) w.groups) i_ a_ h_) (()) (by simp) ?_ keep_rfl (Nat.le_refl _) ?_
  · simp
  · intro i a tm h' n' hle hJ hE hn' next hnx
    try dsimp only at hJ
    have hK : KeepB nx h' h := KeepB.sub hE keepA (by omega)
    simp [-List.map_take, -List.map_drop, -List.map_tail]
    have e1 : h' (nx) = some (.obj (wldV F w)) := by have := hE (nx) (by omega); simpa [wldV] using this
    have e1n : ∀ k, ((nx) = n' + k) = False := fun k => by simp only [eq_iff_iff, iff_false]; omega
    have e1m : ((nx) = n') = False := by simp only [eq_iff_iff, iff_false]; omega
    try simp [-List.map_take, -List.map_drop, -List.map_tail, run_guard, run_guardD, resultsA, resA, Nat.add_assoc, wldV, nodC, grpV, e1, e1n, e1m]
    repeat'
      first
      | done
      | ((first
          | ((with_reducible show lenS _ _ _ _ _ _); refine lenS_slice rfl fun _ => ?_)
          | ((with_reducible show iaddrS _ _ _ _ _ _ _); refine iaddr_map rfl omA omA ?_)
          | ((with_reducible show doCall _ _ _ 256 _ _); refine call_pc (s_GroupOk (p := F 13) (g := gt w.groups (i : Int))) ?_)
          | ((with_reducible show doCall _ _ _ 253 _ _); refine call_pc (s_Node (w := w) (F := F)) ?_)
          | (with_reducible refine go_draw (i := 10) [(0, [], []), (1, [], []), (2, [], []), (3, [], []), (4, [], []), (5, [], []), (6, [], []), (7, [], [])] (by kernel_rfl) ?_)) <;> simp [-List.map_take, -List.map_drop, -List.map_tail, run_guard, run_guardD, resultsA, resA, Nat.add_assoc, wldV, nodC, grpV, e1, e1n, e1m])
      | ((first | (with_reducible refine guardS_split ?_ ?_) | (with_reducible refine condS_split ?_ ?_)) <;> intro qb <;> (have qp := qb; try simp only [psq] at qp) <;> simp [-List.map_take, -List.map_drop, -List.map_tail, run_guard, run_guardD, resultsA, resA, Nat.add_assoc, wldV, nodC, grpV, e1, e1n, e1m, qb])
    · have hlt : i < w.groups.length := (by omega)
      rw [drop_gt hlt] at hJ
      refine ⟨?_, keepA⟩; clear hnx; simp only [all1_cons, isGroup_eq] at hJ; grind
    · have hlt : i < w.groups.length := (by omega)
      rw [drop_gt hlt] at hJ
      refine ⟨?_, keepA⟩; clear hnx; simp only [all1_cons, isGroup_eq, isIn, inR] at hJ; grind
    · have hlt : i < w.groups.length := (by omega)
      rw [drop_gt hlt] at hJ
      refine ⟨?_, keepA⟩; clear hnx; simp only [all1_cons, isGroup_eq] at hJ; grind
    · have hlt : i < w.groups.length := (by omega)
      rw [drop_gt hlt] at hJ
      refine go_upP [2, 5, 38, 39, 40, 41, 42, 43, 44, 45, 46, 47, 48, 49, 50, 51, 52] ((gt w.groups (i : Int)).waits.length) (fun (i : Nat) a => [(5, .int .i64 i)]) (fun i_ a_ h_ _ => (fun (j : Nat) (_ : Unit) _ => all1 (fun i => isIn i w.tasks) ((gt w.groups (i : Int)).waits.drop j) = all1 (fun i => isIn i w.tasks) (gt w.groups (i : Int)).waits) i_ a_ h_) (()) (by simp) ?_ keep_rfl (Nat.le_refl _) ?_
      · simp
      · intro j b tm2 h2 n2 hle2 hJ2 hE2 hn2 next2 hnx2
        try dsimp only at hJ2
        have hK2 : KeepB nx h2 h := KeepB.sub hE2 keepA (by omega)
        simp [-List.map_take, -List.map_drop, -List.map_tail]
        have e2 : h2 (nx) = some (.obj (wldV F w)) := by have := hE2 (nx) (by omega); simpa [e1, e1n, e1m, wldV] using this
        have e2n : ∀ k, ((nx) = n2 + k) = False := fun k => by simp only [eq_iff_iff, iff_false]; omega
        have e2m : ((nx) = n2) = False := by simp only [eq_iff_iff, iff_false]; omega
        have e3 : h2 (n' + 10) = some (.obj (grpV (F 13) (gt w.groups (i : Int)))) := by have := hE2 (n' + 10) (by omega); simpa [grpV] using this
        have e3n : ∀ k, ((n' + 10) = n2 + k) = False := fun k => by simp only [eq_iff_iff, iff_false]; omega
        have e3m : ((n' + 10) = n2) = False := by simp only [eq_iff_iff, iff_false]; omega
        try simp [-List.map_take, -List.map_drop, -List.map_tail, run_guard, run_guardD, resultsA, resA, Nat.add_assoc, wldV, grpV, iv, e2, e2n, e2m, e3, e3n, e3m]
        repeat'
          first
          | done
          | ((first
              | ((with_reducible show lenS _ _ _ _ _ _); refine lenS_slice rfl fun _ => ?_)
              | ((with_reducible show iaddrS _ _ _ _ _ _ _); refine iaddr_map rfl omA omA ?_)
              | ((with_reducible show doCall _ _ _ 254 _ _); refine call_pc (s_Task (w := w) (F := F)) ?_)
              | (with_reducible refine go_draw (i := 10) [(0, [], []), (1, [], []), (2, [], []), (3, [], []), (4, [], []), (5, [], []), (6, [], []), (7, [], [])] (by kernel_rfl) ?_)) <;> simp [-List.map_take, -List.map_drop, -List.map_tail, run_guard, run_guardD, resultsA, resA, Nat.add_assoc, wldV, grpV, iv, e2, e2n, e2m, e3, e3n, e3m])
          | ((first | (with_reducible refine guardS_split ?_ ?_) | (with_reducible refine condS_split ?_ ?_)) <;> intro qb <;> (have qp := qb; try simp only [psq] at qp) <;> simp [-List.map_take, -List.map_drop, -List.map_tail, run_guard, run_guardD, resultsA, resA, Nat.add_assoc, wldV, grpV, iv, e2, e2n, e2m, e3, e3n, e3m, qb])
        · rw [drop_gt (by omega)] at hJ2
          refine ⟨?_, keepA⟩; clear hnx hnx2; simp only [all1_cons, isGroup_eq] at hJ hJ2; grind
        · have hlw : (gt w.groups (i : Int)).waits.length ≤ LIM := by assumption
          rw [drop_gt (by omega)] at hJ2
          refine hnx2.go () (by omega) (by simp [wrap_succ (show j < (gt w.groups (i : Int)).waits.length by omega) hlw]) (by simp) keepA (by first | omega | (simp; omega)) ?_
          clear hnx hnx2; simp only [all1_cons] at hJ2; grind
        · rw [List.drop_eq_nil_of_le (by omega)] at hJ2
          refine hnx.go () (by omega) (by simp [wrap_succ hlt hlim]) (by simp) keepA (by first | omega | (simp; omega)) ?_
          clear hnx hnx2; simp only [all1_cons, all1_nil, isGroup_eq] at hJ hJ2 ⊢; grind
    · refine ⟨?_, keepA⟩; rw [List.drop_eq_nil_of_le (by omega)] at hJ; clear hnx; simp only [all1_nil] at hJ; rw [← hJ]; simp; omega
end Go.AE.Tryz
end

section
/- Contracts of the reference's readers: worlds. -/
set_option linter.unusedSimpArgs false
set_option linter.unusedVariables false
set_option maxRecDepth 8000
set_option maxHeartbeats 4000000
namespace Go.AE.Tryz
open Go.Proofs

-- spec.l13Sights
theorem s_Sights {F : Nat → Bool} {w : Wld} : PC ctx.P 147 [.agg (wldV F w)] (.bool (all1 (isSight w) w.sights && decide (w.sights.length ≤ 2000))) := by
  refine PC.lim (n := w.sights.length) (x := .agg (wldV F w)) (by simp) (.agg (x := .view (F 14) 4 (w.sights.map sgtC)) (by simp [wldV]) (.here (by simp))) ⟨_, Tryz.func147, by kernel_rfl, by kernel_rfl⟩ fun hlim => ?_
  refine PC.of okC Tryz.func147 rfl rfl (by kernel_rfl) (Nat.le_of_ble_eq_true rfl) (.bool _) fun h nx hnx => ?_
  show goC ctx _ _ (.fin (RetP _ _ _ _ _))
  try simp [-List.map_take, -List.map_drop, -List.map_tail, run_guard, run_guardD, resultsA, resA, Nat.add_assoc, wldV]
  repeat'
    first
    | done
    | ((first
        | ((with_reducible show lenS _ _ _ _ _ _); refine lenS_slice rfl fun _ => ?_)
        | ((with_reducible show iaddrS _ _ _ _ _ _ _); refine iaddr_map rfl omA omA ?_)) <;> simp [-List.map_take, -List.map_drop, -List.map_tail, run_guard, run_guardD, resultsA, resA, Nat.add_assoc, wldV])
    | ((first | (with_reducible refine guardS_split ?_ ?_) | (with_reducible refine condS_split ?_ ?_)) <;> intro qb <;> (have qp := qb; try simp only [psq] at qp) <;> simp [-List.map_take, -List.map_drop, -List.map_tail, run_guard, run_guardD, resultsA, resA, Nat.add_assoc, wldV, qb])
  refine go_upP [2, 3, 4, 5, 6, 7, 8, 9, 10, 11, 12, 13, 14, 15, 16, 17, 18, 19, 20, 21, 22, 23, 24, 25, 26, 27, 28, 29, 30, 31, 32, 33, 34, 35, 36, 37, 38, 39, 40, 41, 42, 43, 44, 45, 46, 47, 48, 49, 50, 51, 52, 53, 54, 55] (w.sights.length) (fun (i : Nat) a => [(3, .int .i64 i)]) (fun i_ a_ h_ _ => (fun i (_ : Unit) _ => all1 (isSight w) (w.sights.drop i) = all1 (isSight w) w.sights) i_ a_ h_) (()) (by simp) ?_ keep_rfl (Nat.le_refl _) ?_
  · simp
  · intro i a tm h' n' hle hJ hE hn' next hnx
    try dsimp only at hJ
    have hK : KeepB nx h' h := KeepB.sub hE keepA (by omega)
    simp [-List.map_take, -List.map_drop, -List.map_tail]
    have e1 : h' (nx) = some (.obj (wldV F w)) := by have := hE (nx) (by omega); simpa [wldV] using this
    have e1n : ∀ k, ((nx) = n' + k) = False := fun k => by simp only [eq_iff_iff, iff_false]; omega
    have e1m : ((nx) = n') = False := by simp only [eq_iff_iff, iff_false]; omega
    try simp [-List.map_take, -List.map_drop, -List.map_tail, run_guard, run_guardD, resultsA, resA, Nat.add_assoc, wldV, sgtC, e1, e1n, e1m]
    repeat'
      first
      | done
      | ((first
          | ((with_reducible show lenS _ _ _ _ _ _); refine lenS_slice rfl fun _ => ?_)
          | ((with_reducible show iaddrS _ _ _ _ _ _ _); refine iaddr_map rfl omA omA ?_)
          | ((with_reducible show doCall _ _ _ 252 _ _); refine call_pc (s_l1In) ?_)
          | ((with_reducible show doCall _ _ _ 253 _ _); refine call_pc (s_Node (w := w) (F := F)) ?_)) <;> simp [-List.map_take, -List.map_drop, -List.map_tail, run_guard, run_guardD, resultsA, resA, Nat.add_assoc, wldV, sgtC, e1, e1n, e1m])
      | ((first | (with_reducible refine guardS_split ?_ ?_) | (with_reducible refine condS_split ?_ ?_)) <;> intro qb <;> (have qp := qb; try simp only [psq] at qp) <;> simp [-List.map_take, -List.map_drop, -List.map_tail, run_guard, run_guardD, resultsA, resA, Nat.add_assoc, wldV, sgtC, e1, e1n, e1m, qb])
    all_goals
      first
      | (have hlt : i < w.sights.length := (by first | omega | (simp at *; omega))
         rw [drop_gt hlt] at hJ
         first
         | (refine hnx.go (()) ?_ ?_ ?_ ?_ ?_ ?_; omega; (simp [wrap_succ hlt hlim]); (simp); exact keepA; (first | omega | (simp; omega)); (try dsimp only); clear hnx; first | ((try simp only [List.drop_length, Int.toNat_natCast, all1_cons, all1_nil, isSight_eq] at hJ ⊢); grind) | (simp_all [all1_cons, all1_nil, isSight_eq]; done) | (simp_all; omega))
         | (refine ⟨?_, keepA⟩; clear hnx; first | ((try simp only [List.drop_length, Int.toNat_natCast, all1_cons, all1_nil, isSight_eq] at hJ ⊢); grind) | (simp_all [all1_cons, all1_nil, isSight_eq]; done) | (simp_all; omega)))
      | (obtain rfl : i = w.sights.length := (by first | omega | (simp at *; omega))
         refine ⟨?_, keepA⟩; clear hnx; first | ((try simp only [List.drop_length, Int.toNat_natCast, all1_cons, all1_nil, isSight_eq] at hJ ⊢); grind) | (simp_all [all1_cons, all1_nil, isSight_eq]; done) | (simp_all; omega))
end Go.AE.Tryz
end

section
/- Contracts of the reference's readers: worlds. -/
set_option linter.unusedSimpArgs false
set_option linter.unusedVariables false
set_option maxRecDepth 8000
set_option maxHeartbeats 4000000
namespace Go.AE.Tryz
open Go.Proofs

-- spec.l13Tasks
theorem s_Tasks {F : Nat → Bool} {w : Wld} : PC ctx.P 145 [.agg (wldV F w)] (.bool (tasksOk w.tasks && all1 (isTask w) w.tasks)) := by
  refine PC.lim (n := w.tasks.length) (x := .agg (wldV F w)) (by simp) (.agg (x := .view (F 11) 9 (w.tasks.map tskC)) (by simp [wldV]) (.here (by simp))) ⟨_, Tryz.func145, by kernel_rfl, by kernel_rfl⟩ fun hlim => ?_
  by_cases ht : tasksOk w.tasks = true
  · refine PC.of okC Tryz.func145 rfl rfl (by kernel_rfl) (Nat.le_of_ble_eq_true rfl) (.bool _) fun h nx hnx => ?_
    show goC ctx _ _ (.fin (RetP _ _ _ _ _))
    try simp [-List.map_take, -List.map_drop, -List.map_tail, run_guard, run_guardD, resultsA, resA, Nat.add_assoc, wldV, ht]
    repeat'
      first
      | done
      | ((first
          | ((with_reducible show lenS _ _ _ _ _ _); refine lenS_slice rfl fun _ => ?_)
          | ((with_reducible show iaddrS _ _ _ _ _ _ _); refine iaddr_map rfl omA omA ?_)
          | ((with_reducible show doCall _ _ _ 207 _ _); refine call_pc (s_TasksOk) ?_)
          | (with_reducible refine go_draw (i := 7) [(0, [], []), (1, [], []), (2, [], []), (3, [], []), (4, [], []), (5, [], []), (6, [], []), (7, [], []), (8, [], []), (9, [], []), (10, [], []), (11, [], []), (12, [], []), (13, [], []), (14, [], []), (15, [], []), (16, [], []), (17, [], []), (18, [], []), (19, [], []), (20, [], []), (21, [], []), (22, [], []), (23, [], []), (24, [], []), (25, [], [])] (by kernel_rfl) ?_)) <;> simp [-List.map_take, -List.map_drop, -List.map_tail, run_guard, run_guardD, resultsA, resA, Nat.add_assoc, wldV, ht])
      | ((first | (with_reducible refine guardD_split ?_ ?_) | (with_reducible refine guardS_split ?_ ?_) | (with_reducible refine condS_split ?_ ?_)) <;> intro qb <;> (have qp := qb; try simp only [psq] at qp) <;> simp [-List.map_take, -List.map_drop, -List.map_tail, run_guard, run_guardD, resultsA, resA, Nat.add_assoc, wldV, ht, qb])
    refine go_upP [2, 3, 4, 9, 10, 11, 12, 13, 14, 15, 16, 17, 18, 19, 20, 21, 22, 23, 24, 25, 26, 27, 28, 29, 30, 31, 32, 33, 34, 35, 36, 37, 38, 39, 40, 41, 42, 43, 44, 45, 46, 47, 48, 49, 50, 51, 52, 53, 54, 55, 56, 57, 58, 59, 60, 61, 62, 63, 64, 65, 66, 67, 68, 69, 70, 71, 72, 73, 74, 75, 76, 77, 78] (w.tasks.length) (fun (i : Nat) a => [(3, .int .i64 i)]) (fun i_ a_ h_ _ => (fun i (_ : Unit) _ => all1 (isTask w) (w.tasks.drop i) = all1 (isTask w) w.tasks) i_ a_ h_) (()) (by simp) ?_ keep_rfl (Nat.le_refl _) ?_
    · simp
    · intro i a tm h' n' hle hJ hE hn' next hnx
      try dsimp only at hJ
      have hK : KeepB nx h' h := KeepB.sub hE keepA (by omega)
      simp [-List.map_take, -List.map_drop, -List.map_tail]
      have e1 : h' (nx) = some (.obj (wldV F w)) := by have := hE (nx) (by omega); simpa [wldV] using this
      have e1n : ∀ k, ((nx) = n' + k) = False := fun k => by simp only [eq_iff_iff, iff_false]; omega
      have e1m : ((nx) = n') = False := by simp only [eq_iff_iff, iff_false]; omega
      by_cases hi : i < w.tasks.length
      · have hf := tskOk_facts (tasksOk_at ht (show (0 : Int) ≤ (i : Int) by omega) (by omega))
        try simp [-List.map_take, -List.map_drop, -List.map_tail, run_guard, run_guardD, resultsA, resA, Nat.add_assoc, wldV, tskC, prgV, e1, e1n, e1m]
        repeat'
          first
          | done
          | ((first
              | ((with_reducible show lenS _ _ _ _ _ _); refine lenS_slice rfl fun _ => ?_)
              | ((with_reducible show iaddrS _ _ _ _ _ _ _); refine iaddr_map rfl omA omA ?_)
              | ((with_reducible show doCall _ _ _ 253 _ _); refine call_pc (s_Node (w := w) (F := F)) ?_)
              | ((with_reducible show doCall _ _ _ 255 _ _); refine call_pc (s_Group (w := w) (F := F)) ?_)
              | (with_reducible refine go_draw (i := 7) [(0, [], []), (1, [], []), (2, [], []), (3, [], []), (4, [], []), (5, [], []), (6, [], []), (7, [], []), (8, [], []), (9, [], []), (10, [], []), (11, [], []), (12, [], []), (13, [], []), (14, [], []), (15, [], []), (16, [], []), (17, [], []), (18, [], []), (19, [], []), (20, [], []), (21, [], []), (22, [], []), (23, [], []), (24, [], []), (25, [], [])] (by kernel_rfl) ?_)) <;> simp [-List.map_take, -List.map_drop, -List.map_tail, run_guard, run_guardD, resultsA, resA, Nat.add_assoc, wldV, tskC, prgV, e1, e1n, e1m])
          | ((first | (with_reducible refine guardD_split ?_ ?_) | (with_reducible refine guardS_split ?_ ?_) | (with_reducible refine condS_split ?_ ?_)) <;> intro qb <;> (have qp := qb; try simp only [psq] at qp) <;> simp [-List.map_take, -List.map_drop, -List.map_tail, run_guard, run_guardD, resultsA, resA, Nat.add_assoc, wldV, tskC, prgV, e1, e1n, e1m, qb])
        all_goals
          first
          | (have hlt : i < w.tasks.length := (by first | omega | (simp at *; omega))
             rw [drop_gt hlt] at hJ
             first
             | (refine hnx.go (()) ?_ ?_ ?_ ?_ ?_ ?_; omega; (simp [wrap_succ hlt hlim]); (simp); exact keepA; (first | omega | (simp; omega)); (try dsimp only); clear hnx; first | ((try simp only [List.drop_length, Int.toNat_natCast, all1_cons, all1_nil, isTask, isIn, inR] at hJ ⊢); grind) | (simp_all [all1_cons, all1_nil, isTask, isIn, inR]; done) | (simp_all; omega))
             | (refine ⟨?_, keepA⟩; clear hnx; first | ((try simp only [List.drop_length, Int.toNat_natCast, all1_cons, all1_nil, isTask, isIn, inR] at hJ ⊢); grind) | (simp_all [all1_cons, all1_nil, isTask, isIn, inR]; done) | (simp_all; omega)))
          | (obtain rfl : i = w.tasks.length := (by first | omega | (simp at *; omega))
             refine ⟨?_, keepA⟩; clear hnx; first | ((try simp only [List.drop_length, Int.toNat_natCast, all1_cons, all1_nil, isTask, isIn, inR] at hJ ⊢); grind) | (simp_all [all1_cons, all1_nil, isTask, isIn, inR]; done) | (simp_all; omega))
      · try simp [-List.map_take, -List.map_drop, -List.map_tail, run_guard, run_guardD, resultsA, resA, Nat.add_assoc, wldV, tskC, prgV, e1, e1n, e1m]
        repeat'
          first
          | done
          | ((first
              | ((with_reducible show lenS _ _ _ _ _ _); refine lenS_slice rfl fun _ => ?_)
              | ((with_reducible show iaddrS _ _ _ _ _ _ _); refine iaddr_map rfl omA omA ?_)
              | ((with_reducible show doCall _ _ _ 253 _ _); refine call_pc (s_Node (w := w) (F := F)) ?_)
              | ((with_reducible show doCall _ _ _ 255 _ _); refine call_pc (s_Group (w := w) (F := F)) ?_)
              | (with_reducible refine go_draw (i := 7) [(0, [], []), (1, [], []), (2, [], []), (3, [], []), (4, [], []), (5, [], []), (6, [], []), (7, [], []), (8, [], []), (9, [], []), (10, [], []), (11, [], []), (12, [], []), (13, [], []), (14, [], []), (15, [], []), (16, [], []), (17, [], []), (18, [], []), (19, [], []), (20, [], []), (21, [], []), (22, [], []), (23, [], []), (24, [], []), (25, [], [])] (by kernel_rfl) ?_)) <;> simp [-List.map_take, -List.map_drop, -List.map_tail, run_guard, run_guardD, resultsA, resA, Nat.add_assoc, wldV, tskC, prgV, e1, e1n, e1m])
          | ((first | (with_reducible refine guardD_split ?_ ?_) | (with_reducible refine guardS_split ?_ ?_) | (with_reducible refine condS_split ?_ ?_)) <;> intro qb <;> (have qp := qb; try simp only [psq] at qp) <;> simp [-List.map_take, -List.map_drop, -List.map_tail, run_guard, run_guardD, resultsA, resA, Nat.add_assoc, wldV, tskC, prgV, e1, e1n, e1m, qb])
        all_goals
          first
          | (have hlt : i < w.tasks.length := (by first | omega | (simp at *; omega))
             rw [drop_gt hlt] at hJ
             first
             | (refine hnx.go (()) ?_ ?_ ?_ ?_ ?_ ?_; omega; (simp [wrap_succ hlt hlim]); (simp); exact keepA; (first | omega | (simp; omega)); (try dsimp only); clear hnx; first | ((try simp only [List.drop_length, Int.toNat_natCast, all1_cons, all1_nil] at hJ ⊢); grind) | (simp_all [all1_cons, all1_nil]; done) | (simp_all; omega))
             | (refine ⟨?_, keepA⟩; clear hnx; first | ((try simp only [List.drop_length, Int.toNat_natCast, all1_cons, all1_nil] at hJ ⊢); grind) | (simp_all [all1_cons, all1_nil]; done) | (simp_all; omega)))
          | (obtain rfl : i = w.tasks.length := (by first | omega | (simp at *; omega))
             refine ⟨?_, keepA⟩; clear hnx; first | ((try simp only [List.drop_length, Int.toNat_natCast, all1_cons, all1_nil] at hJ ⊢); grind) | (simp_all [all1_cons, all1_nil]; done) | (simp_all; omega))
  · refine PC.of okC Tryz.func145 rfl rfl (by kernel_rfl) (Nat.le_of_ble_eq_true rfl) (.bool _) fun h nx hnx => ?_
    show goC ctx _ _ (.fin (RetP _ _ _ _ _))
    try simp [-List.map_take, -List.map_drop, -List.map_tail, run_guard, run_guardD, resultsA, resA, Nat.add_assoc, wldV, ht]
    repeat'
      first
      | done
      | ((first
          | ((with_reducible show lenS _ _ _ _ _ _); refine lenS_slice rfl fun _ => ?_)
          | ((with_reducible show iaddrS _ _ _ _ _ _ _); refine iaddr_map rfl omA omA ?_)
          | ((with_reducible show doCall _ _ _ 207 _ _); refine call_pc (s_TasksOk) ?_)
          | (with_reducible refine go_draw (i := 7) [(0, [], []), (1, [], []), (2, [], []), (3, [], []), (4, [], []), (5, [], []), (6, [], []), (7, [], []), (8, [], []), (9, [], []), (10, [], []), (11, [], []), (12, [], []), (13, [], []), (14, [], []), (15, [], []), (16, [], []), (17, [], []), (18, [], []), (19, [], []), (20, [], []), (21, [], []), (22, [], []), (23, [], []), (24, [], []), (25, [], [])] (by kernel_rfl) ?_)) <;> simp [-List.map_take, -List.map_drop, -List.map_tail, run_guard, run_guardD, resultsA, resA, Nat.add_assoc, wldV, ht])
      | ((first | (with_reducible refine guardD_split ?_ ?_) | (with_reducible refine guardS_split ?_ ?_) | (with_reducible refine condS_split ?_ ?_)) <;> intro qb <;> (have qp := qb; try simp only [psq] at qp) <;> simp [-List.map_take, -List.map_drop, -List.map_tail, run_guard, run_guardD, resultsA, resA, Nat.add_assoc, wldV, ht, qb])
    all_goals (try clear hnx)
    all_goals first | (simp_all []; done) | (simp_all []; omega) | (rw [Bool.eq_iff_iff]; simp_all []; done) | (rw [Bool.eq_iff_iff]; simp_all []; omega) | omega | (simp only []; grind) | grind
end Go.AE.Tryz
end

section
/- Contracts of the reference's readers: worlds. -/
set_option linter.unusedSimpArgs false
set_option linter.unusedVariables false
set_option maxRecDepth 8000
set_option maxHeartbeats 4000000
namespace Go.AE.Tryz
open Go.Proofs

-- spec.WorldOk
theorem s_WorldOk {F : Nat → Bool} {w : Wld} : PC ctx.P 57 [.agg (wldV F w)] (.bool (wldOk w)) := by
  refine PC.of okC Tryz.func57 rfl rfl (by kernel_rfl) (Nat.le_of_ble_eq_true rfl) (.bool _) fun h nx hnx => ?_
  show goC ctx _ _ (.fin (RetP _ _ _ _ _))
  try simp [-List.map_take, -List.map_drop, -List.map_tail, run_guard, run_guardD, resultsA, resA, Nat.add_assoc, wldV]
  repeat'
    first
    | done
    | ((first
        | ((with_reducible show doCall _ _ _ 140 _ _); refine call_pc (s_Progs) ?_)
        | ((with_reducible show doCall _ _ _ 141 _ _); refine call_pc (s_Events (w := w) (F := F)) ?_)
        | ((with_reducible show doCall _ _ _ 142 _ _); refine call_pc (s_SpreadOk (s := w.spread) (F := F)) ?_)
        | ((with_reducible show doCall _ _ _ 143 _ _); refine call_pc (s_Timers (w := w) (F := F)) ?_)
        | ((with_reducible show doCall _ _ _ 144 _ _); refine call_pc (s_Afters (w := w) (F := F)) ?_)
        | ((with_reducible show doCall _ _ _ 145 _ _); refine call_pc (s_Tasks (w := w) (F := F)) ?_)
        | ((with_reducible show doCall _ _ _ 146 _ _); refine call_pc (s_Groups (w := w) (F := F)) ?_)
        | ((with_reducible show doCall _ _ _ 147 _ _); refine call_pc (s_Sights (w := w) (F := F)) ?_)
        | ((with_reducible show doCall _ _ _ 148 _ _); refine call_pc (s_Numbers) ?_)) <;> simp [-List.map_take, -List.map_drop, -List.map_tail, run_guard, run_guardD, resultsA, resA, Nat.add_assoc, wldV])
    | ((first | (with_reducible refine guardS_split ?_ ?_)) <;> intro qb <;> (have qp := qb; try simp only [psq] at qp) <;> simp [-List.map_take, -List.map_drop, -List.map_tail, run_guard, run_guardD, resultsA, resA, Nat.add_assoc, wldV, qb])
  all_goals (clear hnx; have ht : eventsOk w.tree w.events = true → treeOk w.tree = true := eventsOk_tree; simp only [wldOk]; (try simp only [all1] at *); grind)
end Go.AE.Tryz
end

section
/- Picks that are enabled, built one after the other. -/
namespace Go.AE
set_option linter.unusedVariables false
theorem ready_rest {l : List Tsk} {i : Nat} {acc : List Int} (hi : i < l.length) (h : acc ++ pickI (fun _ t => t.state == 0) (fun i _ => i) (l.drop i) i = readyIn l) :
    (if ((gt l (i : Int)).state == 0) = true then acc ++ [(i : Int)] else acc) ++ pickI (fun _ t => t.state == 0) (fun i _ => i) (l.drop (i + 1)) ((i + 1 : Nat) : Int) = readyIn l := by
  rw [drop_gt hi, pickI_cons] at h
  rw [← h]
  split <;> simp
theorem pickI_len {α β : Type} (q : Int → α → Bool) (f : Int → α → β) : ∀ (l : List α) (k : Int), (pickI q f l k).length ≤ l.length
  | [], k => by simp [pickI]
  | x :: xs, k => by rw [pickI_cons]; have := pickI_len q f xs (k + 1); split <;> simp <;> omega
theorem readyIn_len (l : List Tsk) : (readyIn l).length ≤ l.length := pickI_len _ _ _ _
/-- The picks of tasks. -/
def pkTasks (l : List Int) : List Pik := l.map fun i => ⟨1, i⟩
def pkDrain (w : Wld) : List Pik := if isDue w.now (nextDue w.timers) then [⟨2, 0⟩] else []
def pkTell (w : Wld) : List Pik := if 0 < w.spread.work.length then [⟨3, 0⟩] else []
def pkStart (w : Wld) : List Pik := if w.afters.list.any (·.queued) then [⟨4, 0⟩] else []
theorem enabled_eq (w : Wld) : enabled w = pkTasks (readyIn w.tasks) ++ (pkDrain w ++ (pkTell w ++ pkStart w)) := rfl
end Go.AE
end

section
/- Contracts of the reference's picks. -/
set_option linter.unusedSimpArgs false
set_option linter.unusedVariables false
set_option maxRecDepth 8000
set_option maxHeartbeats 4000000
namespace Go.AE.Tryz
open Go.Proofs

-- spec.ReadyIn
theorem s_ReadyIn {p : Bool} {l : List Tsk} (ht : tasksOk l = true) : PC ctx.P 94 [.view p 9 (l.map tskC)] (.view true 1 ((readyIn l).map iv)) := by
  refine PC.lim (n := l.length) (x := .view p 9 (l.map tskC)) (by simp) (.here (by simp)) ⟨_, Tryz.func94, by kernel_rfl, by kernel_rfl⟩ fun hlim => ?_
  have hl60 := tasksOk_len ht
  refine PC.of okC Tryz.func94 rfl rfl (by kernel_rfl) (Nat.le_of_ble_eq_true rfl) (.vmap iv_fz) fun h nx hnx => ?_
  show goC ctx _ _ (.fin (RetP _ _ _ _ _))
  try simp [-List.map_take, -List.map_drop, -List.map_tail, run_guard, run_guardD, resultsA, resA, Nat.add_assoc, ht]
  repeat'
    first
    | done
    | ((first
        | ((with_reducible show lenS _ _ _ _ _ _); refine lenS_slice rfl fun _ => ?_)
        | ((with_reducible show iaddrS _ _ _ _ _ _ _); refine iaddr_map rfl omA omA ?_)
        | ((with_reducible show doCall _ _ _ 207 _ _); refine call_pc (s_TasksOk) ?_)
        | ((with_reducible show appS _ _ _ _ _ _ _ _); refine app_end rfl rfl (by decide) (by decide) (by first | (simp [-List.map_take, -List.map_drop, -List.map_tail, run_guard, run_guardD, resultsA, resA, Nat.add_assoc, ht]; done) | (simp [-List.map_take, -List.map_drop, -List.map_tail, run_guard, run_guardD, resultsA, resA, Nat.add_assoc, ht]; rfl)) (by first | (simp [-List.map_take, -List.map_drop, -List.map_tail, run_guard, run_guardD, resultsA, resA, Nat.add_assoc, ht]; done) | (simp [-List.map_take, -List.map_drop, -List.map_tail, run_guard, run_guardD, resultsA, resA, Nat.add_assoc, ht]; rfl)) (by first | (simp; done) | (simp; omega)) (by first | (simp only [MLIM, LIM] at *; simp; omega) | (simp only [MLIM]; simp; omega)) (by simp [iv, bv]) ?_)) <;> simp [-List.map_take, -List.map_drop, -List.map_tail, run_guard, run_guardD, resultsA, resA, Nat.add_assoc, ht])
    | ((first | (with_reducible refine condS_split ?_ ?_)) <;> intro qb <;> (have qp := qb; try simp only [psq] at qp) <;> simp [-List.map_take, -List.map_drop, -List.map_tail, run_guard, run_guardD, resultsA, resA, Nat.add_assoc, ht, qb])
  refine go_upP (h0 := h) (nx0 := nx) [3, 4, 10, 11, 12, 13, 14, 15, 16, 17, 18, 19, 20, 21, 22, 23, 24, 25] (l.length) (fun (i : Nat) a => [(4, .int .i64 i), (3, .ref a.1 1 0 a.2.length)]) (fun (i : Nat) (a : Nat × List Int) h' n' => nx ≤ a.1 ∧ a.1 < n' ∧ h' a.1 = some (.row 1 (a.2.map iv)) ∧ a.2.length ≤ i ∧ a.2 ++ pickI (fun _ t => t.state == 0) (fun i _ => i) (l.drop i) i = readyIn l) ((nx + 1, [])) (by simp) ?_ keepA (by omega) ?_
  · simp [readyIn, iv]
  · intro i a tm h' n' hle hJ hE hn' next hnx
    try dsimp only at hJ
    have hK : KeepB nx h' h := KeepB.sub hE keepA (by omega)
    simp [-List.map_take, -List.map_drop, -List.map_tail]
    obtain ⟨id, acc⟩ := a
    obtain ⟨g0, g1, g2, g3, hJ⟩ := hJ
    dsimp only at g0 g1 g2 g3 hJ ⊢
    have k1 : ∀ k, (id = n' + k) = False := fun k => by simp only [eq_iff_iff, iff_false]; omega
    by_cases hi : i < l.length
    · have hn := ready_rest hi hJ
      try simp [-List.map_take, -List.map_drop, -List.map_tail, run_guard, run_guardD, resultsA, resA, Nat.add_assoc, tskC, iv, g2, k1, i64_ok (x := (i : Int)) (by omega)]
      repeat'
        first
        | done
        | ((first
            | ((with_reducible show lenS _ _ _ _ _ _); refine lenS_slice rfl fun _ => ?_)
            | ((with_reducible show iaddrS _ _ _ _ _ _ _); refine iaddr_map rfl omA omA ?_)
            | ((with_reducible show appS _ _ _ _ _ _ _ _); refine app_end rfl rfl (by decide) (by decide) (by first | (simp [-List.map_take, -List.map_drop, -List.map_tail, run_guard, run_guardD, resultsA, resA, Nat.add_assoc, tskC, iv, g2, k1, i64_ok (x := (i : Int)) (by omega)]; done) | (simp [-List.map_take, -List.map_drop, -List.map_tail, run_guard, run_guardD, resultsA, resA, Nat.add_assoc, tskC, iv, g2, k1, i64_ok (x := (i : Int)) (by omega)]; rfl)) (by first | (simp [-List.map_take, -List.map_drop, -List.map_tail, run_guard, run_guardD, resultsA, resA, Nat.add_assoc, tskC, iv, g2, k1, i64_ok (x := (i : Int)) (by omega)]; done) | (simp [-List.map_take, -List.map_drop, -List.map_tail, run_guard, run_guardD, resultsA, resA, Nat.add_assoc, tskC, iv, g2, k1, i64_ok (x := (i : Int)) (by omega)]; rfl)) (by first | (simp; done) | (simp; omega)) (by first | (simp only [MLIM, LIM] at *; simp; omega) | (simp only [MLIM]; simp; omega)) (by simp [iv, bv]) ?_)) <;> simp [-List.map_take, -List.map_drop, -List.map_tail, run_guard, run_guardD, resultsA, resA, Nat.add_assoc, tskC, iv, g2, k1, i64_ok (x := (i : Int)) (by omega)])
        | ((first | (with_reducible refine condS_split ?_ ?_)) <;> intro qb <;> (have qp := qb; try simp only [psq] at qp) <;> simp [-List.map_take, -List.map_drop, -List.map_tail, run_guard, run_guardD, resultsA, resA, Nat.add_assoc, tskC, iv, g2, k1, i64_ok (x := (i : Int)) (by omega), qb])
      all_goals first
      | (rw [if_pos (by assumption)] at hn
         refine hnx.go (n' + 13, acc ++ [(i : Int)]) (by omega) (by simp [wrap_succ hi hlim]) (by simp) keepA (by first | omega | (simp; omega)) ?_
         dsimp only
         exact ⟨by omega, by omega, by simp [iv], by simp; omega, hn⟩)
      | (rw [if_neg (by simp_all)] at hn
         refine hnx.go (id, acc) (by omega) (by simp [wrap_succ hi hlim]) (by simp) keepA (by first | omega | (simp; omega)) ?_
         dsimp only
         exact ⟨by omega, by omega, by simp [g2, k1], by omega, hn⟩)
      | omega
      | trace_state
    · have hi2 : ¬ ((i : Int) < l.length) := by omega
      rw [List.drop_eq_nil_of_le (by omega), pickI_nil, List.append_nil] at hJ
      subst hJ
      try simp [-List.map_take, -List.map_drop, -List.map_tail, run_guard, run_guardD, resultsA, resA, Nat.add_assoc, iv, g2, k1, hi, hi2]
      repeat'
        first
        | done
        | ((first
            | ((with_reducible show lenS _ _ _ _ _ _); refine lenS_slice rfl fun _ => ?_)
            | ((with_reducible show iaddrS _ _ _ _ _ _ _); refine iaddr_map rfl omA omA ?_)
            | ((with_reducible show appS _ _ _ _ _ _ _ _); refine app_end rfl rfl (by decide) (by decide) (by first | (simp [-List.map_take, -List.map_drop, -List.map_tail, run_guard, run_guardD, resultsA, resA, Nat.add_assoc, iv, g2, k1, hi, hi2]; done) | (simp [-List.map_take, -List.map_drop, -List.map_tail, run_guard, run_guardD, resultsA, resA, Nat.add_assoc, iv, g2, k1, hi, hi2]; rfl)) (by first | (simp [-List.map_take, -List.map_drop, -List.map_tail, run_guard, run_guardD, resultsA, resA, Nat.add_assoc, iv, g2, k1, hi, hi2]; done) | (simp [-List.map_take, -List.map_drop, -List.map_tail, run_guard, run_guardD, resultsA, resA, Nat.add_assoc, iv, g2, k1, hi, hi2]; rfl)) (by first | (simp; done) | (simp; omega)) (by first | (simp only [MLIM, LIM] at *; simp; omega) | (simp only [MLIM]; simp; omega)) (by simp [iv, bv]) ?_)) <;> simp [-List.map_take, -List.map_drop, -List.map_tail, run_guard, run_guardD, resultsA, resA, Nat.add_assoc, iv, g2, k1, hi, hi2])
        | ((first | (with_reducible refine condS_split ?_ ?_)) <;> intro qb <;> (have qp := qb; try simp only [psq] at qp) <;> simp [-List.map_take, -List.map_drop, -List.map_tail, run_guard, run_guardD, resultsA, resA, Nat.add_assoc, iv, g2, k1, hi, hi2, qb])
      exact ⟨by rw [List.take_of_length_le (by simp)], keepA⟩
-- spec.NextDue
theorem s_NextDue {F : Nat → Bool} {t : Tms} (ht : tmsOk t = true) : PC ctx.P 95 [.agg (tmsV F t)] (.int .i64 (nextDue t)) := by
  refine PC.of okC Tryz.func95 rfl rfl (by kernel_rfl) (Nat.le_of_ble_eq_true rfl) (.int _ _) fun h nx hnx => ?_
  show goC ctx _ _ (.fin (RetP _ _ _ _ _))
  try simp [-List.map_take, -List.map_drop, -List.map_tail, run_guard, run_guardD, resultsA, resA, Nat.add_assoc, tmsV, twgC, ht]
  repeat'
    first
    | done
    | ((first
        | ((with_reducible show lenS _ _ _ _ _ _); refine lenS_slice rfl fun _ => ?_)
        | ((with_reducible show iaddrS _ _ _ _ _ _ _); refine iaddr_map rfl omA omA ?_)
        | ((with_reducible show doCall _ _ _ 208 _ _); refine call_pc (s_TimersOk (t := t) (F := F)) ?_)) <;> simp [-List.map_take, -List.map_drop, -List.map_tail, run_guard, run_guardD, resultsA, resA, Nat.add_assoc, tmsV, twgC, ht])
    | ((first | (with_reducible refine guardS_split ?_ ?_) | (with_reducible refine condS_split ?_ ?_)) <;> intro qb <;> (have qp := qb; try simp only [psq] at qp) <;> simp [-List.map_take, -List.map_drop, -List.map_tail, run_guard, run_guardD, resultsA, resA, Nat.add_assoc, tmsV, twgC, ht, qb])
  all_goals (clear hnx; simp only [nextDue, never]; first | (rw [if_pos (by omega)]; done) | (rw [if_neg (by omega)]; done) | omega | (simp_all; omega))
-- spec.EnabledIn
theorem s_EnabledIn {F : Nat → Bool} {w : Wld} (hw : wldOk w = true) : PC ctx.P 32 [.agg (wldV F w)] (.view true 2 ((enabled w).map pikC)) := by
  refine PC.lim (n := w.afters.list.length) (x := .agg (wldV F w)) (by simp) (.agg (x := .view (F 10) 5 (w.afters.list.map afrC)) (by simp [wldV]) (.here (by simp))) ⟨_, Tryz.func32, by kernel_rfl, by kernel_rfl⟩ fun hlim => ?_
  have ht := wldOk_tasks hw
  have htm : tmsOk w.timers = true := (wldOk_all hw).2.2.2.2.2.2.1
  have hl60 := tasksOk_len ht
  have hrl := readyIn_len w.tasks
  have hrl2 : (readyIn w.tasks).length ≤ LIM := by simp only [LIM]; omega
  refine PC.of okC Tryz.func32 rfl rfl (by kernel_rfl) (Nat.le_of_ble_eq_true rfl) (.vmap pikC_fz) fun h nx hnx => ?_
  show goC ctx _ _ (.fin (RetP _ _ _ _ _))
  try simp [-List.map_take, -List.map_drop, -List.map_tail, run_guard, run_guardD, resultsA, resA, Nat.add_assoc, wldV, hw]
  repeat'
    first
    | done
    | ((first
        | ((with_reducible show lenS _ _ _ _ _ _); refine lenS_slice rfl fun _ => ?_)
        | ((with_reducible show iaddrS _ _ _ _ _ _ _); refine iaddr_map rfl omA omA ?_)
        | ((with_reducible show doCall _ _ _ 57 _ _); refine call_pc (s_WorldOk (w := w) (F := F)) ?_)
        | ((with_reducible show doCall _ _ _ 94 _ _); refine call_pc (s_ReadyIn ht) ?_)
        | ((with_reducible show appS _ _ _ _ _ _ _ _); refine app_end rfl rfl (by decide) (by decide) (by first | (simp [-List.map_take, -List.map_drop, -List.map_tail, run_guard, run_guardD, resultsA, resA, Nat.add_assoc, wldV, hw]; done) | (simp [-List.map_take, -List.map_drop, -List.map_tail, run_guard, run_guardD, resultsA, resA, Nat.add_assoc, wldV, hw]; rfl)) (by first | (simp [-List.map_take, -List.map_drop, -List.map_tail, run_guard, run_guardD, resultsA, resA, Nat.add_assoc, wldV, hw]; done) | (simp [-List.map_take, -List.map_drop, -List.map_tail, run_guard, run_guardD, resultsA, resA, Nat.add_assoc, wldV, hw]; rfl)) (by first | (simp; done) | (simp; omega)) (by first | (simp only [MLIM, LIM] at *; simp; omega) | (simp only [MLIM]; simp; omega)) (by simp [iv, bv]) ?_)
        | (with_reducible refine go_draw (i := 9) [(0, [], []), (1, [], []), (2, [], []), (3, [], []), (4, [.tmp 29], []), (5, [], [])] (by kernel_rfl) ?_)) <;> simp [-List.map_take, -List.map_drop, -List.map_tail, run_guard, run_guardD, resultsA, resA, Nat.add_assoc, wldV, hw])
    | ((first | (with_reducible refine condS_split ?_ ?_)) <;> intro qb <;> (have qp := qb; try simp only [psq] at qp) <;> simp [-List.map_take, -List.map_drop, -List.map_tail, run_guard, run_guardD, resultsA, resA, Nat.add_assoc, wldV, hw, qb])
  refine go_upP (h0 := h) (nx0 := nx) [3, 5, 15, 16, 17, 18, 19, 20, 21, 22, 23, 24, 25, 26, 27, 28] ((readyIn w.tasks).length) (fun (i : Nat) a => [(5, .int .i64 i), (3, .ref a.1 2 0 a.2.length)]) (fun (i : Nat) (a : Nat × List Pik) h' n' => nx < a.1 ∧ a.1 < n' ∧ h' a.1 = some (.row 2 (a.2.map pikC)) ∧ a.2.length ≤ i ∧ h' nx = some (.obj (wldV F w)) ∧ a.2 ++ pkTasks ((readyIn w.tasks).drop i) = pkTasks (readyIn w.tasks)) ((nx + 2, [])) (by simp) ?_ keepA (by omega) ?_
  · simp [wldV]
  · intro i a tm h' n' hle hJ hE hn' next hnx
    try dsimp only at hJ
    have hK : KeepB nx h' h := KeepB.sub hE keepA (by omega)
    simp [-List.map_take, -List.map_drop, -List.map_tail]
    obtain ⟨id, acc⟩ := a
    obtain ⟨g0, g1, g2, g3, f1, hJ⟩ := hJ
    dsimp only at g0 g1 g2 g3 f1 hJ ⊢
    have k1 : ∀ k, (id = n' + k) = False := fun k => by simp only [eq_iff_iff, iff_false]; omega
    have k2 : ∀ k, (nx = n' + k) = False := fun k => by simp only [eq_iff_iff, iff_false]; omega
    have k3 : (nx = id) = False := by simp only [eq_iff_iff, iff_false]; omega
    by_cases hi : i < (readyIn w.tasks).length
    · try simp [-List.map_take, -List.map_drop, -List.map_tail, run_guard, run_guardD, resultsA, resA, Nat.add_assoc, iv, g2, k1]
      repeat'
        first
        | done
        | ((first
            | ((with_reducible show lenS _ _ _ _ _ _); refine lenS_slice rfl fun _ => ?_)
            | ((with_reducible show iaddrS _ _ _ _ _ _ _); refine iaddr_map rfl omA omA ?_)
            | ((with_reducible show appS _ _ _ _ _ _ _ _); refine app_end rfl rfl (by decide) (by decide) (by first | (simp [-List.map_take, -List.map_drop, -List.map_tail, run_guard, run_guardD, resultsA, resA, Nat.add_assoc, iv, g2, k1]; done) | (simp [-List.map_take, -List.map_drop, -List.map_tail, run_guard, run_guardD, resultsA, resA, Nat.add_assoc, iv, g2, k1]; rfl)) (by first | (simp [-List.map_take, -List.map_drop, -List.map_tail, run_guard, run_guardD, resultsA, resA, Nat.add_assoc, iv, g2, k1]; done) | (simp [-List.map_take, -List.map_drop, -List.map_tail, run_guard, run_guardD, resultsA, resA, Nat.add_assoc, iv, g2, k1]; rfl)) (by first | (simp; done) | (simp; omega)) (by first | (simp only [MLIM, LIM] at *; simp; omega) | (simp only [MLIM]; simp; omega)) (by simp [iv, bv]) ?_)
            | (with_reducible refine go_draw (i := 9) [(0, [], []), (1, [], []), (2, [], []), (3, [], []), (4, [.tmp 29], []), (5, [], [])] (by kernel_rfl) ?_)) <;> simp [-List.map_take, -List.map_drop, -List.map_tail, run_guard, run_guardD, resultsA, resA, Nat.add_assoc, iv, g2, k1])
        | ((first | (with_reducible refine condS_split ?_ ?_)) <;> intro qb <;> (have qp := qb; try simp only [psq] at qp) <;> simp [-List.map_take, -List.map_drop, -List.map_tail, run_guard, run_guardD, resultsA, resA, Nat.add_assoc, iv, g2, k1, qb])
      all_goals first
      | omega
      | (refine hnx.go (n' + 11, acc ++ [⟨1, gt (readyIn w.tasks) (i : Int)⟩]) (by omega) (by simp [wrap_succ hi hrl2]) (by simp) keepA (by first | omega | (simp; omega)) ?_
         dsimp only
         refine ⟨by omega, by omega, by simp [pikC], by simp; omega, by simp [k2, k3, f1], ?_⟩
         rw [drop_gt hi] at hJ
         rw [← hJ]; simp [pkTasks])
      | trace_state
    · have hi2 : ¬ ((i : Int) < (readyIn w.tasks).length) := by omega
      rw [List.drop_eq_nil_of_le (by omega)] at hJ
      have hacc : acc = pkTasks (readyIn w.tasks) := by rw [← hJ]; simp [pkTasks]
      have hal : acc.length ≤ 60 := by rw [hacc]; simp [pkTasks]; omega
      obtain ⟨m0, hm0⟩ : ∃ m, m = n' := ⟨_, rfl⟩
      subst hm0
      try simp [-List.map_take, -List.map_drop, -List.map_tail, run_guard, run_guardD, resultsA, resA, Nat.add_assoc, wldV, f1, g2, k1, k2, k3, hi, hi2]
      repeat'
        first
        | done
        | ((first
            | ((with_reducible show lenS _ _ _ _ _ _); refine lenS_slice rfl fun _ => ?_)
            | ((with_reducible show iaddrS _ _ _ _ _ _ _); refine iaddr_map rfl omA omA ?_)
            | ((with_reducible show doCall _ _ _ 95 _ _); refine call_pc (s_NextDue (t := w.timers) (F := F) htm) ?_)
            | ((with_reducible show doCall _ _ _ 80 _ _); refine call_pc (s_IsDue) ?_)
            | ((with_reducible show appS _ _ _ _ _ _ _ _); refine app_end rfl rfl (by decide) (by decide) (by first | (simp [-List.map_take, -List.map_drop, -List.map_tail, run_guard, run_guardD, resultsA, resA, Nat.add_assoc, wldV, f1, g2, k1, k2, k3, hi, hi2]; done) | (simp [-List.map_take, -List.map_drop, -List.map_tail, run_guard, run_guardD, resultsA, resA, Nat.add_assoc, wldV, f1, g2, k1, k2, k3, hi, hi2]; rfl)) (by first | (simp [-List.map_take, -List.map_drop, -List.map_tail, run_guard, run_guardD, resultsA, resA, Nat.add_assoc, wldV, f1, g2, k1, k2, k3, hi, hi2]; done) | (simp [-List.map_take, -List.map_drop, -List.map_tail, run_guard, run_guardD, resultsA, resA, Nat.add_assoc, wldV, f1, g2, k1, k2, k3, hi, hi2]; rfl)) (by first | (simp; done) | (simp; omega)) (by first | (simp only [MLIM, LIM] at *; simp; omega) | (simp only [MLIM]; simp; omega)) (by simp [iv, bv]) ?_)
            | (with_reducible refine go_draw (i := 9) [(0, [], []), (1, [], []), (2, [], []), (3, [], []), (4, [.tmp 29], []), (5, [], [])] (by kernel_rfl) ?_)) <;> simp [-List.map_take, -List.map_drop, -List.map_tail, run_guard, run_guardD, resultsA, resA, Nat.add_assoc, wldV, f1, g2, k1, k2, k3, hi, hi2])
        | ((first | (with_reducible refine condS_split ?_ ?_)) <;> intro qb <;> (have qp := qb; try simp only [psq] at qp) <;> simp [-List.map_take, -List.map_drop, -List.map_tail, run_guard, run_guardD, resultsA, resA, Nat.add_assoc, wldV, f1, g2, k1, k2, k3, hi, hi2, qb])
      · generalize hid2 : m0 + 23 = id2
        refine go_upP (h0 := h) (nx0 := nx) [2, 6, 48, 49, 50, 51, 52, 53, 54, 55, 56, 57, 58, 59, 60, 61, 62, 63, 64, 65, 66] (w.afters.list.length) (fun (i : Nat) a => [(6, .int .i64 i)]) (fun (i : Nat) (_ : Unit) h' n' => ((w.afters.list.drop i).any (·.queued)) = w.afters.list.any (·.queued) ∧ h' id2 = some (.row 2 ((acc ++ [(⟨2, 0⟩ : Pik), ⟨3, 0⟩]).map pikC)) ∧ h' nx = some (.obj (wldV F w)) ∧ id2 < n') (()) (by simp) ?_ keepA (by omega) ?_
        · subst hid2
          simp [wldV, f1, g2, pikC, k2, k3]
        · intro i a tm h' n' hle hJ hE hn' next hnx
          try dsimp only at hJ
          have hK : KeepB nx h' h := KeepB.sub hE keepA (by omega)
          simp [-List.map_take, -List.map_drop, -List.map_tail]
          obtain ⟨hJ2, r2, f2, g4⟩ := hJ
          have k4 : ∀ k, (id2 = n' + k) = False := fun k => by simp only [eq_iff_iff, iff_false]; omega
          have k5 : ∀ k, (nx = n' + k) = False := fun k => by simp only [eq_iff_iff, iff_false]; omega
          have k6 : (nx = id2) = False := by simp only [eq_iff_iff, iff_false]; omega
          by_cases hi3 : i < w.afters.list.length
          · try simp [-List.map_take, -List.map_drop, -List.map_tail, run_guard, run_guardD, resultsA, resA, Nat.add_assoc, wldV, afrC, f2, r2, k4, k5, k6, pikC]
            repeat'
              first
              | done
              | ((first
                  | ((with_reducible show lenS _ _ _ _ _ _); refine lenS_slice rfl fun _ => ?_)
                  | ((with_reducible show iaddrS _ _ _ _ _ _ _); refine iaddr_map rfl omA omA ?_)
                  | ((with_reducible show appS _ _ _ _ _ _ _ _); refine app_end rfl rfl (by decide) (by decide) (by first | (simp [-List.map_take, -List.map_drop, -List.map_tail, run_guard, run_guardD, resultsA, resA, Nat.add_assoc, wldV, afrC, f2, r2, k4, k5, k6, pikC]; done) | (simp [-List.map_take, -List.map_drop, -List.map_tail, run_guard, run_guardD, resultsA, resA, Nat.add_assoc, wldV, afrC, f2, r2, k4, k5, k6, pikC]; rfl)) (by first | (simp [-List.map_take, -List.map_drop, -List.map_tail, run_guard, run_guardD, resultsA, resA, Nat.add_assoc, wldV, afrC, f2, r2, k4, k5, k6, pikC]; done) | (simp [-List.map_take, -List.map_drop, -List.map_tail, run_guard, run_guardD, resultsA, resA, Nat.add_assoc, wldV, afrC, f2, r2, k4, k5, k6, pikC]; rfl)) (by first | (simp; done) | (simp; omega)) (by first | (simp only [MLIM, LIM] at *; simp; omega) | (simp only [MLIM]; simp; omega)) (by simp [iv, bv]) ?_)
                  | (with_reducible refine go_draw (i := 9) [(0, [], []), (1, [], []), (2, [], []), (3, [], []), (4, [.tmp 29], []), (5, [], [])] (by kernel_rfl) ?_)) <;> simp [-List.map_take, -List.map_drop, -List.map_tail, run_guard, run_guardD, resultsA, resA, Nat.add_assoc, wldV, afrC, f2, r2, k4, k5, k6, pikC])
              | ((first | (with_reducible refine condS_split ?_ ?_)) <;> intro qb <;> (have qp := qb; try simp only [psq] at qp) <;> simp [-List.map_take, -List.map_drop, -List.map_tail, run_guard, run_guardD, resultsA, resA, Nat.add_assoc, wldV, afrC, f2, r2, k4, k5, k6, pikC, qb])
            all_goals first
            | omega
            | (refine ⟨?_, keepA⟩
               clear hnx
               rw [drop_gt hi3] at hJ2
               rw [List.take_of_length_le (by simp), enabled_eq, ← hacc]
               simp_all [pkDrain, pkTell, pkStart, pikC]
               done)
            | (refine hnx.go () ?_ ?_ ?_ ?_ ?_ ?_
               · omega
               · simp [wrap_succ hi3 hlim]
               · simp
               · exact keepA
               · first | omega | (simp; omega)
               try dsimp only
               rw [drop_gt hi3] at hJ2
               refine ⟨by clear hnx; simp_all, by simp [r2, k4, pikC], by simp [f2, k5, k6, wldV], by omega⟩)
          · have hi4 : ¬ ((i : Int) < w.afters.list.length) := by omega
            try simp [-List.map_take, -List.map_drop, -List.map_tail, run_guard, run_guardD, resultsA, resA, Nat.add_assoc, wldV, f2, r2, k4, k5, k6, hi3, hi4]
            repeat'
              first
              | done
              | ((first
                  | ((with_reducible show lenS _ _ _ _ _ _); refine lenS_slice rfl fun _ => ?_)
                  | ((with_reducible show iaddrS _ _ _ _ _ _ _); refine iaddr_map rfl omA omA ?_)
                  | ((with_reducible show appS _ _ _ _ _ _ _ _); refine app_end rfl rfl (by decide) (by decide) (by first | (simp [-List.map_take, -List.map_drop, -List.map_tail, run_guard, run_guardD, resultsA, resA, Nat.add_assoc, wldV, f2, r2, k4, k5, k6, hi3, hi4]; done) | (simp [-List.map_take, -List.map_drop, -List.map_tail, run_guard, run_guardD, resultsA, resA, Nat.add_assoc, wldV, f2, r2, k4, k5, k6, hi3, hi4]; rfl)) (by first | (simp [-List.map_take, -List.map_drop, -List.map_tail, run_guard, run_guardD, resultsA, resA, Nat.add_assoc, wldV, f2, r2, k4, k5, k6, hi3, hi4]; done) | (simp [-List.map_take, -List.map_drop, -List.map_tail, run_guard, run_guardD, resultsA, resA, Nat.add_assoc, wldV, f2, r2, k4, k5, k6, hi3, hi4]; rfl)) (by first | (simp; done) | (simp; omega)) (by first | (simp only [MLIM, LIM] at *; simp; omega) | (simp only [MLIM]; simp; omega)) (by simp [iv, bv]) ?_)
                  | (with_reducible refine go_draw (i := 9) [(0, [], []), (1, [], []), (2, [], []), (3, [], []), (4, [.tmp 29], []), (5, [], [])] (by kernel_rfl) ?_)) <;> simp [-List.map_take, -List.map_drop, -List.map_tail, run_guard, run_guardD, resultsA, resA, Nat.add_assoc, wldV, f2, r2, k4, k5, k6, hi3, hi4])
              | ((first | (with_reducible refine condS_split ?_ ?_)) <;> intro qb <;> (have qp := qb; try simp only [psq] at qp) <;> simp [-List.map_take, -List.map_drop, -List.map_tail, run_guard, run_guardD, resultsA, resA, Nat.add_assoc, wldV, f2, r2, k4, k5, k6, hi3, hi4, qb])
            all_goals first
            | omega
            | (refine ⟨?_, keepA⟩
               clear hnx
               rw [List.drop_eq_nil_of_le (by omega)] at hJ2
               rw [List.take_of_length_le (by simp), enabled_eq, ← hacc]
               simp_all [pkDrain, pkTell, pkStart, pikC]
               done)
            | trace_state
      · generalize hid2 : m0 + 13 = id2
        refine go_upP (h0 := h) (nx0 := nx) [2, 6, 48, 49, 50, 51, 52, 53, 54, 55, 56, 57, 58, 59, 60, 61, 62, 63, 64, 65, 66] (w.afters.list.length) (fun (i : Nat) a => [(6, .int .i64 i)]) (fun (i : Nat) (_ : Unit) h' n' => ((w.afters.list.drop i).any (·.queued)) = w.afters.list.any (·.queued) ∧ h' id2 = some (.row 2 ((acc ++ [(⟨2, 0⟩ : Pik)]).map pikC)) ∧ h' nx = some (.obj (wldV F w)) ∧ id2 < n') (()) (by simp) ?_ keepA (by omega) ?_
        · subst hid2
          simp [wldV, f1, g2, pikC, k2, k3]
        · intro i a tm h' n' hle hJ hE hn' next hnx
          try dsimp only at hJ
          have hK : KeepB nx h' h := KeepB.sub hE keepA (by omega)
          simp [-List.map_take, -List.map_drop, -List.map_tail]
          obtain ⟨hJ2, r2, f2, g4⟩ := hJ
          have k4 : ∀ k, (id2 = n' + k) = False := fun k => by simp only [eq_iff_iff, iff_false]; omega
          have k5 : ∀ k, (nx = n' + k) = False := fun k => by simp only [eq_iff_iff, iff_false]; omega
          have k6 : (nx = id2) = False := by simp only [eq_iff_iff, iff_false]; omega
          by_cases hi3 : i < w.afters.list.length
          · try simp [-List.map_take, -List.map_drop, -List.map_tail, run_guard, run_guardD, resultsA, resA, Nat.add_assoc, wldV, afrC, f2, r2, k4, k5, k6, pikC]
            repeat'
              first
              | done
              | ((first
                  | ((with_reducible show lenS _ _ _ _ _ _); refine lenS_slice rfl fun _ => ?_)
                  | ((with_reducible show iaddrS _ _ _ _ _ _ _); refine iaddr_map rfl omA omA ?_)
                  | ((with_reducible show appS _ _ _ _ _ _ _ _); refine app_end rfl rfl (by decide) (by decide) (by first | (simp [-List.map_take, -List.map_drop, -List.map_tail, run_guard, run_guardD, resultsA, resA, Nat.add_assoc, wldV, afrC, f2, r2, k4, k5, k6, pikC]; done) | (simp [-List.map_take, -List.map_drop, -List.map_tail, run_guard, run_guardD, resultsA, resA, Nat.add_assoc, wldV, afrC, f2, r2, k4, k5, k6, pikC]; rfl)) (by first | (simp [-List.map_take, -List.map_drop, -List.map_tail, run_guard, run_guardD, resultsA, resA, Nat.add_assoc, wldV, afrC, f2, r2, k4, k5, k6, pikC]; done) | (simp [-List.map_take, -List.map_drop, -List.map_tail, run_guard, run_guardD, resultsA, resA, Nat.add_assoc, wldV, afrC, f2, r2, k4, k5, k6, pikC]; rfl)) (by first | (simp; done) | (simp; omega)) (by first | (simp only [MLIM, LIM] at *; simp; omega) | (simp only [MLIM]; simp; omega)) (by simp [iv, bv]) ?_)
                  | (with_reducible refine go_draw (i := 9) [(0, [], []), (1, [], []), (2, [], []), (3, [], []), (4, [.tmp 29], []), (5, [], [])] (by kernel_rfl) ?_)) <;> simp [-List.map_take, -List.map_drop, -List.map_tail, run_guard, run_guardD, resultsA, resA, Nat.add_assoc, wldV, afrC, f2, r2, k4, k5, k6, pikC])
              | ((first | (with_reducible refine condS_split ?_ ?_)) <;> intro qb <;> (have qp := qb; try simp only [psq] at qp) <;> simp [-List.map_take, -List.map_drop, -List.map_tail, run_guard, run_guardD, resultsA, resA, Nat.add_assoc, wldV, afrC, f2, r2, k4, k5, k6, pikC, qb])
            all_goals first
            | omega
            | (refine ⟨?_, keepA⟩
               clear hnx
               rw [drop_gt hi3] at hJ2
               rw [List.take_of_length_le (by simp), enabled_eq, ← hacc]
               simp_all [pkDrain, pkTell, pkStart, pikC]
               done)
            | (refine hnx.go () ?_ ?_ ?_ ?_ ?_ ?_
               · omega
               · simp [wrap_succ hi3 hlim]
               · simp
               · exact keepA
               · first | omega | (simp; omega)
               try dsimp only
               rw [drop_gt hi3] at hJ2
               refine ⟨by clear hnx; simp_all, by simp [r2, k4, pikC], by simp [f2, k5, k6, wldV], by omega⟩)
          · have hi4 : ¬ ((i : Int) < w.afters.list.length) := by omega
            try simp [-List.map_take, -List.map_drop, -List.map_tail, run_guard, run_guardD, resultsA, resA, Nat.add_assoc, wldV, f2, r2, k4, k5, k6, hi3, hi4]
            repeat'
              first
              | done
              | ((first
                  | ((with_reducible show lenS _ _ _ _ _ _); refine lenS_slice rfl fun _ => ?_)
                  | ((with_reducible show iaddrS _ _ _ _ _ _ _); refine iaddr_map rfl omA omA ?_)
                  | ((with_reducible show appS _ _ _ _ _ _ _ _); refine app_end rfl rfl (by decide) (by decide) (by first | (simp [-List.map_take, -List.map_drop, -List.map_tail, run_guard, run_guardD, resultsA, resA, Nat.add_assoc, wldV, f2, r2, k4, k5, k6, hi3, hi4]; done) | (simp [-List.map_take, -List.map_drop, -List.map_tail, run_guard, run_guardD, resultsA, resA, Nat.add_assoc, wldV, f2, r2, k4, k5, k6, hi3, hi4]; rfl)) (by first | (simp [-List.map_take, -List.map_drop, -List.map_tail, run_guard, run_guardD, resultsA, resA, Nat.add_assoc, wldV, f2, r2, k4, k5, k6, hi3, hi4]; done) | (simp [-List.map_take, -List.map_drop, -List.map_tail, run_guard, run_guardD, resultsA, resA, Nat.add_assoc, wldV, f2, r2, k4, k5, k6, hi3, hi4]; rfl)) (by first | (simp; done) | (simp; omega)) (by first | (simp only [MLIM, LIM] at *; simp; omega) | (simp only [MLIM]; simp; omega)) (by simp [iv, bv]) ?_)
                  | (with_reducible refine go_draw (i := 9) [(0, [], []), (1, [], []), (2, [], []), (3, [], []), (4, [.tmp 29], []), (5, [], [])] (by kernel_rfl) ?_)) <;> simp [-List.map_take, -List.map_drop, -List.map_tail, run_guard, run_guardD, resultsA, resA, Nat.add_assoc, wldV, f2, r2, k4, k5, k6, hi3, hi4])
              | ((first | (with_reducible refine condS_split ?_ ?_)) <;> intro qb <;> (have qp := qb; try simp only [psq] at qp) <;> simp [-List.map_take, -List.map_drop, -List.map_tail, run_guard, run_guardD, resultsA, resA, Nat.add_assoc, wldV, f2, r2, k4, k5, k6, hi3, hi4, qb])
            all_goals first
            | omega
            | (refine ⟨?_, keepA⟩
               clear hnx
               rw [List.drop_eq_nil_of_le (by omega)] at hJ2
               rw [List.take_of_length_le (by simp), enabled_eq, ← hacc]
               simp_all [pkDrain, pkTell, pkStart, pikC]
               done)
            | trace_state
      · generalize hid2 : m0 + 18 = id2
        refine go_upP (h0 := h) (nx0 := nx) [2, 6, 48, 49, 50, 51, 52, 53, 54, 55, 56, 57, 58, 59, 60, 61, 62, 63, 64, 65, 66] (w.afters.list.length) (fun (i : Nat) a => [(6, .int .i64 i)]) (fun (i : Nat) (_ : Unit) h' n' => ((w.afters.list.drop i).any (·.queued)) = w.afters.list.any (·.queued) ∧ h' id2 = some (.row 2 ((acc ++ [(⟨3, 0⟩ : Pik)]).map pikC)) ∧ h' nx = some (.obj (wldV F w)) ∧ id2 < n') (()) (by simp) ?_ keepA (by omega) ?_
        · subst hid2
          simp [wldV, f1, g2, pikC, k2, k3]
        · intro i a tm h' n' hle hJ hE hn' next hnx
          try dsimp only at hJ
          have hK : KeepB nx h' h := KeepB.sub hE keepA (by omega)
          simp [-List.map_take, -List.map_drop, -List.map_tail]
          obtain ⟨hJ2, r2, f2, g4⟩ := hJ
          have k4 : ∀ k, (id2 = n' + k) = False := fun k => by simp only [eq_iff_iff, iff_false]; omega
          have k5 : ∀ k, (nx = n' + k) = False := fun k => by simp only [eq_iff_iff, iff_false]; omega
          have k6 : (nx = id2) = False := by simp only [eq_iff_iff, iff_false]; omega
          by_cases hi3 : i < w.afters.list.length
          · try simp [-List.map_take, -List.map_drop, -List.map_tail, run_guard, run_guardD, resultsA, resA, Nat.add_assoc, wldV, afrC, f2, r2, k4, k5, k6, pikC]
            repeat'
              first
              | done
              | ((first
                  | ((with_reducible show lenS _ _ _ _ _ _); refine lenS_slice rfl fun _ => ?_)
                  | ((with_reducible show iaddrS _ _ _ _ _ _ _); refine iaddr_map rfl omA omA ?_)
                  | ((with_reducible show appS _ _ _ _ _ _ _ _); refine app_end rfl rfl (by decide) (by decide) (by first | (simp [-List.map_take, -List.map_drop, -List.map_tail, run_guard, run_guardD, resultsA, resA, Nat.add_assoc, wldV, afrC, f2, r2, k4, k5, k6, pikC]; done) | (simp [-List.map_take, -List.map_drop, -List.map_tail, run_guard, run_guardD, resultsA, resA, Nat.add_assoc, wldV, afrC, f2, r2, k4, k5, k6, pikC]; rfl)) (by first | (simp [-List.map_take, -List.map_drop, -List.map_tail, run_guard, run_guardD, resultsA, resA, Nat.add_assoc, wldV, afrC, f2, r2, k4, k5, k6, pikC]; done) | (simp [-List.map_take, -List.map_drop, -List.map_tail, run_guard, run_guardD, resultsA, resA, Nat.add_assoc, wldV, afrC, f2, r2, k4, k5, k6, pikC]; rfl)) (by first | (simp; done) | (simp; omega)) (by first | (simp only [MLIM, LIM] at *; simp; omega) | (simp only [MLIM]; simp; omega)) (by simp [iv, bv]) ?_)
                  | (with_reducible refine go_draw (i := 9) [(0, [], []), (1, [], []), (2, [], []), (3, [], []), (4, [.tmp 29], []), (5, [], [])] (by kernel_rfl) ?_)) <;> simp [-List.map_take, -List.map_drop, -List.map_tail, run_guard, run_guardD, resultsA, resA, Nat.add_assoc, wldV, afrC, f2, r2, k4, k5, k6, pikC])
              | ((first | (with_reducible refine condS_split ?_ ?_)) <;> intro qb <;> (have qp := qb; try simp only [psq] at qp) <;> simp [-List.map_take, -List.map_drop, -List.map_tail, run_guard, run_guardD, resultsA, resA, Nat.add_assoc, wldV, afrC, f2, r2, k4, k5, k6, pikC, qb])
            all_goals first
            | omega
            | (refine ⟨?_, keepA⟩
               clear hnx
               rw [drop_gt hi3] at hJ2
               rw [List.take_of_length_le (by simp), enabled_eq, ← hacc]
               simp_all [pkDrain, pkTell, pkStart, pikC]
               done)
            | (refine hnx.go () ?_ ?_ ?_ ?_ ?_ ?_
               · omega
               · simp [wrap_succ hi3 hlim]
               · simp
               · exact keepA
               · first | omega | (simp; omega)
               try dsimp only
               rw [drop_gt hi3] at hJ2
               refine ⟨by clear hnx; simp_all, by simp [r2, k4, pikC], by simp [f2, k5, k6, wldV], by omega⟩)
          · have hi4 : ¬ ((i : Int) < w.afters.list.length) := by omega
            try simp [-List.map_take, -List.map_drop, -List.map_tail, run_guard, run_guardD, resultsA, resA, Nat.add_assoc, wldV, f2, r2, k4, k5, k6, hi3, hi4]
            repeat'
              first
              | done
              | ((first
                  | ((with_reducible show lenS _ _ _ _ _ _); refine lenS_slice rfl fun _ => ?_)
                  | ((with_reducible show iaddrS _ _ _ _ _ _ _); refine iaddr_map rfl omA omA ?_)
                  | ((with_reducible show appS _ _ _ _ _ _ _ _); refine app_end rfl rfl (by decide) (by decide) (by first | (simp [-List.map_take, -List.map_drop, -List.map_tail, run_guard, run_guardD, resultsA, resA, Nat.add_assoc, wldV, f2, r2, k4, k5, k6, hi3, hi4]; done) | (simp [-List.map_take, -List.map_drop, -List.map_tail, run_guard, run_guardD, resultsA, resA, Nat.add_assoc, wldV, f2, r2, k4, k5, k6, hi3, hi4]; rfl)) (by first | (simp [-List.map_take, -List.map_drop, -List.map_tail, run_guard, run_guardD, resultsA, resA, Nat.add_assoc, wldV, f2, r2, k4, k5, k6, hi3, hi4]; done) | (simp [-List.map_take, -List.map_drop, -List.map_tail, run_guard, run_guardD, resultsA, resA, Nat.add_assoc, wldV, f2, r2, k4, k5, k6, hi3, hi4]; rfl)) (by first | (simp; done) | (simp; omega)) (by first | (simp only [MLIM, LIM] at *; simp; omega) | (simp only [MLIM]; simp; omega)) (by simp [iv, bv]) ?_)
                  | (with_reducible refine go_draw (i := 9) [(0, [], []), (1, [], []), (2, [], []), (3, [], []), (4, [.tmp 29], []), (5, [], [])] (by kernel_rfl) ?_)) <;> simp [-List.map_take, -List.map_drop, -List.map_tail, run_guard, run_guardD, resultsA, resA, Nat.add_assoc, wldV, f2, r2, k4, k5, k6, hi3, hi4])
              | ((first | (with_reducible refine condS_split ?_ ?_)) <;> intro qb <;> (have qp := qb; try simp only [psq] at qp) <;> simp [-List.map_take, -List.map_drop, -List.map_tail, run_guard, run_guardD, resultsA, resA, Nat.add_assoc, wldV, f2, r2, k4, k5, k6, hi3, hi4, qb])
            all_goals first
            | omega
            | (refine ⟨?_, keepA⟩
               clear hnx
               rw [List.drop_eq_nil_of_le (by omega)] at hJ2
               rw [List.take_of_length_le (by simp), enabled_eq, ← hacc]
               simp_all [pkDrain, pkTell, pkStart, pikC]
               done)
            | trace_state
      · refine go_upP (h0 := h) (nx0 := nx) [2, 6, 48, 49, 50, 51, 52, 53, 54, 55, 56, 57, 58, 59, 60, 61, 62, 63, 64, 65, 66] (w.afters.list.length) (fun (i : Nat) a => [(6, .int .i64 i)]) (fun (i : Nat) (_ : Unit) h' n' => ((w.afters.list.drop i).any (·.queued)) = w.afters.list.any (·.queued) ∧ h' (id) = some (.row 2 ((acc).map pikC)) ∧ h' nx = some (.obj (wldV F w)) ∧ id < n') (()) (by simp) ?_ keepA (by omega) ?_
        · simp [wldV, f1, g2, pikC, k1, k2, k3]; omega
        · intro i a tm h' n' hle hJ hE hn' next hnx
          try dsimp only at hJ
          have hK : KeepB nx h' h := KeepB.sub hE keepA (by omega)
          simp [-List.map_take, -List.map_drop, -List.map_tail]
          obtain ⟨hJ2, r2, f2, g4⟩ := hJ
          have k4 : ∀ k, (id = n' + k) = False := fun k => by simp only [eq_iff_iff, iff_false]; omega
          have k5 : ∀ k, (nx = n' + k) = False := fun k => by simp only [eq_iff_iff, iff_false]; omega
          have k6 : (nx = id) = False := by simp only [eq_iff_iff, iff_false]; omega
          by_cases hi3 : i < w.afters.list.length
          · try simp [-List.map_take, -List.map_drop, -List.map_tail, run_guard, run_guardD, resultsA, resA, Nat.add_assoc, wldV, afrC, f2, r2, k4, k5, k6, pikC]
            repeat'
              first
              | done
              | ((first
                  | ((with_reducible show lenS _ _ _ _ _ _); refine lenS_slice rfl fun _ => ?_)
                  | ((with_reducible show iaddrS _ _ _ _ _ _ _); refine iaddr_map rfl omA omA ?_)
                  | ((with_reducible show appS _ _ _ _ _ _ _ _); refine app_end rfl rfl (by decide) (by decide) (by first | (simp [-List.map_take, -List.map_drop, -List.map_tail, run_guard, run_guardD, resultsA, resA, Nat.add_assoc, wldV, afrC, f2, r2, k4, k5, k6, pikC]; done) | (simp [-List.map_take, -List.map_drop, -List.map_tail, run_guard, run_guardD, resultsA, resA, Nat.add_assoc, wldV, afrC, f2, r2, k4, k5, k6, pikC]; rfl)) (by first | (simp [-List.map_take, -List.map_drop, -List.map_tail, run_guard, run_guardD, resultsA, resA, Nat.add_assoc, wldV, afrC, f2, r2, k4, k5, k6, pikC]; done) | (simp [-List.map_take, -List.map_drop, -List.map_tail, run_guard, run_guardD, resultsA, resA, Nat.add_assoc, wldV, afrC, f2, r2, k4, k5, k6, pikC]; rfl)) (by first | (simp; done) | (simp; omega)) (by first | (simp only [MLIM, LIM] at *; simp; omega) | (simp only [MLIM]; simp; omega)) (by simp [iv, bv]) ?_)
                  | (with_reducible refine go_draw (i := 9) [(0, [], []), (1, [], []), (2, [], []), (3, [], []), (4, [.tmp 29], []), (5, [], [])] (by kernel_rfl) ?_)) <;> simp [-List.map_take, -List.map_drop, -List.map_tail, run_guard, run_guardD, resultsA, resA, Nat.add_assoc, wldV, afrC, f2, r2, k4, k5, k6, pikC])
              | ((first | (with_reducible refine condS_split ?_ ?_)) <;> intro qb <;> (have qp := qb; try simp only [psq] at qp) <;> simp [-List.map_take, -List.map_drop, -List.map_tail, run_guard, run_guardD, resultsA, resA, Nat.add_assoc, wldV, afrC, f2, r2, k4, k5, k6, pikC, qb])
            all_goals first
            | omega
            | (refine ⟨?_, keepA⟩
               clear hnx
               rw [drop_gt hi3] at hJ2
               rw [List.take_of_length_le (by simp), enabled_eq, ← hacc]
               simp_all [pkDrain, pkTell, pkStart, pikC]
               done)
            | (refine hnx.go () ?_ ?_ ?_ ?_ ?_ ?_
               · omega
               · simp [wrap_succ hi3 hlim]
               · simp
               · exact keepA
               · first | omega | (simp; omega)
               try dsimp only
               rw [drop_gt hi3] at hJ2
               refine ⟨by clear hnx; simp_all, by simp [r2, k4, pikC], by simp [f2, k5, k6, wldV], by omega⟩)
          · have hi4 : ¬ ((i : Int) < w.afters.list.length) := by omega
            try simp [-List.map_take, -List.map_drop, -List.map_tail, run_guard, run_guardD, resultsA, resA, Nat.add_assoc, wldV, f2, r2, k4, k5, k6, hi3, hi4]
            repeat'
              first
              | done
              | ((first
                  | ((with_reducible show lenS _ _ _ _ _ _); refine lenS_slice rfl fun _ => ?_)
                  | ((with_reducible show iaddrS _ _ _ _ _ _ _); refine iaddr_map rfl omA omA ?_)
                  | ((with_reducible show appS _ _ _ _ _ _ _ _); refine app_end rfl rfl (by decide) (by decide) (by first | (simp [-List.map_take, -List.map_drop, -List.map_tail, run_guard, run_guardD, resultsA, resA, Nat.add_assoc, wldV, f2, r2, k4, k5, k6, hi3, hi4]; done) | (simp [-List.map_take, -List.map_drop, -List.map_tail, run_guard, run_guardD, resultsA, resA, Nat.add_assoc, wldV, f2, r2, k4, k5, k6, hi3, hi4]; rfl)) (by first | (simp [-List.map_take, -List.map_drop, -List.map_tail, run_guard, run_guardD, resultsA, resA, Nat.add_assoc, wldV, f2, r2, k4, k5, k6, hi3, hi4]; done) | (simp [-List.map_take, -List.map_drop, -List.map_tail, run_guard, run_guardD, resultsA, resA, Nat.add_assoc, wldV, f2, r2, k4, k5, k6, hi3, hi4]; rfl)) (by first | (simp; done) | (simp; omega)) (by first | (simp only [MLIM, LIM] at *; simp; omega) | (simp only [MLIM]; simp; omega)) (by simp [iv, bv]) ?_)
                  | (with_reducible refine go_draw (i := 9) [(0, [], []), (1, [], []), (2, [], []), (3, [], []), (4, [.tmp 29], []), (5, [], [])] (by kernel_rfl) ?_)) <;> simp [-List.map_take, -List.map_drop, -List.map_tail, run_guard, run_guardD, resultsA, resA, Nat.add_assoc, wldV, f2, r2, k4, k5, k6, hi3, hi4])
              | ((first | (with_reducible refine condS_split ?_ ?_)) <;> intro qb <;> (have qp := qb; try simp only [psq] at qp) <;> simp [-List.map_take, -List.map_drop, -List.map_tail, run_guard, run_guardD, resultsA, resA, Nat.add_assoc, wldV, f2, r2, k4, k5, k6, hi3, hi4, qb])
            all_goals first
            | omega
            | (refine ⟨?_, keepA⟩
               clear hnx
               rw [List.drop_eq_nil_of_le (by omega)] at hJ2
               rw [List.take_of_length_le (by simp), enabled_eq, ← hacc]
               simp_all [pkDrain, pkTell, pkStart, pikC]
               done)
            | trace_state
-- spec.CalmIn
end Go.AE.Tryz
end

section
/- Contracts of the laws' copies as new rows. -/
set_option linter.unusedSimpArgs false
set_option linter.unusedVariables false
set_option maxRecDepth 8000
set_option maxHeartbeats 2000000
namespace Go.AE.Tryz
open Go.Proofs


-- laws.toInsS
theorem f_toInsS {p : Bool} {xs : List Inn} (hm : xs.length ≤ MLIM) : FC ctx.P 149 [.view p 3 (xs.map innC)] (.ref 0 3 0 (xs.map innC).length) [.row 3 (xs.map innC)] := by
  have hlim : xs.length ≤ LIM := by simp only [MLIM, LIM] at *; omega
  refine FC.of1 okC Tryz.func149 rfl rfl (by kernel_rfl) (Nat.le_of_ble_eq_true rfl) (by decide) (fz_mapR innC_fz xs) fun h nx hnx => ?_
  show goC ctx _ _ (.fin (Ret1 _ _ _ _ _ _))
  try simp [-List.map_take, -List.map_drop, -List.map_tail, run_guard, run_guardD, resultsA, resA, Nat.add_assoc, hm]
  repeat'
    first
    | done
    | ((first
        | ((with_reducible show lenS _ _ _ _ _ _); refine lenS_slice rfl fun _ => ?_)
        | ((with_reducible show iaddrS _ _ _ _ _ _ _); refine iaddr_map rfl omA omA ?_)) <;> simp [-List.map_take, -List.map_drop, -List.map_tail, run_guard, run_guardD, resultsA, resA, Nat.add_assoc, hm])
    | ((first | (with_reducible refine condS_split ?_ ?_)) <;> intro qb <;> (have qp := qb; try simp only [psq] at qp) <;> simp [-List.map_take, -List.map_drop, -List.map_tail, run_guard, run_guardD, resultsA, resA, Nat.add_assoc, hm, qb])
  refine go_upP (h0 := h) (nx0 := nx) [4, 8, 9, 10, 11, 12, 13, 14, 15, 16, 17, 18, 19, 20, 21] (xs.length) (fun (i : Nat) a => [(4, .int .i64 i)]) (fun i (_ : Unit) h' n' => h' (nx + 3) = some (.row 3 (fillR innC [.int .i64 0, .int .i64 0, .int .i64 0] xs i)) ∧ nx + 4 ≤ n') (()) (by simp) ?_ keepA (by omega) ?_
  · simp [fillR_0]
  · intro i a tm h' n' hle hJ hE hn' next hnx
    try dsimp only at hJ
    have hK : KeepB nx h' h := KeepB.sub hE keepA (by omega)
    simp [-List.map_take, -List.map_drop, -List.map_tail]
    obtain ⟨hJ, hJn⟩ := hJ
    try simp [-List.map_take, -List.map_drop, -List.map_tail, run_guard, run_guardD, resultsA, resA, Nat.add_assoc, hJ]
    repeat'
      first
      | done
      | ((first
          | ((with_reducible show lenS _ _ _ _ _ _); refine lenS_slice rfl fun _ => ?_)
          | ((with_reducible show iaddrS _ _ _ _ _ _ _); refine iaddr_map rfl omA omA ?_)
          | ((with_reducible show doCall _ _ _ 257 _ _); refine call_pc (c_toIns) ?_)
          | ((with_reducible show iaddrS _ _ _ _ (.ref _ _ _ _) _ _); refine iaddr_ref rfl omA omA ?_)
          | ((with_reducible show storeE _ _ _ _ _ _ _ _ _); refine storeE_fill hJ (by first | rfl | (simp; done)) (by simp) (by rfl) (by rfl) (by rfl) (by omega) ?_)) <;> simp [-List.map_take, -List.map_drop, -List.map_tail, run_guard, run_guardD, resultsA, resA, Nat.add_assoc, hJ])
      | ((first | (with_reducible refine condS_split ?_ ?_)) <;> intro qb <;> (have qp := qb; try simp only [psq] at qp) <;> simp [-List.map_take, -List.map_drop, -List.map_tail, run_guard, run_guardD, resultsA, resA, Nat.add_assoc, hJ, qb])
    all_goals first
      | (have hlt : i < xs.length := (by first | omega | (simp at *; omega)); refine hnx.go () (by omega) (by simp [wrap_succ hlt hlim]) (by simp) keepA (by first | omega | (simp; omega)) ?_; (try dsimp only); refine ⟨by simp, by first | omega | (simp; omega)⟩)
      | (rw [fillR_ge (by first | omega | (simp at *; omega))] at hJ; exact fin1_ref keepA (by first | omega | (simp; omega)) (by omega) (by simp [hJ]) rfl (by simp))

-- laws.toNodeS
theorem f_toNodeS {p : Bool} {xs : List Nod} (hm : xs.length ≤ MLIM) : FC ctx.P 59 [.view p 5 (xs.map nodC)] (.ref 0 5 0 (xs.map nodC).length) [.row 5 (xs.map nodC)] := by
  have hlim : xs.length ≤ LIM := by simp only [MLIM, LIM] at *; omega
  refine FC.of1 okC Tryz.func59 rfl rfl (by kernel_rfl) (Nat.le_of_ble_eq_true rfl) (by decide) (fz_mapR nodC_fz xs) fun h nx hnx => ?_
  show goC ctx _ _ (.fin (Ret1 _ _ _ _ _ _))
  try simp [-List.map_take, -List.map_drop, -List.map_tail, run_guard, run_guardD, resultsA, resA, Nat.add_assoc, hm]
  repeat'
    first
    | done
    | ((first
        | ((with_reducible show lenS _ _ _ _ _ _); refine lenS_slice rfl fun _ => ?_)
        | ((with_reducible show iaddrS _ _ _ _ _ _ _); refine iaddr_map rfl omA omA ?_)) <;> simp [-List.map_take, -List.map_drop, -List.map_tail, run_guard, run_guardD, resultsA, resA, Nat.add_assoc, hm])
    | ((first | (with_reducible refine condS_split ?_ ?_)) <;> intro qb <;> (have qp := qb; try simp only [psq] at qp) <;> simp [-List.map_take, -List.map_drop, -List.map_tail, run_guard, run_guardD, resultsA, resA, Nat.add_assoc, hm, qb])
  refine go_upP (h0 := h) (nx0 := nx) [4, 8, 9, 10, 11, 12, 13, 14, 15, 16, 17, 18, 19, 20, 21] (xs.length) (fun (i : Nat) a => [(4, .int .i64 i)]) (fun i (_ : Unit) h' n' => h' (nx + 3) = some (.row 5 (fillR nodC [.int .i64 0, .int .i64 0, .int .i64 0, .int .i64 0, .int .i64 0] xs i)) ∧ nx + 4 ≤ n') (()) (by simp) ?_ keepA (by omega) ?_
  · simp [fillR_0]
  · intro i a tm h' n' hle hJ hE hn' next hnx
    try dsimp only at hJ
    have hK : KeepB nx h' h := KeepB.sub hE keepA (by omega)
    simp [-List.map_take, -List.map_drop, -List.map_tail]
    obtain ⟨hJ, hJn⟩ := hJ
    try simp [-List.map_take, -List.map_drop, -List.map_tail, run_guard, run_guardD, resultsA, resA, Nat.add_assoc, hJ]
    repeat'
      first
      | done
      | ((first
          | ((with_reducible show lenS _ _ _ _ _ _); refine lenS_slice rfl fun _ => ?_)
          | ((with_reducible show iaddrS _ _ _ _ _ _ _); refine iaddr_map rfl omA omA ?_)
          | ((with_reducible show doCall _ _ _ 150 _ _); refine call_pc (c_toNode) ?_)
          | ((with_reducible show iaddrS _ _ _ _ (.ref _ _ _ _) _ _); refine iaddr_ref rfl omA omA ?_)
          | ((with_reducible show storeE _ _ _ _ _ _ _ _ _); refine storeE_fill hJ (by first | rfl | (simp; done)) (by simp) (by rfl) (by rfl) (by rfl) (by omega) ?_)) <;> simp [-List.map_take, -List.map_drop, -List.map_tail, run_guard, run_guardD, resultsA, resA, Nat.add_assoc, hJ])
      | ((first | (with_reducible refine condS_split ?_ ?_)) <;> intro qb <;> (have qp := qb; try simp only [psq] at qp) <;> simp [-List.map_take, -List.map_drop, -List.map_tail, run_guard, run_guardD, resultsA, resA, Nat.add_assoc, hJ, qb])
    all_goals first
      | (have hlt : i < xs.length := (by first | omega | (simp at *; omega)); refine hnx.go () (by omega) (by simp [wrap_succ hlt hlim]) (by simp) keepA (by first | omega | (simp; omega)) ?_; (try dsimp only); refine ⟨by simp, by first | omega | (simp; omega)⟩)
      | (rw [fillR_ge (by first | omega | (simp at *; omega))] at hJ; exact fin1_ref keepA (by first | omega | (simp; omega)) (by omega) (by simp [hJ]) rfl (by simp))

-- laws.toEventS
theorem f_toEventS {p : Bool} {xs : List Evt} (hm : xs.length ≤ MLIM) : FC ctx.P 60 [.view p 4 (xs.map evtC)] (.ref 0 4 0 (xs.map evtC).length) [.row 4 (xs.map evtC)] := by
  have hlim : xs.length ≤ LIM := by simp only [MLIM, LIM] at *; omega
  refine FC.of1 okC Tryz.func60 rfl rfl (by kernel_rfl) (Nat.le_of_ble_eq_true rfl) (by decide) (fz_mapR evtC_fz xs) fun h nx hnx => ?_
  show goC ctx _ _ (.fin (Ret1 _ _ _ _ _ _))
  try simp [-List.map_take, -List.map_drop, -List.map_tail, run_guard, run_guardD, resultsA, resA, Nat.add_assoc, hm]
  repeat'
    first
    | done
    | ((first
        | ((with_reducible show lenS _ _ _ _ _ _); refine lenS_slice rfl fun _ => ?_)
        | ((with_reducible show iaddrS _ _ _ _ _ _ _); refine iaddr_map rfl omA omA ?_)) <;> simp [-List.map_take, -List.map_drop, -List.map_tail, run_guard, run_guardD, resultsA, resA, Nat.add_assoc, hm])
    | ((first | (with_reducible refine condS_split ?_ ?_)) <;> intro qb <;> (have qp := qb; try simp only [psq] at qp) <;> simp [-List.map_take, -List.map_drop, -List.map_tail, run_guard, run_guardD, resultsA, resA, Nat.add_assoc, hm, qb])
  refine go_upP (h0 := h) (nx0 := nx) [4, 8, 9, 10, 11, 12, 13, 14, 15, 16, 17, 18, 19, 20, 21] (xs.length) (fun (i : Nat) a => [(4, .int .i64 i)]) (fun i (_ : Unit) h' n' => h' (nx + 3) = some (.row 4 (fillR evtC [.int .i64 0, .int .i64 0, .int .i64 0, .int .i64 0] xs i)) ∧ nx + 4 ≤ n') (()) (by simp) ?_ keepA (by omega) ?_
  · simp [fillR_0]
  · intro i a tm h' n' hle hJ hE hn' next hnx
    try dsimp only at hJ
    have hK : KeepB nx h' h := KeepB.sub hE keepA (by omega)
    simp [-List.map_take, -List.map_drop, -List.map_tail]
    obtain ⟨hJ, hJn⟩ := hJ
    try simp [-List.map_take, -List.map_drop, -List.map_tail, run_guard, run_guardD, resultsA, resA, Nat.add_assoc, hJ]
    repeat'
      first
      | done
      | ((first
          | ((with_reducible show lenS _ _ _ _ _ _); refine lenS_slice rfl fun _ => ?_)
          | ((with_reducible show iaddrS _ _ _ _ _ _ _); refine iaddr_map rfl omA omA ?_)
          | ((with_reducible show doCall _ _ _ 151 _ _); refine call_pc (c_toEvent) ?_)
          | ((with_reducible show iaddrS _ _ _ _ (.ref _ _ _ _) _ _); refine iaddr_ref rfl omA omA ?_)
          | ((with_reducible show storeE _ _ _ _ _ _ _ _ _); refine storeE_fill hJ (by first | rfl | (simp; done)) (by simp) (by rfl) (by rfl) (by rfl) (by omega) ?_)) <;> simp [-List.map_take, -List.map_drop, -List.map_tail, run_guard, run_guardD, resultsA, resA, Nat.add_assoc, hJ])
      | ((first | (with_reducible refine condS_split ?_ ?_)) <;> intro qb <;> (have qp := qb; try simp only [psq] at qp) <;> simp [-List.map_take, -List.map_drop, -List.map_tail, run_guard, run_guardD, resultsA, resA, Nat.add_assoc, hJ, qb])
    all_goals first
      | (have hlt : i < xs.length := (by first | omega | (simp at *; omega)); refine hnx.go () (by omega) (by simp [wrap_succ hlt hlim]) (by simp) keepA (by first | omega | (simp; omega)) ?_; (try dsimp only); refine ⟨by simp, by first | omega | (simp; omega)⟩)
      | (rw [fillR_ge (by first | omega | (simp at *; omega))] at hJ; exact fin1_ref keepA (by first | omega | (simp; omega)) (by omega) (by simp [hJ]) rfl (by simp))

-- laws.toTwigS
theorem f_toTwigS {p : Bool} {xs : List Twg} (hm : xs.length ≤ MLIM) : FC ctx.P 153 [.view p 3 (xs.map twgC)] (.ref 0 3 0 (xs.map twgC).length) [.row 3 (xs.map twgC)] := by
  have hlim : xs.length ≤ LIM := by simp only [MLIM, LIM] at *; omega
  refine FC.of1 okC Tryz.func153 rfl rfl (by kernel_rfl) (Nat.le_of_ble_eq_true rfl) (by decide) (fz_mapR twgC_fz xs) fun h nx hnx => ?_
  show goC ctx _ _ (.fin (Ret1 _ _ _ _ _ _))
  try simp [-List.map_take, -List.map_drop, -List.map_tail, run_guard, run_guardD, resultsA, resA, Nat.add_assoc, hm]
  repeat'
    first
    | done
    | ((first
        | ((with_reducible show lenS _ _ _ _ _ _); refine lenS_slice rfl fun _ => ?_)
        | ((with_reducible show iaddrS _ _ _ _ _ _ _); refine iaddr_map rfl omA omA ?_)) <;> simp [-List.map_take, -List.map_drop, -List.map_tail, run_guard, run_guardD, resultsA, resA, Nat.add_assoc, hm])
    | ((first | (with_reducible refine condS_split ?_ ?_)) <;> intro qb <;> (have qp := qb; try simp only [psq] at qp) <;> simp [-List.map_take, -List.map_drop, -List.map_tail, run_guard, run_guardD, resultsA, resA, Nat.add_assoc, hm, qb])
  refine go_upP (h0 := h) (nx0 := nx) [4, 8, 9, 10, 11, 12, 13, 14, 15, 16, 17, 18, 19, 20, 21] (xs.length) (fun (i : Nat) a => [(4, .int .i64 i)]) (fun i (_ : Unit) h' n' => h' (nx + 3) = some (.row 3 (fillR twgC [.int .i64 0, .int .i64 0, .int .i64 0] xs i)) ∧ nx + 4 ≤ n') (()) (by simp) ?_ keepA (by omega) ?_
  · simp [fillR_0]
  · intro i a tm h' n' hle hJ hE hn' next hnx
    try dsimp only at hJ
    have hK : KeepB nx h' h := KeepB.sub hE keepA (by omega)
    simp [-List.map_take, -List.map_drop, -List.map_tail]
    obtain ⟨hJ, hJn⟩ := hJ
    try simp [-List.map_take, -List.map_drop, -List.map_tail, run_guard, run_guardD, resultsA, resA, Nat.add_assoc, hJ]
    repeat'
      first
      | done
      | ((first
          | ((with_reducible show lenS _ _ _ _ _ _); refine lenS_slice rfl fun _ => ?_)
          | ((with_reducible show iaddrS _ _ _ _ _ _ _); refine iaddr_map rfl omA omA ?_)
          | ((with_reducible show doCall _ _ _ 258 _ _); refine call_pc (c_toTwig) ?_)
          | ((with_reducible show iaddrS _ _ _ _ (.ref _ _ _ _) _ _); refine iaddr_ref rfl omA omA ?_)
          | ((with_reducible show storeE _ _ _ _ _ _ _ _ _); refine storeE_fill hJ (by first | rfl | (simp; done)) (by simp) (by rfl) (by rfl) (by rfl) (by omega) ?_)) <;> simp [-List.map_take, -List.map_drop, -List.map_tail, run_guard, run_guardD, resultsA, resA, Nat.add_assoc, hJ])
      | ((first | (with_reducible refine condS_split ?_ ?_)) <;> intro qb <;> (have qp := qb; try simp only [psq] at qp) <;> simp [-List.map_take, -List.map_drop, -List.map_tail, run_guard, run_guardD, resultsA, resA, Nat.add_assoc, hJ, qb])
    all_goals first
      | (have hlt : i < xs.length := (by first | omega | (simp at *; omega)); refine hnx.go () (by omega) (by simp [wrap_succ hlt hlim]) (by simp) keepA (by first | omega | (simp; omega)) ?_; (try dsimp only); refine ⟨by simp, by first | omega | (simp; omega)⟩)
      | (rw [fillR_ge (by first | omega | (simp at *; omega))] at hJ; exact fin1_ref keepA (by first | omega | (simp; omega)) (by omega) (by simp [hJ]) rfl (by simp))

-- laws.toTimerS
theorem f_toTimerS {p : Bool} {xs : List Tmr} (hm : xs.length ≤ MLIM) : FC ctx.P 154 [.view p 5 (xs.map tmrC)] (.ref 0 5 0 (xs.map tmrC).length) [.row 5 (xs.map tmrC)] := by
  have hlim : xs.length ≤ LIM := by simp only [MLIM, LIM] at *; omega
  refine FC.of1 okC Tryz.func154 rfl rfl (by kernel_rfl) (Nat.le_of_ble_eq_true rfl) (by decide) (fz_mapR tmrC_fz xs) fun h nx hnx => ?_
  show goC ctx _ _ (.fin (Ret1 _ _ _ _ _ _))
  try simp [-List.map_take, -List.map_drop, -List.map_tail, run_guard, run_guardD, resultsA, resA, Nat.add_assoc, hm]
  repeat'
    first
    | done
    | ((first
        | ((with_reducible show lenS _ _ _ _ _ _); refine lenS_slice rfl fun _ => ?_)
        | ((with_reducible show iaddrS _ _ _ _ _ _ _); refine iaddr_map rfl omA omA ?_)) <;> simp [-List.map_take, -List.map_drop, -List.map_tail, run_guard, run_guardD, resultsA, resA, Nat.add_assoc, hm])
    | ((first | (with_reducible refine condS_split ?_ ?_)) <;> intro qb <;> (have qp := qb; try simp only [psq] at qp) <;> simp [-List.map_take, -List.map_drop, -List.map_tail, run_guard, run_guardD, resultsA, resA, Nat.add_assoc, hm, qb])
  refine go_upP (h0 := h) (nx0 := nx) [4, 8, 9, 10, 11, 12, 13, 14, 15, 16, 17, 18, 19, 20, 21] (xs.length) (fun (i : Nat) a => [(4, .int .i64 i)]) (fun i (_ : Unit) h' n' => h' (nx + 3) = some (.row 5 (fillR tmrC [.int .i64 0, .int .i64 0, .int .i64 0, .int .i64 0, .bool false] xs i)) ∧ nx + 4 ≤ n') (()) (by simp) ?_ keepA (by omega) ?_
  · simp [fillR_0]
  · intro i a tm h' n' hle hJ hE hn' next hnx
    try dsimp only at hJ
    have hK : KeepB nx h' h := KeepB.sub hE keepA (by omega)
    simp [-List.map_take, -List.map_drop, -List.map_tail]
    obtain ⟨hJ, hJn⟩ := hJ
    try simp [-List.map_take, -List.map_drop, -List.map_tail, run_guard, run_guardD, resultsA, resA, Nat.add_assoc, hJ]
    repeat'
      first
      | done
      | ((first
          | ((with_reducible show lenS _ _ _ _ _ _); refine lenS_slice rfl fun _ => ?_)
          | ((with_reducible show iaddrS _ _ _ _ _ _ _); refine iaddr_map rfl omA omA ?_)
          | ((with_reducible show doCall _ _ _ 259 _ _); refine call_pc (c_toTimer) ?_)
          | ((with_reducible show iaddrS _ _ _ _ (.ref _ _ _ _) _ _); refine iaddr_ref rfl omA omA ?_)
          | ((with_reducible show storeE _ _ _ _ _ _ _ _ _); refine storeE_fill hJ (by first | rfl | (simp; done)) (by simp) (by rfl) (by rfl) (by rfl) (by omega) ?_)) <;> simp [-List.map_take, -List.map_drop, -List.map_tail, run_guard, run_guardD, resultsA, resA, Nat.add_assoc, hJ])
      | ((first | (with_reducible refine condS_split ?_ ?_)) <;> intro qb <;> (have qp := qb; try simp only [psq] at qp) <;> simp [-List.map_take, -List.map_drop, -List.map_tail, run_guard, run_guardD, resultsA, resA, Nat.add_assoc, hJ, qb])
    all_goals first
      | (have hlt : i < xs.length := (by first | omega | (simp at *; omega)); refine hnx.go () (by omega) (by simp [wrap_succ hlt hlim]) (by simp) keepA (by first | omega | (simp; omega)) ?_; (try dsimp only); refine ⟨by simp, by first | omega | (simp; omega)⟩)
      | (rw [fillR_ge (by first | omega | (simp at *; omega))] at hJ; exact fin1_ref keepA (by first | omega | (simp; omega)) (by omega) (by simp [hJ]) rfl (by simp))

-- laws.toAfterS
theorem f_toAfterS {p : Bool} {xs : List Afr} (hm : xs.length ≤ MLIM) : FC ctx.P 156 [.view p 5 (xs.map afrC)] (.ref 0 5 0 (xs.map afrC).length) [.row 5 (xs.map afrC)] := by
  have hlim : xs.length ≤ LIM := by simp only [MLIM, LIM] at *; omega
  refine FC.of1 okC Tryz.func156 rfl rfl (by kernel_rfl) (Nat.le_of_ble_eq_true rfl) (by decide) (fz_mapR afrC_fz xs) fun h nx hnx => ?_
  show goC ctx _ _ (.fin (Ret1 _ _ _ _ _ _))
  try simp [-List.map_take, -List.map_drop, -List.map_tail, run_guard, run_guardD, resultsA, resA, Nat.add_assoc, hm]
  repeat'
    first
    | done
    | ((first
        | ((with_reducible show lenS _ _ _ _ _ _); refine lenS_slice rfl fun _ => ?_)
        | ((with_reducible show iaddrS _ _ _ _ _ _ _); refine iaddr_map rfl omA omA ?_)) <;> simp [-List.map_take, -List.map_drop, -List.map_tail, run_guard, run_guardD, resultsA, resA, Nat.add_assoc, hm])
    | ((first | (with_reducible refine condS_split ?_ ?_)) <;> intro qb <;> (have qp := qb; try simp only [psq] at qp) <;> simp [-List.map_take, -List.map_drop, -List.map_tail, run_guard, run_guardD, resultsA, resA, Nat.add_assoc, hm, qb])
  refine go_upP (h0 := h) (nx0 := nx) [4, 8, 9, 10, 11, 12, 13, 14, 15, 16, 17, 18, 19, 20, 21] (xs.length) (fun (i : Nat) a => [(4, .int .i64 i)]) (fun i (_ : Unit) h' n' => h' (nx + 3) = some (.row 5 (fillR afrC [.int .i64 0, .int .i64 0, .int .i64 0, .int .i64 0, .bool false] xs i)) ∧ nx + 4 ≤ n') (()) (by simp) ?_ keepA (by omega) ?_
  · simp [fillR_0]
  · intro i a tm h' n' hle hJ hE hn' next hnx
    try dsimp only at hJ
    have hK : KeepB nx h' h := KeepB.sub hE keepA (by omega)
    simp [-List.map_take, -List.map_drop, -List.map_tail]
    obtain ⟨hJ, hJn⟩ := hJ
    try simp [-List.map_take, -List.map_drop, -List.map_tail, run_guard, run_guardD, resultsA, resA, Nat.add_assoc, hJ]
    repeat'
      first
      | done
      | ((first
          | ((with_reducible show lenS _ _ _ _ _ _); refine lenS_slice rfl fun _ => ?_)
          | ((with_reducible show iaddrS _ _ _ _ _ _ _); refine iaddr_map rfl omA omA ?_)
          | ((with_reducible show doCall _ _ _ 260 _ _); refine call_pc (c_toAfter) ?_)
          | ((with_reducible show iaddrS _ _ _ _ (.ref _ _ _ _) _ _); refine iaddr_ref rfl omA omA ?_)
          | ((with_reducible show storeE _ _ _ _ _ _ _ _ _); refine storeE_fill hJ (by first | rfl | (simp; done)) (by simp) (by rfl) (by rfl) (by rfl) (by omega) ?_)) <;> simp [-List.map_take, -List.map_drop, -List.map_tail, run_guard, run_guardD, resultsA, resA, Nat.add_assoc, hJ])
      | ((first | (with_reducible refine condS_split ?_ ?_)) <;> intro qb <;> (have qp := qb; try simp only [psq] at qp) <;> simp [-List.map_take, -List.map_drop, -List.map_tail, run_guard, run_guardD, resultsA, resA, Nat.add_assoc, hJ, qb])
    all_goals first
      | (have hlt : i < xs.length := (by first | omega | (simp at *; omega)); refine hnx.go () (by omega) (by simp [wrap_succ hlt hlim]) (by simp) keepA (by first | omega | (simp; omega)) ?_; (try dsimp only); refine ⟨by simp, by first | omega | (simp; omega)⟩)
      | (rw [fillR_ge (by first | omega | (simp at *; omega))] at hJ; exact fin1_ref keepA (by first | omega | (simp; omega)) (by omega) (by simp [hJ]) rfl (by simp))

-- laws.toTaskS
theorem f_toTaskS {p : Bool} {xs : List Tsk} (hm : xs.length ≤ MLIM) : FC ctx.P 64 [.view p 9 (xs.map tskC)] (.ref 0 9 0 (xs.map tskC).length) [.row 9 (xs.map tskC)] := by
  have hlim : xs.length ≤ LIM := by simp only [MLIM, LIM] at *; omega
  refine FC.of1 okC Tryz.func64 rfl rfl (by kernel_rfl) (Nat.le_of_ble_eq_true rfl) (by decide) (fz_mapR tskC_fz xs) fun h nx hnx => ?_
  show goC ctx _ _ (.fin (Ret1 _ _ _ _ _ _))
  try simp [-List.map_take, -List.map_drop, -List.map_tail, run_guard, run_guardD, resultsA, resA, Nat.add_assoc, hm]
  repeat'
    first
    | done
    | ((first
        | ((with_reducible show lenS _ _ _ _ _ _); refine lenS_slice rfl fun _ => ?_)
        | ((with_reducible show iaddrS _ _ _ _ _ _ _); refine iaddr_map rfl omA omA ?_)) <;> simp [-List.map_take, -List.map_drop, -List.map_tail, run_guard, run_guardD, resultsA, resA, Nat.add_assoc, hm])
    | ((first | (with_reducible refine condS_split ?_ ?_)) <;> intro qb <;> (have qp := qb; try simp only [psq] at qp) <;> simp [-List.map_take, -List.map_drop, -List.map_tail, run_guard, run_guardD, resultsA, resA, Nat.add_assoc, hm, qb])
  refine go_upP (h0 := h) (nx0 := nx) [4, 8, 9, 10, 11, 12, 13, 14, 15, 16, 17, 18, 19, 20, 21] (xs.length) (fun (i : Nat) a => [(4, .int .i64 i)]) (fun i (_ : Unit) h' n' => h' (nx + 3) = some (.row 9 (fillR tskC [.int .i64 0, .int .i64 0, .int .i64 0, .int .i64 0, .int .i64 0, .int .i64 0, .int .i64 0, .int .i64 0, .int .i64 0] xs i)) ∧ nx + 4 ≤ n') (()) (by simp) ?_ keepA (by omega) ?_
  · simp [fillR_0]
  · intro i a tm h' n' hle hJ hE hn' next hnx
    try dsimp only at hJ
    have hK : KeepB nx h' h := KeepB.sub hE keepA (by omega)
    simp [-List.map_take, -List.map_drop, -List.map_tail]
    obtain ⟨hJ, hJn⟩ := hJ
    try simp [-List.map_take, -List.map_drop, -List.map_tail, run_guard, run_guardD, resultsA, resA, Nat.add_assoc, hJ]
    repeat'
      first
      | done
      | ((first
          | ((with_reducible show lenS _ _ _ _ _ _); refine lenS_slice rfl fun _ => ?_)
          | ((with_reducible show iaddrS _ _ _ _ _ _ _); refine iaddr_map rfl omA omA ?_)
          | ((with_reducible show doCall _ _ _ 157 _ _); refine call_pc (c_toTask) ?_)
          | ((with_reducible show iaddrS _ _ _ _ (.ref _ _ _ _) _ _); refine iaddr_ref rfl omA omA ?_)
          | ((with_reducible show storeE _ _ _ _ _ _ _ _ _); refine storeE_fill hJ (by first | rfl | (simp; done)) (by simp) (by rfl) (by rfl) (by rfl) (by omega) ?_)) <;> simp [-List.map_take, -List.map_drop, -List.map_tail, run_guard, run_guardD, resultsA, resA, Nat.add_assoc, hJ])
      | ((first | (with_reducible refine condS_split ?_ ?_)) <;> intro qb <;> (have qp := qb; try simp only [psq] at qp) <;> simp [-List.map_take, -List.map_drop, -List.map_tail, run_guard, run_guardD, resultsA, resA, Nat.add_assoc, hJ, qb])
    all_goals first
      | (have hlt : i < xs.length := (by first | omega | (simp at *; omega)); refine hnx.go () (by omega) (by simp [wrap_succ hlt hlim]) (by simp) keepA (by first | omega | (simp; omega)) ?_; (try dsimp only); refine ⟨by simp, by first | omega | (simp; omega)⟩)
      | (rw [fillR_ge (by first | omega | (simp at *; omega))] at hJ; exact fin1_ref keepA (by first | omega | (simp; omega)) (by omega) (by simp [hJ]) rfl (by simp))

-- laws.toSightS
theorem f_toSightS {p : Bool} {xs : List Sgt} (hm : xs.length ≤ MLIM) : FC ctx.P 66 [.view p 4 (xs.map sgtC)] (.ref 0 4 0 (xs.map sgtC).length) [.row 4 (xs.map sgtC)] := by
  have hlim : xs.length ≤ LIM := by simp only [MLIM, LIM] at *; omega
  refine FC.of1 okC Tryz.func66 rfl rfl (by kernel_rfl) (Nat.le_of_ble_eq_true rfl) (by decide) (fz_mapR sgtC_fz xs) fun h nx hnx => ?_
  show goC ctx _ _ (.fin (Ret1 _ _ _ _ _ _))
  try simp [-List.map_take, -List.map_drop, -List.map_tail, run_guard, run_guardD, resultsA, resA, Nat.add_assoc, hm]
  repeat'
    first
    | done
    | ((first
        | ((with_reducible show lenS _ _ _ _ _ _); refine lenS_slice rfl fun _ => ?_)
        | ((with_reducible show iaddrS _ _ _ _ _ _ _); refine iaddr_map rfl omA omA ?_)) <;> simp [-List.map_take, -List.map_drop, -List.map_tail, run_guard, run_guardD, resultsA, resA, Nat.add_assoc, hm])
    | ((first | (with_reducible refine condS_split ?_ ?_)) <;> intro qb <;> (have qp := qb; try simp only [psq] at qp) <;> simp [-List.map_take, -List.map_drop, -List.map_tail, run_guard, run_guardD, resultsA, resA, Nat.add_assoc, hm, qb])
  refine go_upP (h0 := h) (nx0 := nx) [4, 8, 9, 10, 11, 12, 13, 14, 15, 16, 17, 18, 19, 20, 21] (xs.length) (fun (i : Nat) a => [(4, .int .i64 i)]) (fun i (_ : Unit) h' n' => h' (nx + 3) = some (.row 4 (fillR sgtC [.int .i64 0, .int .i64 0, .int .i64 0, .int .i64 0] xs i)) ∧ nx + 4 ≤ n') (()) (by simp) ?_ keepA (by omega) ?_
  · simp [fillR_0]
  · intro i a tm h' n' hle hJ hE hn' next hnx
    try dsimp only at hJ
    have hK : KeepB nx h' h := KeepB.sub hE keepA (by omega)
    simp [-List.map_take, -List.map_drop, -List.map_tail]
    obtain ⟨hJ, hJn⟩ := hJ
    try simp [-List.map_take, -List.map_drop, -List.map_tail, run_guard, run_guardD, resultsA, resA, Nat.add_assoc, hJ]
    repeat'
      first
      | done
      | ((first
          | ((with_reducible show lenS _ _ _ _ _ _); refine lenS_slice rfl fun _ => ?_)
          | ((with_reducible show iaddrS _ _ _ _ _ _ _); refine iaddr_map rfl omA omA ?_)
          | ((with_reducible show doCall _ _ _ 159 _ _); refine call_pc (c_toSight) ?_)
          | ((with_reducible show iaddrS _ _ _ _ (.ref _ _ _ _) _ _); refine iaddr_ref rfl omA omA ?_)
          | ((with_reducible show storeE _ _ _ _ _ _ _ _ _); refine storeE_fill hJ (by first | rfl | (simp; done)) (by simp) (by rfl) (by rfl) (by rfl) (by omega) ?_)) <;> simp [-List.map_take, -List.map_drop, -List.map_tail, run_guard, run_guardD, resultsA, resA, Nat.add_assoc, hJ])
      | ((first | (with_reducible refine condS_split ?_ ?_)) <;> intro qb <;> (have qp := qb; try simp only [psq] at qp) <;> simp [-List.map_take, -List.map_drop, -List.map_tail, run_guard, run_guardD, resultsA, resA, Nat.add_assoc, hJ, qb])
    all_goals first
      | (have hlt : i < xs.length := (by first | omega | (simp at *; omega)); refine hnx.go () (by omega) (by simp [wrap_succ hlt hlim]) (by simp) keepA (by first | omega | (simp; omega)) ?_; (try dsimp only); refine ⟨by simp, by first | omega | (simp; omega)⟩)
      | (rw [fillR_ge (by first | omega | (simp at *; omega))] at hJ; exact fin1_ref keepA (by first | omega | (simp; omega)) (by omega) (by simp [hJ]) rfl (by simp))



-- laws.toInt64S
theorem f_toInt64S {p : Bool} {xs : List Int} (hm : xs.length ≤ MLIM) : FC ctx.P 67 [.view p 1 (xs.map iv)] (.ref 0 1 0 (xs.map iv).length) [.row 1 (xs.map iv)] := by
  have hlim : xs.length ≤ LIM := by simp only [MLIM, LIM] at *; omega
  refine FC.of1 okC Tryz.func67 rfl rfl (by kernel_rfl) (Nat.le_of_ble_eq_true rfl) (by decide) (fz_mapR iv_fz xs) fun h nx hnx => ?_
  show goC ctx _ _ (.fin (Ret1 _ _ _ _ _ _))
  try simp [-List.map_take, -List.map_drop, -List.map_tail, run_guard, run_guardD, resultsA, resA, Nat.add_assoc, hm]
  repeat'
    first
    | done
    | ((first
        | ((with_reducible show lenS _ _ _ _ _ _); refine lenS_slice rfl fun _ => ?_)
        | ((with_reducible show iaddrS _ _ _ _ _ _ _); refine iaddr_map rfl omA omA ?_)) <;> simp [-List.map_take, -List.map_drop, -List.map_tail, run_guard, run_guardD, resultsA, resA, Nat.add_assoc, hm])
    | ((first | (with_reducible refine condS_split ?_ ?_)) <;> intro qb <;> (have qp := qb; try simp only [psq] at qp) <;> simp [-List.map_take, -List.map_drop, -List.map_tail, run_guard, run_guardD, resultsA, resA, Nat.add_assoc, hm, qb])
  refine go_upP (h0 := h) (nx0 := nx) [4, 8, 9, 10, 11, 12, 13, 14, 15, 16, 17, 18, 19, 20] (xs.length) (fun (i : Nat) a => [(4, .int .i64 i)]) (fun i (_ : Unit) h' n' => h' (nx + 3) = some (.row 1 (fillR iv [.int .i64 0] xs i)) ∧ nx + 4 ≤ n') (()) (by simp) ?_ keepA (by omega) ?_
  · simp [fillR_0]
  · intro i a tm h' n' hle hJ hE hn' next hnx
    try dsimp only at hJ
    have hK : KeepB nx h' h := KeepB.sub hE keepA (by omega)
    simp [-List.map_take, -List.map_drop, -List.map_tail]
    obtain ⟨hJ, hJn⟩ := hJ
    try simp [-List.map_take, -List.map_drop, -List.map_tail, run_guard, run_guardD, resultsA, resA, Nat.add_assoc, hJ, iv]
    repeat'
      first
      | done
      | ((first
          | ((with_reducible show lenS _ _ _ _ _ _); refine lenS_slice rfl fun _ => ?_)
          | ((with_reducible show iaddrS _ _ _ _ _ _ _); refine iaddr_map rfl omA omA ?_)
          | ((with_reducible show iaddrS _ _ _ _ (.ref _ _ _ _) _ _); refine iaddr_ref rfl omA omA ?_)
          | ((with_reducible show storeE _ _ _ _ _ _ _ _ _); refine storeE_fill hJ (by first | rfl | (simp; done)) (by simp) (by rfl) (by rfl) (by rfl) (by omega) ?_)) <;> simp [-List.map_take, -List.map_drop, -List.map_tail, run_guard, run_guardD, resultsA, resA, Nat.add_assoc, hJ, iv])
      | ((first | (with_reducible refine condS_split ?_ ?_)) <;> intro qb <;> (have qp := qb; try simp only [psq] at qp) <;> simp [-List.map_take, -List.map_drop, -List.map_tail, run_guard, run_guardD, resultsA, resA, Nat.add_assoc, hJ, iv, qb])
    all_goals first
      | (have hlt : i < xs.length := (by first | omega | (simp at *; omega)); refine hnx.go () (by omega) (by simp [wrap_succ hlt hlim]) (by simp) keepA (by first | omega | (simp; omega)) ?_; (try dsimp only); refine ⟨by simp, by first | omega | (simp; omega)⟩)
      | (rw [fillR_ge (by first | omega | (simp at *; omega))] at hJ; exact fin1_ref keepA (by first | omega | (simp; omega)) (by omega) (by simp [hJ]) rfl (by simp))

-- laws.toBoolS
theorem f_toBoolS {p : Bool} {xs : List Bool} (hm : xs.length ≤ MLIM) : FC ctx.P 152 [.view p 1 (xs.map bv)] (.ref 0 1 0 (xs.map bv).length) [.row 1 (xs.map bv)] := by
  have hlim : xs.length ≤ LIM := by simp only [MLIM, LIM] at *; omega
  refine FC.of1 okC Tryz.func152 rfl rfl (by kernel_rfl) (Nat.le_of_ble_eq_true rfl) (by decide) (fz_mapR bv_fz xs) fun h nx hnx => ?_
  show goC ctx _ _ (.fin (Ret1 _ _ _ _ _ _))
  try simp [-List.map_take, -List.map_drop, -List.map_tail, run_guard, run_guardD, resultsA, resA, Nat.add_assoc, hm]
  repeat'
    first
    | done
    | ((first
        | ((with_reducible show lenS _ _ _ _ _ _); refine lenS_slice rfl fun _ => ?_)
        | ((with_reducible show iaddrS _ _ _ _ _ _ _); refine iaddr_map rfl omA omA ?_)) <;> simp [-List.map_take, -List.map_drop, -List.map_tail, run_guard, run_guardD, resultsA, resA, Nat.add_assoc, hm])
    | ((first | (with_reducible refine condS_split ?_ ?_)) <;> intro qb <;> (have qp := qb; try simp only [psq] at qp) <;> simp [-List.map_take, -List.map_drop, -List.map_tail, run_guard, run_guardD, resultsA, resA, Nat.add_assoc, hm, qb])
  refine go_upP (h0 := h) (nx0 := nx) [4, 8, 9, 10, 11, 12, 13, 14, 15, 16, 17, 18, 19, 20] (xs.length) (fun (i : Nat) a => [(4, .int .i64 i)]) (fun i (_ : Unit) h' n' => h' (nx + 3) = some (.row 1 (fillR bv [.bool false] xs i)) ∧ nx + 4 ≤ n') (()) (by simp) ?_ keepA (by omega) ?_
  · simp [fillR_0]
  · intro i a tm h' n' hle hJ hE hn' next hnx
    try dsimp only at hJ
    have hK : KeepB nx h' h := KeepB.sub hE keepA (by omega)
    simp [-List.map_take, -List.map_drop, -List.map_tail]
    obtain ⟨hJ, hJn⟩ := hJ
    try simp [-List.map_take, -List.map_drop, -List.map_tail, run_guard, run_guardD, resultsA, resA, Nat.add_assoc, hJ, bv]
    repeat'
      first
      | done
      | ((first
          | ((with_reducible show lenS _ _ _ _ _ _); refine lenS_slice rfl fun _ => ?_)
          | ((with_reducible show iaddrS _ _ _ _ _ _ _); refine iaddr_map rfl omA omA ?_)
          | ((with_reducible show iaddrS _ _ _ _ (.ref _ _ _ _) _ _); refine iaddr_ref rfl omA omA ?_)
          | ((with_reducible show storeE _ _ _ _ _ _ _ _ _); refine storeE_fill hJ (by first | rfl | (simp; done)) (by simp) (by rfl) (by rfl) (by rfl) (by omega) ?_)) <;> simp [-List.map_take, -List.map_drop, -List.map_tail, run_guard, run_guardD, resultsA, resA, Nat.add_assoc, hJ, bv])
      | ((first | (with_reducible refine condS_split ?_ ?_)) <;> intro qb <;> (have qp := qb; try simp only [psq] at qp) <;> simp [-List.map_take, -List.map_drop, -List.map_tail, run_guard, run_guardD, resultsA, resA, Nat.add_assoc, hJ, bv, qb])
    all_goals first
      | (have hlt : i < xs.length := (by first | omega | (simp at *; omega)); refine hnx.go () (by omega) (by simp [wrap_succ hlt hlim]) (by simp) keepA (by first | omega | (simp; omega)) ?_; (try dsimp only); refine ⟨by simp, by first | omega | (simp; omega)⟩)
      | (rw [fillR_ge (by first | omega | (simp at *; omega))] at hJ; exact fin1_ref keepA (by first | omega | (simp; omega)) (by omega) (by simp [hJ]) rfl (by simp))

end Go.AE.Tryz
end

section
/- Contracts of the laws' copies of worlds as new rows. -/
set_option linter.unusedSimpArgs false
set_option linter.unusedVariables false
set_option maxRecDepth 8000
set_option maxHeartbeats 2000000
namespace Go.AE.Tryz
open Go.Proofs
-- laws.toInsSS
theorem w_toInsSS {p r : Bool} {xs : List (List Inn)} (hm : xs.length ≤ MLIM) (hi : ∀ x ∈ xs, x.length ≤ MLIM) : AC ctx.P 58 [.view p 1 (xs.map (prgV r))] (fun _ _ => True)
    (fun h nx v h' nx' => KeepB nx h' h ∧ ∃ id is, v = .ref id 1 0 xs.length ∧ h' id = some (.row 1 (List.zipWith prgR xs is)) ∧ is.length = xs.length ∧ nx ≤ id ∧ id < nx' ∧ Subs h' 3 (fun x : List Inn => x.map innC) xs is (id + 1) nx') := by
  have hlim : xs.length ≤ LIM := by simp only [MLIM, LIM] at *; omega
  refine AC.of okC Tryz.func58 rfl rfl (by kernel_rfl) (Nat.le_of_ble_eq_true rfl) fun h nx hfr hnx hpre => ?_
  show goC ctx _ _ (.fin (RetQ _ _ _))
  try simp [-List.map_take, -List.map_drop, -List.map_tail, run_guard, run_guardD, resultsA, resA, Nat.add_assoc, hm]
  repeat'
    first
    | done
    | ((first
        | ((with_reducible show lenS _ _ _ _ _ _); refine lenS_slice rfl fun _ => ?_)
        | ((with_reducible show iaddrS _ _ _ _ _ _ _); refine iaddr_map rfl omA omA ?_)) <;> simp [-List.map_take, -List.map_drop, -List.map_tail, run_guard, run_guardD, resultsA, resA, Nat.add_assoc, hm])
    | ((first | (with_reducible refine condS_split ?_ ?_)) <;> intro qb <;> (have qp := qb; try simp only [psq] at qp) <;> simp [-List.map_take, -List.map_drop, -List.map_tail, run_guard, run_guardD, resultsA, resA, Nat.add_assoc, hm, qb])
  refine go_upP (h0 := h) (nx0 := nx) [4, 8, 9, 10, 11, 12, 13, 14, 15, 16, 17, 18, 19, 20, 21] (xs.length) (fun (i : Nat) a => [(4, .int .i64 i)]) (fun i (a : List Nat) h' n' => a.length = i ∧ h' (nx + 3) = some (.row 1 (fillZ prgR [.nil] xs a)) ∧ Subs h' 3 (fun x : List Inn => x.map innC) xs a (nx + 4) n' ∧ nx + 4 ≤ n') ([]) (by simp) ?_ keepA (by omega) ?_
  · simp [fillZ_0, Subs.nil]
  · intro i a tm h' n' hle hJ hE hn' next hnx
    try dsimp only at hJ
    have hK : KeepB nx h' h := KeepB.sub hE keepA (by omega)
    simp [-List.map_take, -List.map_drop, -List.map_tail]
    obtain ⟨hJa, hJ, hS, hJn⟩ := hJ
    have k1 : ∀ k, (nx + 3 = n' + k) = False := fun k => by simp only [eq_iff_iff, iff_false]; omega
    subst hJa
    by_cases hlt : a.length < xs.length
    · try simp [-List.map_take, -List.map_drop, -List.map_tail, run_guard, run_guardD, resultsA, resA, Nat.add_assoc, hJ, prgV, k1]
      repeat'
        first
        | done
        | ((first
            | ((with_reducible show lenS _ _ _ _ _ _); refine lenS_slice rfl fun _ => ?_)
            | ((with_reducible show iaddrS _ _ _ _ _ _ _); refine iaddr_map rfl omA omA ?_)
            | ((with_reducible show doCall _ _ _ 149 _ _); refine call_fc (f_toInsS (hi _ (gt_mem (by omega) (by omega)))) ?_)
            | (((with_reducible show iaddrS _ _ _ _ (.ref _ _ _ _) _ _); refine iaddr_ref rfl (by omega) (by omega) ?_))
            | (((with_reducible show storeE _ _ _ _ _ _ _ _ _); refine storeE_put (sz := 1) (xs := fillZ prgR [.nil] xs a) (cells := [.nil]) (by simp [hJ]; omega) rfl rfl rfl (fillZ_get hlt) rfl ?_))) <;> simp [-List.map_take, -List.map_drop, -List.map_tail, run_guard, run_guardD, resultsA, resA, Nat.add_assoc, hJ, prgV, k1])
        | ((first | (with_reducible refine condS_split ?_ ?_)) <;> intro qb <;> (have qp := qb; try simp only [psq] at qp) <;> simp [-List.map_take, -List.map_drop, -List.map_tail, run_guard, run_guardD, resultsA, resA, Nat.add_assoc, hJ, prgV, k1, qb])
      all_goals first
      | omega
      | (refine hnx.go (a ++ [n' + 13]) (by omega) (by simp [wrap_succ hlt hlim]) (by simp) keepA (by first | omega | (simp; omega)) ?_
         try dsimp only
         refine ⟨by simp, ?_, hS.snoc (fun k hk => ?_) ?_ (by omega) (by omega) (by omega), by omega⟩
         · simpa [prgR] using fillZ_set (f := prgR) (z := [.nil]) (xs := xs) (is := a) (by omega) (n' + 13)
         · have := hS.lo k hk
           have := hS.hi k hk
           rw [upd_ne _ _ _ _ (by omega), upd_ne _ _ _ _ (by omega)]
         · simp; omega)
    · try simp [-List.map_take, -List.map_drop, -List.map_tail, run_guard, run_guardD, resultsA, resA, Nat.add_assoc, hJ, hlt]
      repeat'
        first
        | done
        | ((first
            | ((with_reducible show lenS _ _ _ _ _ _); refine lenS_slice rfl fun _ => ?_)
            | ((with_reducible show iaddrS _ _ _ _ _ _ _); refine iaddr_map rfl omA omA ?_)) <;> simp [-List.map_take, -List.map_drop, -List.map_tail, run_guard, run_guardD, resultsA, resA, Nat.add_assoc, hJ, hlt])
        | ((first | (with_reducible refine condS_split ?_ ?_)) <;> intro qb <;> (have qp := qb; try simp only [psq] at qp) <;> simp [-List.map_take, -List.map_drop, -List.map_tail, run_guard, run_guardD, resultsA, resA, Nat.add_assoc, hJ, hlt, qb])
      exact ⟨keepA, a, by rw [fillZ_end (by omega)], by omega, by omega, hS.keep (fun _ _ => rfl) (by omega) (by omega)⟩
-- laws.toGroup
theorem f_toGroup {r : Bool} {g : Grp} (hm : g.waits.length ≤ MLIM) : FC ctx.P 158 [.agg (grpV r g)] (.agg (grpR g 0)) [.row 1 (g.waits.map iv)] := by
  refine FC.of okC Tryz.func158 rfl rfl (by kernel_rfl) (Nat.le_of_ble_eq_true rfl) ((by simp only [grpR]; exact .one _ (.agg _ fun c hc => by simp at hc; rcases hc with rfl | rfl | rfl | rfl | rfl <;> first | exact .ref _ _ _ _ (by simp) | exact .fz _ (.int _ _)))) ((fun e he => by simp at he; subst he; exact fz_mapR iv_fz _)) fun h nx hnx => ?_
  show goC ctx _ _ (.fin (RetF _ _ _ _ _ _))
  try simp [-List.map_take, -List.map_drop, -List.map_tail, run_guard, run_guardD, resultsA, resA, Nat.add_assoc, grpV]
  repeat'
    first
    | done
    | ((first
        | ((with_reducible show doCall _ _ _ 67 _ _); refine call_fc (f_toInt64S hm) ?_)) <;> simp [-List.map_take, -List.map_drop, -List.map_tail, run_guard, run_guardD, resultsA, resA, Nat.add_assoc, grpV])
  exact finF1 (i := nx + 20) keepA (by omega) (by simp) (by simp [grpR])
-- laws.toGroupS
theorem w_toGroupS {p r : Bool} {xs : List Grp} (hm : xs.length ≤ MLIM) (hi : ∀ x ∈ xs, x.waits.length ≤ MLIM) : AC ctx.P 65 [.view p 5 (xs.map (grpV r))] (fun _ _ => True)
    (fun h nx v h' nx' => KeepB nx h' h ∧ ∃ id is, v = .ref id 5 0 xs.length ∧ h' id = some (.row 5 (List.zipWith grpR xs is)) ∧ is.length = xs.length ∧ nx ≤ id ∧ id < nx' ∧ Subs h' 1 (fun x : Grp => x.waits.map iv) xs is (id + 1) nx') := by
  have hlim : xs.length ≤ LIM := by simp only [MLIM, LIM] at *; omega
  refine AC.of okC Tryz.func65 rfl rfl (by kernel_rfl) (Nat.le_of_ble_eq_true rfl) fun h nx hfr hnx hpre => ?_
  show goC ctx _ _ (.fin (RetQ _ _ _))
  try simp [-List.map_take, -List.map_drop, -List.map_tail, run_guard, run_guardD, resultsA, resA, Nat.add_assoc, hm]
  repeat'
    first
    | done
    | ((first
        | ((with_reducible show lenS _ _ _ _ _ _); refine lenS_slice rfl fun _ => ?_)
        | ((with_reducible show iaddrS _ _ _ _ _ _ _); refine iaddr_map rfl omA omA ?_)) <;> simp [-List.map_take, -List.map_drop, -List.map_tail, run_guard, run_guardD, resultsA, resA, Nat.add_assoc, hm])
    | ((first | (with_reducible refine condS_split ?_ ?_)) <;> intro qb <;> (have qp := qb; try simp only [psq] at qp) <;> simp [-List.map_take, -List.map_drop, -List.map_tail, run_guard, run_guardD, resultsA, resA, Nat.add_assoc, hm, qb])
  refine go_upP (h0 := h) (nx0 := nx) [4, 8, 9, 10, 11, 12, 13, 14, 15, 16, 17, 18, 19, 20, 21] (xs.length) (fun (i : Nat) a => [(4, .int .i64 i)]) (fun i (a : List Nat) h' n' => a.length = i ∧ h' (nx + 3) = some (.row 5 (fillZ grpR [.int .i64 0, .int .i64 0, .int .i64 0, .nil, .int .i64 0] xs a)) ∧ Subs h' 1 (fun x : Grp => x.waits.map iv) xs a (nx + 4) n' ∧ nx + 4 ≤ n') ([]) (by simp) ?_ keepA (by omega) ?_
  · simp [fillZ_0, Subs.nil]
  · intro i a tm h' n' hle hJ hE hn' next hnx
    try dsimp only at hJ
    have hK : KeepB nx h' h := KeepB.sub hE keepA (by omega)
    simp [-List.map_take, -List.map_drop, -List.map_tail]
    obtain ⟨hJa, hJ, hS, hJn⟩ := hJ
    subst hJa
    by_cases hlt : a.length < xs.length
    · try simp [-List.map_take, -List.map_drop, -List.map_tail, run_guard, run_guardD, resultsA, resA, Nat.add_assoc, hJ, grpV, grpR]
      repeat'
        first
        | done
        | ((first
            | ((with_reducible show lenS _ _ _ _ _ _); refine lenS_slice rfl fun _ => ?_)
            | ((with_reducible show iaddrS _ _ _ _ _ _ _); refine iaddr_map rfl omA omA ?_)
            | ((with_reducible show doCall _ _ _ 158 _ _); refine call_fc (f_toGroup (hi _ (gt_mem (by omega) (by omega)))) ?_)
            | (((with_reducible show iaddrS _ _ _ _ (.ref _ _ _ _) _ _); refine iaddr_ref rfl (by omega) (by omega) ?_))
            | (((with_reducible show storeE _ _ _ _ _ _ _ _ _); refine storeE_put (sz := 5) (xs := fillZ grpR [.int .i64 0, .int .i64 0, .int .i64 0, .nil, .int .i64 0] xs a) (cells := [.int .i64 0, .int .i64 0, .int .i64 0, .nil, .int .i64 0]) (by simp [hJ]; omega) rfl rfl rfl (fillZ_get hlt) rfl ?_))) <;> simp [-List.map_take, -List.map_drop, -List.map_tail, run_guard, run_guardD, resultsA, resA, Nat.add_assoc, hJ, grpV, grpR])
        | ((first | (with_reducible refine condS_split ?_ ?_)) <;> intro qb <;> (have qp := qb; try simp only [psq] at qp) <;> simp [-List.map_take, -List.map_drop, -List.map_tail, run_guard, run_guardD, resultsA, resA, Nat.add_assoc, hJ, grpV, grpR, qb])
      all_goals first
      | omega
      | (refine hnx.go (a ++ [n' + 13]) (by omega) (by simp [wrap_succ hlt hlim]) (by simp) keepA (by first | omega | (simp; omega)) ?_
         try dsimp only
         refine ⟨by simp, ?_, hS.snoc (fun k hk => ?_) ?_ (by omega) (by omega) (by omega), by omega⟩
         · simpa [grpR] using fillZ_set (f := grpR) (z := [.int .i64 0, .int .i64 0, .int .i64 0, .nil, .int .i64 0]) (xs := xs) (is := a) (by omega) (n' + 13)
         · have := hS.lo k hk
           have := hS.hi k hk
           rw [upd_ne _ _ _ _ (by omega), upd_ne _ _ _ _ (by omega)]
         · simp; omega)
    · try simp [-List.map_take, -List.map_drop, -List.map_tail, run_guard, run_guardD, resultsA, resA, Nat.add_assoc, hJ, hlt]
      repeat'
        first
        | done
        | ((first
            | ((with_reducible show lenS _ _ _ _ _ _); refine lenS_slice rfl fun _ => ?_)
            | ((with_reducible show iaddrS _ _ _ _ _ _ _); refine iaddr_map rfl omA omA ?_)) <;> simp [-List.map_take, -List.map_drop, -List.map_tail, run_guard, run_guardD, resultsA, resA, Nat.add_assoc, hJ, hlt])
        | ((first | (with_reducible refine condS_split ?_ ?_)) <;> intro qb <;> (have qp := qb; try simp only [psq] at qp) <;> simp [-List.map_take, -List.map_drop, -List.map_tail, run_guard, run_guardD, resultsA, resA, Nat.add_assoc, hJ, hlt, qb])
      exact ⟨keepA, a, by rw [fillZ_end (by omega)], by omega, by omega, hS.keep (fun _ _ => rfl) (by omega) (by omega)⟩
-- laws.toSlots
theorem f_toSlots {F : Nat → Bool} {s : Slt} (h1 : s.ages.length ≤ MLIM) (h2 : s.used.length ≤ MLIM) : FC ctx.P 155 [.agg (sltV F s)] (.agg [.ref 0 1 0 s.ages.length, .ref 1 1 0 s.used.length]) [.row 1 (s.ages.map iv), .row 1 (s.used.map bv)] := by
  refine FC.of okC Tryz.func155 rfl rfl (by kernel_rfl) (Nat.le_of_ble_eq_true rfl) ((.one _ (.agg _ fun c hc => by simp at hc; rcases hc with rfl | rfl <;> first | exact .ref _ _ _ _ (by simp) | exact .fz _ (.int _ _)))) ((fun e he => by simp at he; rcases he with rfl | rfl <;> first | exact fz_mapR iv_fz _ | exact fz_mapR bv_fz _ | exact fz_mapR twgC_fz _ | exact fz_mapR tmrC_fz _ | exact fz_mapR afrC_fz _)) fun h nx hnx => ?_
  show goC ctx _ _ (.fin (RetF _ _ _ _ _ _))
  try simp [-List.map_take, -List.map_drop, -List.map_tail, run_guard, run_guardD, resultsA, resA, Nat.add_assoc, sltV]
  repeat'
    first
    | done
    | ((first
        | ((with_reducible show doCall _ _ _ 67 _ _); refine call_fc (f_toInt64S h1) ?_)
        | ((with_reducible show doCall _ _ _ 152 _ _); refine call_fc (f_toBoolS h2) ?_)) <;> simp [-List.map_take, -List.map_drop, -List.map_tail, run_guard, run_guardD, resultsA, resA, Nat.add_assoc, sltV])
  exact finF2 (i := nx + 8) (j := nx + 14) keepA (by omega) (by omega) (by omega) (by simp) (by simp) (by simp)
-- laws.toSpread
theorem f_toSpread {F : Nat → Bool} {s : Spr} (h1 : s.told.length ≤ MLIM) (h2 : s.work.length ≤ MLIM) : FC ctx.P 61 [.agg (sprV F s)] (.agg [.ref 0 1 0 s.told.length, .ref 1 1 0 s.work.length]) [.row 1 (s.told.map bv), .row 1 (s.work.map iv)] := by
  refine FC.of okC Tryz.func61 rfl rfl (by kernel_rfl) (Nat.le_of_ble_eq_true rfl) ((.one _ (.agg _ fun c hc => by simp at hc; rcases hc with rfl | rfl <;> first | exact .ref _ _ _ _ (by simp) | exact .fz _ (.int _ _)))) ((fun e he => by simp at he; rcases he with rfl | rfl <;> first | exact fz_mapR iv_fz _ | exact fz_mapR bv_fz _ | exact fz_mapR twgC_fz _ | exact fz_mapR tmrC_fz _ | exact fz_mapR afrC_fz _)) fun h nx hnx => ?_
  show goC ctx _ _ (.fin (RetF _ _ _ _ _ _))
  try simp [-List.map_take, -List.map_drop, -List.map_tail, run_guard, run_guardD, resultsA, resA, Nat.add_assoc, sprV]
  repeat'
    first
    | done
    | ((first
        | ((with_reducible show doCall _ _ _ 152 _ _); refine call_fc (f_toBoolS h1) ?_)
        | ((with_reducible show doCall _ _ _ 67 _ _); refine call_fc (f_toInt64S h2) ?_)) <;> simp [-List.map_take, -List.map_drop, -List.map_tail, run_guard, run_guardD, resultsA, resA, Nat.add_assoc, sprV])
  exact finF2 (i := nx + 8) (j := nx + 14) keepA (by omega) (by omega) (by omega) (by simp) (by simp) (by simp)
-- laws.toTimers
theorem f_toTimers {F : Nat → Bool} {s : Tms} (h1 : s.heap.length ≤ MLIM) (h2 : s.list.length ≤ MLIM) : FC ctx.P 62 [.agg (tmsV F s)] (.agg [.ref 0 3 0 s.heap.length, .ref 1 5 0 s.list.length, .int .i64 s.next]) [.row 3 (s.heap.map twgC), .row 5 (s.list.map tmrC)] := by
  refine FC.of okC Tryz.func62 rfl rfl (by kernel_rfl) (Nat.le_of_ble_eq_true rfl) ((.one _ (.agg _ fun c hc => by simp at hc; rcases hc with rfl | rfl | rfl <;> first | exact .ref _ _ _ _ (by simp) | exact .fz _ (.int _ _)))) ((fun e he => by simp at he; rcases he with rfl | rfl <;> first | exact fz_mapR iv_fz _ | exact fz_mapR bv_fz _ | exact fz_mapR twgC_fz _ | exact fz_mapR tmrC_fz _ | exact fz_mapR afrC_fz _)) fun h nx hnx => ?_
  show goC ctx _ _ (.fin (RetF _ _ _ _ _ _))
  try simp [-List.map_take, -List.map_drop, -List.map_tail, run_guard, run_guardD, resultsA, resA, Nat.add_assoc, tmsV]
  repeat'
    first
    | done
    | ((first
        | ((with_reducible show doCall _ _ _ 153 _ _); refine call_fc (f_toTwigS h1) ?_)
        | ((with_reducible show doCall _ _ _ 154 _ _); refine call_fc (f_toTimerS h2) ?_)) <;> simp [-List.map_take, -List.map_drop, -List.map_tail, run_guard, run_guardD, resultsA, resA, Nat.add_assoc, tmsV])
  exact finF2 (i := nx + 8) (j := nx + 14) keepA (by omega) (by omega) (by omega) (by simp) (by simp) (by simp)
-- laws.toAfters
theorem f_toAfters {F : Nat → Bool} {s : Afs} (h1 : s.slots.ages.length ≤ MLIM) (h2 : s.slots.used.length ≤ MLIM) (h3 : s.list.length ≤ MLIM) : FC ctx.P 63 [.agg (afsV F s)] (.agg [.ref 0 1 0 s.slots.ages.length, .ref 1 1 0 s.slots.used.length, .ref 2 5 0 s.list.length]) [.row 1 (s.slots.ages.map iv), .row 1 (s.slots.used.map bv), .row 5 (s.list.map afrC)] := by
  refine FC.of okC Tryz.func63 rfl rfl (by kernel_rfl) (Nat.le_of_ble_eq_true rfl) ((.one _ (.agg _ fun c hc => by simp at hc; rcases hc with rfl | rfl | rfl <;> first | exact .ref _ _ _ _ (by simp) | exact .fz _ (.int _ _)))) ((fun e he => by simp at he; rcases he with rfl | rfl | rfl <;> first | exact fz_mapR iv_fz _ | exact fz_mapR bv_fz _ | exact fz_mapR twgC_fz _ | exact fz_mapR tmrC_fz _ | exact fz_mapR afrC_fz _)) fun h nx hnx => ?_
  show goC ctx _ _ (.fin (RetF _ _ _ _ _ _))
  try simp [-List.map_take, -List.map_drop, -List.map_tail, run_guard, run_guardD, resultsA, resA, Nat.add_assoc, afsV, sltV]
  repeat'
    first
    | done
    | ((first
        | ((with_reducible show doCall _ _ _ 155 _ _); refine call_fc (f_toSlots (s := s.slots) (F := F) h1 h2) ?_)
        | ((with_reducible show doCall _ _ _ 156 _ _); refine call_fc (f_toAfterS h3) ?_)) <;> simp [-List.map_take, -List.map_drop, -List.map_tail, run_guard, run_guardD, resultsA, resA, Nat.add_assoc, afsV, sltV])
  exact finF3 (i := nx + 8) (j := nx + 9) (l := nx + 15) keepA (by omega) (by omega) (by omega) (by omega) (by omega) (by omega) (by simp) (by simp) (by simp) (by simp)
end Go.AE.Tryz
end

section
/- Contracts of the laws' copies of worlds as new rows. -/
set_option linter.unusedSimpArgs false
set_option linter.unusedVariables false
set_option maxRecDepth 8000
set_option maxHeartbeats 2000000
namespace Go.AE.Tryz
open Go.Proofs
-- laws.toWorld
theorem w_toWorld {F : Nat → Bool} {s : Wld} (hs : wldsz s ≤ 1048576) : AC ctx.P 17 [.agg (wldV F s)] (fun _ _ => True)
    (fun h nx v h' nx' => KeepB nx h' h ∧ ∃ X, v = .agg (wldR X s) ∧ WV h' X s ∧ ∀ id ∈ X.ids, nx ≤ id ∧ id < nx') := by
  simp only [wldsz, afssz, tmssz, sprsz, sltsz] at hs
  have hm : MLIM = 1099511627776 := rfl
  refine AC.of okC Tryz.func17 rfl rfl (by kernel_rfl) (Nat.le_of_ble_eq_true rfl) fun h nx hfr hnx hpre => ?_
  show goC ctx _ _ (.fin (RetQ _ _ _))
  try simp [-List.map_take, -List.map_drop, -List.map_tail, run_guard, run_guardD, resultsA, resA, Nat.add_assoc, wldV]
  refine call_ac (w_toInsSS (by omega) (fun x hx => by have := lsum_mem (·.length) hx; omega)) trivial ?_
  rintro r h1 n1 ⟨hK1, ip, isp, rfl, hrow1, hlen1, hlo1, hhi1, hS1⟩ hle1 hfr1
  dsimp only at hK1 hlo1 hle1
  have g0 := hK1 nx (by omega)
  have g1 := hK1 (nx + 1) (by omega)
  have g2 := hK1 (nx + 2) (by omega)
  simp at g0 g1 g2
  have k0 : ∀ k, (nx = n1 + k) = False := fun k => by simp only [eq_iff_iff, iff_false]; omega
  have k2 : ∀ k, (nx + 2 = n1 + k) = False := fun k => by simp only [eq_iff_iff, iff_false]; omega
  have k1 : ∀ k, (nx + 1 = n1 + k) = False := fun k => by simp only [eq_iff_iff, iff_false]; omega
  have k5 : (nx + 1 = n1) = False := by simp only [eq_iff_iff, iff_false]; omega
  have k3 : (nx = n1) = False := by simp only [eq_iff_iff, iff_false]; omega
  have k4 : (nx + 2 = n1) = False := by simp only [eq_iff_iff, iff_false]; omega

  try simp [-List.map_take, -List.map_drop, -List.map_tail, run_guard, run_guardD, resultsA, resA, Nat.add_assoc, wldV, g0, g2, k0, k2, k3, k4]
  repeat'
    first
    | done
    | ((first
        | ((with_reducible show doCall _ _ _ 59 _ _); refine call_fc (f_toNodeS (by omega)) ?_)
        | ((with_reducible show doCall _ _ _ 60 _ _); refine call_fc (f_toEventS (by omega)) ?_)
        | ((with_reducible show doCall _ _ _ 61 _ _); refine call_fc (f_toSpread (s := s.spread) (F := F) (by omega) (by omega)) ?_)
        | ((with_reducible show doCall _ _ _ 62 _ _); refine call_fc (f_toTimers (s := s.timers) (F := F) (by omega) (by omega)) ?_)
        | ((with_reducible show doCall _ _ _ 63 _ _); refine call_fc (f_toAfters (s := s.afters) (F := F) (by omega) (by omega) (by omega)) ?_)
        | ((with_reducible show doCall _ _ _ 64 _ _); refine call_fc (f_toTaskS (by omega)) ?_)) <;> simp [-List.map_take, -List.map_drop, -List.map_tail, run_guard, run_guardD, resultsA, resA, Nat.add_assoc, wldV, g0, g2, k0, k2, k3, k4])
  refine call_ac (w_toGroupS (by omega) (fun x hx => by have := lsum_mem (·.waits.length) hx; omega)) trivial ?_
  rintro r h2 n2 ⟨hK2, ig, isg, rfl, hrow2, hlen2, hlo2, hhi2, hS2⟩ hle2 hfr2
  dsimp only at hK2 hlo2 hle2
  have m0 := hK2 nx (by omega)
  have m1 := hK2 (nx + 1) (by omega)
  have m2 := hK2 (nx + 2) (by omega)
  simp [k0, k2, k3, k4, g0, g1, k1, k5] at m0 m1 m2
  have j0 : ∀ k, (nx = n2 + k) = False := fun k => by simp only [eq_iff_iff, iff_false]; omega
  have j2 : ∀ k, (nx + 2 = n2 + k) = False := fun k => by simp only [eq_iff_iff, iff_false]; omega
  have j1 : ∀ k, (nx + 1 = n2 + k) = False := fun k => by simp only [eq_iff_iff, iff_false]; omega
  have j5 : (nx + 1 = n2) = False := by simp only [eq_iff_iff, iff_false]; omega
  have j3 : (nx = n2) = False := by simp only [eq_iff_iff, iff_false]; omega
  have j4 : (nx + 2 = n2) = False := by simp only [eq_iff_iff, iff_false]; omega
  try simp [-List.map_take, -List.map_drop, -List.map_tail, run_guard, run_guardD, resultsA, resA, Nat.add_assoc, wldV, m0, m1, m2, j0, j1, j2, j3, j4, j5]
  repeat'
    first
    | done
    | ((first
        | ((with_reducible show doCall _ _ _ 66 _ _); refine call_fc (f_toSightS (by omega)) ?_)
        | ((with_reducible show doCall _ _ _ 67 _ _); refine call_fc (f_toInt64S (by omega)) ?_)) <;> simp [-List.map_take, -List.map_drop, -List.map_tail, run_guard, run_guardD, resultsA, resA, Nat.add_assoc, wldV, m0, m1, m2, j0, j1, j2, j3, j4, j5])
  have hE : KeepB nx h1 h := KeepB.sub hK1 keepA (by omega)
  have hK : KeepB nx h2 h := KeepB.sub hK2 keepA (by omega)
  have up : ∀ i, ip ≤ i → i < n1 → h2 i = h1 i := fun i _ _ => by
    rw [hK2 i (by omega)]
    repeat rw [upd_ne _ _ _ _ (by omega)]
  have q0 := up ip (by omega) hhi1
  rw [hrow1] at q0
  have q1 := hK2 (n1 + 5) (by omega)
  have q2 := hK2 (n1 + 11) (by omega)
  have q3 := hK2 (n1 + 17) (by omega)
  have q4 := hK2 (n1 + 18) (by omega)
  have q5 := hK2 (n1 + 24) (by omega)
  have q6 := hK2 (n1 + 25) (by omega)
  have q7 := hK2 (n1 + 31) (by omega)
  have q8 := hK2 (n1 + 32) (by omega)
  have q9 := hK2 (n1 + 33) (by omega)
  have q10 := hK2 (n1 + 39) (by omega)
  have l0 : ∀ k, (n1 + k = nx) = False := fun k => by simp only [eq_iff_iff, iff_false]; omega
  have l2 : ∀ k, (n1 + k = nx + 2) = False := fun k => by simp only [eq_iff_iff, iff_false]; omega
  simp [l0, l2] at q1 q2 q3 q4 q5 q6 q7 q8 q9 q10
  refine ⟨keepA, WI.ofL [ip, n1 + 5, n1 + 11, n1 + 17, n1 + 18, n1 + 24, n1 + 25, n1 + 31, n1 + 32, n1 + 33, n1 + 39, ig, n2 + 5, n2 + 11, n2 + 17] isp isg, rfl, WV.ofL (a := ip + 1) (b := n1) (c := ig + 1) (d := n2) ?_ ?_ ?_ ?_ ?_ ?_ ?_ ?_ ?_ ?_ ?_ ?_ ?_ ?_ ?_ hlen1 hlen2 ?_ ?_ (by omega) ?_ ?_, ?_⟩
  · repeat rw [upd_ne _ _ _ _ (by omega)]
    exact q0
  · repeat rw [upd_ne _ _ _ _ (by omega)]
    exact q1
  · repeat rw [upd_ne _ _ _ _ (by omega)]
    exact q2
  · repeat rw [upd_ne _ _ _ _ (by omega)]
    exact q3
  · repeat rw [upd_ne _ _ _ _ (by omega)]
    exact q4
  · repeat rw [upd_ne _ _ _ _ (by omega)]
    exact q5
  · repeat rw [upd_ne _ _ _ _ (by omega)]
    exact q6
  · repeat rw [upd_ne _ _ _ _ (by omega)]
    exact q7
  · repeat rw [upd_ne _ _ _ _ (by omega)]
    exact q8
  · repeat rw [upd_ne _ _ _ _ (by omega)]
    exact q9
  · repeat rw [upd_ne _ _ _ _ (by omega)]
    exact q10
  · repeat rw [upd_ne _ _ _ _ (by omega)]
    exact hrow2
  · repeat rw [upd_ne _ _ _ _ (by omega)]
    rw [upd_same]
  · repeat rw [upd_ne _ _ _ _ (by omega)]
    rw [upd_same]
  · repeat rw [upd_ne _ _ _ _ (by omega)]
    rw [upd_same]
  · refine hS1.keep (fun i hi => ?_) (Nat.le_refl _) (Nat.le_refl _)
    have := hS1.lo i hi
    have := hS1.hi i hi
    repeat rw [upd_ne _ _ _ _ (by omega)]
    exact up i (by omega) (by omega)
  · refine hS2.keep (fun i hi => ?_) (Nat.le_refl _) (Nat.le_refl _)
    have := hS2.lo i hi
    have := hS2.hi i hi
    repeat rw [upd_ne _ _ _ _ (by omega)]
  · simp only [List.nodup_cons, List.mem_cons, List.not_mem_nil, or_false, not_or, List.nodup_nil, and_true, not_false_eq_true]
    omega
  · intro t ht
    simp only [List.mem_cons, List.not_mem_nil, or_false] at ht
    omega
  · intro id hid
    rw [WI.ofL_ids] at hid
    rcases List.mem_append.1 hid with hid | hid
    · simp only [List.mem_cons, List.not_mem_nil, or_false] at hid
      omega
    · rcases List.mem_append.1 hid with hid | hid
      · have := hS1.lo id hid
        have := hS1.hi id hid
        omega
      · have := hS2.lo id hid
        have := hS2.hi id hid
        omega
end Go.AE.Tryz
end
