/- Contracts of the seat's functions: what each answers, for all arguments. -/
import Derived.Test.YthgdlmhlijnefaaGreatB3
import Derived.Test.YthgdlmhlijnefaaGreatA2
import Derived.Test.YthgdlmhlijnefaaGreatB2
import Derived.Test.YthgdlmhlijnefaaGreatA3
import Derived.Test.YthgdlmhlijnefaaGreatB1
section
/- Contracts of the program's readers: heaps, timers, trees. -/
set_option linter.unusedSimpArgs false
set_option linter.unusedVariables false
set_option maxRecDepth 8000
set_option maxHeartbeats 2000000
namespace Go.AE.Tryz
open Go.Proofs

-- (impl.Twig).compare
theorem c_compare {a b : Twg} : PC ctx.P 372 [.agg (twgC a), .agg (twgC b)] (.int .i64 (twgCmp a b)) := by
  refine PC.of okC Tryz.func372 rfl rfl (by kernel_rfl) (Nat.le_of_ble_eq_true rfl) (.int _ _) fun h nx hnx => ?_
  show goC ctx _ _ (.fin (RetP _ _ _ _ _))
  try simp [-List.map_take, -List.map_drop, -List.map_tail, run_guard, run_guardD, resultsA, resA, Nat.add_assoc, twgC]
  repeat'
    first
    | done
    | ((first
        | ((with_reducible show doCall _ _ _ 383 _ _); refine call_pc (c_Compare) ?_)
        | ((with_reducible show doCall _ _ _ 382 _ _); refine call_pcB (c_Or (p := false) (xs := [cmp2 a.due b.due, cmp2 a.seq b.seq])) (by first | exact .bool _ | exact .int _ _ | exact .str _) (by repeat' first | exact Bors.nil | refine Bors.cons ?_ ?_ | exact Bor.same _ | refine Bor.fn1 ?_ | refine Bor.bnd1 ?_ | refine Bor.agg1 ?_ | refine Bor.ptr0 (by first | (simp; done) | (simp; rfl) | assumption | (simp [*]; done)) ?_ | refine Bor.ref0 (by first | (simp; done) | (simp; rfl) | (simp [iv, bv]; done)) (by simp) (by simp)) ?_)
        | (with_reducible refine go_draw (i := 1) [(0, [], []), (1, [], []), (2, [], []), (3, [], []), (5, [], []), (6, [], []), (7, [], []), (8, [], []), (4, [.tmp 10, .tmp 12], []), (9, [], []), (10, [], []), (11, [], []), (12, [], [])] (by kernel_rfl) ?_)) <;> simp [-List.map_take, -List.map_drop, -List.map_tail, run_guard, run_guardD, resultsA, resA, Nat.add_assoc, twgC])
  all_goals (try clear hnx)
  all_goals first | (simp_all [twgCmp]; done) | (simp_all [twgCmp]; omega) | (rw [Bool.eq_iff_iff]; simp_all [twgCmp]; done) | (rw [Bool.eq_iff_iff]; simp_all [twgCmp]; omega) | omega | (simp only [twgCmp]; grind) | grind
-- impl.parts
theorem c_parts {p : Bool} {l : List Twg} (hp : 0 < l.length) (h0 : 0 ≤ (gt l 0).lefts) (h1 : (gt l 0).lefts < l.length) :
    PC ctx.P 370 [.view p 3 (l.map twgC)] (.tup [.view p 3 ((l.tail.take (gt l 0).lefts.toNat).map twgC), .view p 3 ((l.drop ((gt l 0).lefts.toNat + 1)).map twgC)]) := by
  refine PC.lim (n := l.length) (x := .view p 3 (l.map twgC)) (by simp) (.here (by simp)) ⟨_, Tryz.func370, by kernel_rfl, by kernel_rfl⟩ fun hlim => ?_
  simp only [LIM] at hlim
  have q1 : (1 + (gt l 0).lefts).toNat = (gt l 0).lefts.toNat + 1 := by omega
  refine PC.of okC Tryz.func370 rfl rfl (by kernel_rfl) (Nat.le_of_ble_eq_true rfl) (.tup _ (by simp [-List.map_take, -List.map_drop]; exact ⟨.vmap twgC_fz, .vmap twgC_fz⟩)) fun h nx hnx => ?_
  show goC ctx _ _ (.fin (RetP _ _ _ _ _))
  try simp [-List.map_take, -List.map_drop, -List.map_tail, run_guard, run_guardD, resultsA, resA, Nat.add_assoc, twgC, i64_ok (x := 1 + (gt l 0).lefts) (by omega), q1]
  repeat'
    first
    | done
    | ((first
        | ((with_reducible show iaddrS _ _ _ _ _ _ _); refine iaddr_map rfl omA omA ?_)
        | ((with_reducible show sliceS _ _ _ _ _ _ _ _); refine slice_to rfl omA omA ?_)
        | ((with_reducible show sliceS _ _ _ _ _ _ _ _); refine slice_from rfl omA omA ?_)
        | ((with_reducible show sliceS _ _ _ _ _ _ _ _); refine slice_mid rfl omA omA omA ?_)
        | ((with_reducible show sliceI _ _ _ _ _ _ _ _ _ _ _); refine sliceI_to rfl omA omA ?_)
        | ((with_reducible show sliceI _ _ _ _ _ _ _ _ _ _ _); refine sliceI_from rfl omA omA ?_)
        | ((with_reducible show sliceI _ _ _ _ _ _ _ _ _ _ _); refine sliceI_mid rfl omA omA omA ?_)
        | (with_reducible refine go_draw (i := 2) [(0, [], []), (1, [], []), (2, [], []), (3, [], []), (4, [], []), (5, [], []), (6, [], []), (7, [], [])] (by kernel_rfl) ?_)) <;> simp [-List.map_take, -List.map_drop, -List.map_tail, run_guard, run_guardD, resultsA, resA, Nat.add_assoc, twgC, i64_ok (x := 1 + (gt l 0).lefts) (by omega), q1])
-- impl.seqAt$1
theorem c_seqAt1 {x : Twg} {s : Int} : PC ctx.P 375 [.agg (twgC x), .vptr [.int .i64 s]] (.bool (x.seq == s)) := by
  refine PC.of okC Tryz.func375 rfl rfl (by kernel_rfl) (Nat.le_of_ble_eq_true rfl) (.bool _) fun h nx hnx => ?_
  show goC ctx _ _ (.fin (RetP _ _ _ _ _))
  try simp [-List.map_take, -List.map_drop, -List.map_tail, run_guard, run_guardD, resultsA, resA, Nat.add_assoc, twgC]
-- impl.seqAt
theorem c_seqAt {p : Bool} {h : List Twg} {s : Int} : PC ctx.P 344 [.view p 3 (h.map twgC), .int .i64 s] (.int .i64 (seqAt h s)) := by
  refine PC.of okC Tryz.func344 rfl rfl (by kernel_rfl) (Nat.le_of_ble_eq_true rfl) (.int _ _) fun h nx hnx => ?_
  show goC ctx _ _ (.fin (RetP _ _ _ _ _))
  try simp [-List.map_take, -List.map_drop, -List.map_tail, run_guard, run_guardD, resultsA, resA, Nat.add_assoc, seqAt]
  repeat'
    first
    | done
    | ((first
        | ((with_reducible show doCall _ _ _ 346 _ _); refine call_pcB (c_IndexFunc_Twig (q := fun x => x.seq == s) (fv := .fn 375 [.vptr [.int .i64 s]]) (fun x _ => c_seqAt1)) (by first | exact .bool _ | exact .int _ _ | exact .str _) (by repeat' first | exact Bors.nil | refine Bors.cons ?_ ?_ | exact Bor.same _ | refine Bor.fn1 ?_ | refine Bor.bnd1 ?_ | refine Bor.agg1 ?_ | refine Bor.ptr0 (by first | (simp; done) | (simp; rfl) | assumption | (simp [*]; done)) ?_ | refine Bor.ref0 (by first | (simp; done) | (simp; rfl) | (simp [iv, bv]; done)) (by simp) (by simp)) ?_)) <;> simp [-List.map_take, -List.map_drop, -List.map_tail, run_guard, run_guardD, resultsA, resA, Nat.add_assoc, seqAt])
-- (impl.Timers).at$1
theorem c_tmsAt1 {x : Tmr} {s : Int} : PC ctx.P 329 [.agg (tmrC x), .vptr [.int .i64 s]] (.bool (x.seq == s)) := by
  refine PC.of okC Tryz.func329 rfl rfl (by kernel_rfl) (Nat.le_of_ble_eq_true rfl) (.bool _) fun h nx hnx => ?_
  show goC ctx _ _ (.fin (RetP _ _ _ _ _))
  try simp [-List.map_take, -List.map_drop, -List.map_tail, run_guard, run_guardD, resultsA, resA, Nat.add_assoc, tmrC]
-- (impl.Timers).at
theorem c_tmsAt {F : Nat → Bool} {t : Tms} {s : Int} : PC ctx.P 237 [.agg (tmsV F t), .int .i64 s] (.int .i64 (tmsAt t.list s)) := by
  refine PC.of okC Tryz.func237 rfl rfl (by kernel_rfl) (Nat.le_of_ble_eq_true rfl) (.int _ _) fun h nx hnx => ?_
  show goC ctx _ _ (.fin (RetP _ _ _ _ _))
  try simp [-List.map_take, -List.map_drop, -List.map_tail, run_guard, run_guardD, resultsA, resA, Nat.add_assoc, tmsV, tmsAt]
  repeat'
    first
    | done
    | ((first
        | ((with_reducible show doCall _ _ _ 328 _ _); refine call_pcB (c_IndexFunc_Timer (q := fun x => x.seq == s) (fv := .fn 329 [.vptr [.int .i64 s]]) (fun x _ => c_tmsAt1)) (by first | exact .bool _ | exact .int _ _ | exact .str _) (by repeat' first | exact Bors.nil | refine Bors.cons ?_ ?_ | exact Bor.same _ | refine Bor.fn1 ?_ | refine Bor.bnd1 ?_ | refine Bor.agg1 ?_ | refine Bor.ptr0 (by first | (simp; done) | (simp; rfl) | assumption | (simp [*]; done)) ?_ | refine Bor.ref0 (by first | (simp; done) | (simp; rfl) | (simp [iv, bv]; done)) (by simp) (by simp)) ?_)) <;> simp [-List.map_take, -List.map_drop, -List.map_tail, run_guard, run_guardD, resultsA, resA, Nat.add_assoc, tmsV, tmsAt])
-- impl.TimersOk$1
theorem c_TimersOk1 {F : Nat → Bool} {t : Tms} {x : Twg} : PC ctx.P 272 [.agg (twgC x), .vptr (tmsV F t)] (.bool (decide (tmsAt t.list x.seq < 0) || (!(gt t.list (tmsAt t.list x.seq)).armed || (gt t.list (tmsAt t.list x.seq)).due != x.due))) := by
  have hat := tmsAt_lt t.list x.seq
  refine PC.of okC Tryz.func272 rfl rfl (by kernel_rfl) (Nat.le_of_ble_eq_true rfl) (.bool _) fun h nx hnx => ?_
  show goC ctx _ _ (.fin (RetP _ _ _ _ _))
  try simp [-List.map_take, -List.map_drop, -List.map_tail, run_guard, run_guardD, resultsA, resA, Nat.add_assoc, twgC, tmsV, tmrC]
  repeat'
    first
    | done
    | ((first
        | ((with_reducible show iaddrS _ _ _ _ _ _ _); refine iaddr_map rfl omA omA ?_)
        | ((with_reducible show doCall _ _ _ 237 _ _); refine call_pc (c_tmsAt (F := F) (t := t)) ?_)
        | (with_reducible refine go_draw (i := 2) [(0, [], []), (1, [], []), (2, [], []), (3, [], []), (4, [], []), (5, [], []), (6, [], []), (7, [], []), (8, [], []), (9, [], []), (10, [], []), (11, [], []), (12, [], []), (13, [], []), (14, [], []), (15, [], []), (16, [], []), (17, [], []), (18, [], []), (19, [], []), (20, [], []), (21, [], []), (22, [], [])] (by kernel_rfl) ?_)) <;> simp [-List.map_take, -List.map_drop, -List.map_tail, run_guard, run_guardD, resultsA, resA, Nat.add_assoc, twgC, tmsV, tmrC])
    | ((first | (with_reducible refine guardD_split ?_ ?_)) <;> intro qb <;> (have qp := qb; try simp only [psq] at qp) <;> simp [-List.map_take, -List.map_drop, -List.map_tail, run_guard, run_guardD, resultsA, resA, Nat.add_assoc, twgC, tmsV, tmrC, qb])

-- impl.rank
theorem c_rank {p : Bool} {h0 : List Twg} {r : Nat} (hr : rk h0 = some r) : PC ctx.P 377 [.view p 3 (h0.map twgC)] (.int .i64 r) := by
  refine PC.lim (n := h0.length) (x := .view p 3 (h0.map twgC)) (by simp) (.here (by simp)) ⟨_, Tryz.func377, by kernel_rfl, by kernel_rfl⟩ fun hlim => ?_
  have hrl := rk_le hr
  simp only [LIM] at hlim
  refine PC.of okC Tryz.func377 rfl rfl (by kernel_rfl) (Nat.le_of_ble_eq_true rfl) (.int _ _) fun h nx hnx => ?_
  show goC ctx _ _ (.fin (RetP _ _ _ _ _))
  try simp [-List.map_take, -List.map_drop, -List.map_tail, run_guard, run_guardD, resultsA, resA, Nat.add_assoc]
  repeat'
    first
    | done
    | ((first
        | ((with_reducible show lenS _ _ _ _ _ _); refine lenS_slice rfl fun _ => ?_)) <;> simp [-List.map_take, -List.map_drop, -List.map_tail, run_guard, run_guardD, resultsA, resA, Nat.add_assoc])
    | ((first | (with_reducible refine condS_split ?_ ?_)) <;> intro qb <;> (have qp := qb; try simp only [psq] at qp) <;> simp [-List.map_take, -List.map_drop, -List.map_tail, run_guard, run_guardD, resultsA, resA, Nat.add_assoc, qb])
  refine go_dnP [0, 3, 4, 5, 6, 7, 8, 9, 10, 11, 12, 13] (fun a => [(0, .view p 3 (a.1.map twgC)), (3, .int .i64 a.2)]) (fun a => a.1.length) (fun a_ h_ _ => (fun (a : List Twg × Int) _ => ∃ k : Nat, rk a.1 = some k ∧ a.2 + k = r ∧ 0 ≤ a.2) a_ h_) ((h0, 0)) (by simp) ?_ keep_rfl (Nat.le_refl _) ?_
  · exact ⟨r, hr, by simp, by simp⟩
  · intro a tm h' n' hJ hE hn' next hnx
    try dsimp only at hJ
    have hK : KeepB nx h' h := KeepB.sub hE keepA (by omega)
    obtain ⟨l, n⟩ := a
    obtain ⟨k, hk, hn, h0⟩ := hJ
    dsimp only at hk hn h0 ⊢
    rcases rk_cases hk with ⟨rfl, rfl⟩ | ⟨hp, hx0, hx1, b, hb, rfl⟩
    · try simp [-List.map_take, -List.map_drop, -List.map_tail, run_guard, run_guardD, resultsA, resA, Nat.add_assoc]
      repeat'
        first
        | done
        | ((first
            | ((with_reducible show lenS _ _ _ _ _ _); refine lenS_slice rfl fun _ => ?_)) <;> simp [-List.map_take, -List.map_drop, -List.map_tail, run_guard, run_guardD, resultsA, resA, Nat.add_assoc])
        | ((first | (with_reducible refine condS_split ?_ ?_)) <;> intro qb <;> (have qp := qb; try simp only [psq] at qp) <;> simp [-List.map_take, -List.map_drop, -List.map_tail, run_guard, run_guardD, resultsA, resA, Nat.add_assoc, qb])
      all_goals (first | exact ⟨by simpa using hn, hK⟩ | (simp at *; omega))
    · simp at hn h0
      try simp [-List.map_take, -List.map_drop, -List.map_tail, run_guard, run_guardD, resultsA, resA, Nat.add_assoc]
      repeat'
        first
        | done
        | ((first
            | ((with_reducible show lenS _ _ _ _ _ _); refine lenS_slice rfl fun _ => ?_)
            | ((with_reducible show doCall _ _ _ 370 _ _); refine call_pc (c_parts hp hx0 hx1) ?_)) <;> simp [-List.map_take, -List.map_drop, -List.map_tail, run_guard, run_guardD, resultsA, resA, Nat.add_assoc])
        | ((first | (with_reducible refine condS_split ?_ ?_)) <;> intro qb <;> (have qp := qb; try simp only [psq] at qp) <;> simp [-List.map_take, -List.map_drop, -List.map_tail, run_guard, run_guardD, resultsA, resA, Nat.add_assoc, qb])
      · refine hnx.go (l.drop ((gt l 0).lefts.toNat + 1), n + 1) (by simp; omega) (by simp [i64_ok (x := n + 1) (by omega)]) (by simp) keepA (by first | omega | (simp; omega)) ⟨b, hb, by simp; omega, by simp; omega⟩
      · omega
-- impl.isHeap
theorem c_isHeapN {p : Bool} : ∀ (n : Nat) (l : List Twg), l.length ≤ n → PC ctx.P 345 [.view p 3 (l.map twgC)] (.bool (rk l).isSome) := by
  intro n
  induction n with
  | zero =>
    intro l hl
    obtain rfl : l = [] := by simpa using hl
    refine PC.of okC Tryz.func345 rfl rfl (by kernel_rfl) (Nat.le_of_ble_eq_true rfl) (.bool _) fun h nx hnx => ?_
    show goC ctx _ _ (.fin (RetP _ _ _ _ _))
    try simp [-List.map_take, -List.map_drop, -List.map_tail, run_guard, run_guardD, resultsA, resA, Nat.add_assoc, rk_nil]
    repeat'
      first
      | done
      | ((first
          | ((with_reducible show lenS _ _ _ _ _ _); refine lenS_slice rfl fun _ => ?_)
          | ((with_reducible show iaddrS _ _ _ _ _ _ _); refine iaddr_map rfl omA omA ?_)
          | (with_reducible refine go_draw (i := 3) [(0, [], []), (1, [], []), (2, [], []), (3, [], []), (4, [], []), (5, [.tmp 10], []), (6, [], []), (7, [], []), (8, [], [])] (by kernel_rfl) ?_)
          | (with_reducible refine go_draw (i := 8) [(0, [], []), (1, [], []), (2, [], []), (3, [], []), (4, [], []), (5, [], []), (6, [], []), (7, [], []), (8, [], []), (9, [], []), (10, [], []), (11, [], []), (12, [], []), (13, [], []), (14, [], []), (15, [], []), (16, [], []), (17, [], []), (18, [], []), (19, [], []), (20, [], []), (21, [], []), (22, [], []), (23, [], []), (24, [], []), (25, [], []), (26, [], []), (27, [], []), (28, [], [])] (by kernel_rfl) ?_)) <;> simp [-List.map_take, -List.map_drop, -List.map_tail, run_guard, run_guardD, resultsA, resA, Nat.add_assoc, rk_nil])
      | ((first | (with_reducible refine guardD_split ?_ ?_) | (with_reducible refine guardS_split ?_ ?_) | (with_reducible refine condS_split ?_ ?_)) <;> intro qb <;> (have qp := qb; try simp only [psq] at qp) <;> simp [-List.map_take, -List.map_drop, -List.map_tail, run_guard, run_guardD, resultsA, resA, Nat.add_assoc, rk_nil, qb])
  | succ n ih =>
    intro l hl
    refine PC.lim (n := l.length) (x := .view p 3 (l.map twgC)) (by simp) (.here (by simp)) ⟨_, Tryz.func345, by kernel_rfl, by kernel_rfl⟩ fun hlim => ?_
    simp only [LIM] at hlim
    by_cases hp : 0 < l.length
    · have i1 := ih (l.tail.take (gt l 0).lefts.toNat) (by simp; omega)
      have i2 := ih (l.drop ((gt l 0).lefts.toNat + 1)) (by simp; omega)
      rw [rk_tail hp]
      cases ha : rk (l.tail.take (gt l 0).lefts.toNat) with
      | none =>
        rw [ha] at i1
        refine PC.of okC Tryz.func345 rfl rfl (by kernel_rfl) (Nat.le_of_ble_eq_true rfl) (.bool _) fun h nx hnx => ?_
        show goC ctx _ _ (.fin (RetP _ _ _ _ _))
        try simp [-List.map_take, -List.map_drop, -List.map_tail, run_guard, run_guardD, resultsA, resA, Nat.add_assoc, twgC, i64_ok (x := (l.length : Int) - 1) (by omega)]
        repeat'
          first
          | done
          | ((first
              | ((with_reducible show lenS _ _ _ _ _ _); refine lenS_slice rfl fun _ => ?_)
              | ((with_reducible show iaddrS _ _ _ _ _ _ _); refine iaddr_map rfl omA omA ?_)
              | ((with_reducible show doCall _ _ _ 376 _ _); refine call_pc (c_size_Twig) ?_)
              | ((with_reducible show doCall _ _ _ 165 _ _); refine call_pc (c_within) ?_)
              | ((with_reducible show doCall _ _ _ 370 _ _); refine call_pc (c_parts hp (by omega) (by omega)) ?_)
              | (refine call_pc (i1) ?_)
              | (refine call_pc (i2) ?_)
              | (with_reducible refine go_draw (i := 3) [(0, [], []), (1, [], []), (2, [], []), (3, [], []), (4, [], []), (5, [.tmp 10], []), (6, [], []), (7, [], []), (8, [], [])] (by kernel_rfl) ?_)
              | (with_reducible refine go_draw (i := 8) [(0, [], []), (1, [], []), (2, [], []), (3, [], []), (4, [], []), (5, [], []), (6, [], []), (7, [], []), (8, [], []), (9, [], []), (10, [], []), (11, [], []), (12, [], []), (13, [], []), (14, [], []), (15, [], []), (16, [], []), (17, [], []), (18, [], []), (19, [], []), (20, [], []), (21, [], []), (22, [], []), (23, [], []), (24, [], []), (25, [], []), (26, [], []), (27, [], []), (28, [], [])] (by kernel_rfl) ?_)) <;> simp [-List.map_take, -List.map_drop, -List.map_tail, run_guard, run_guardD, resultsA, resA, Nat.add_assoc, twgC, i64_ok (x := (l.length : Int) - 1) (by omega)])
          | ((first | (with_reducible refine guardD_split ?_ ?_) | (with_reducible refine guardS_split ?_ ?_) | (with_reducible refine condS_split ?_ ?_)) <;> intro qb <;> (have qp := qb; try simp only [psq] at qp) <;> simp [-List.map_take, -List.map_drop, -List.map_tail, run_guard, run_guardD, resultsA, resA, Nat.add_assoc, twgC, i64_ok (x := (l.length : Int) - 1) (by omega), qb])
        all_goals (clear ih i1 i2 hnx; simp_all)
      | some a =>
        rw [ha] at i1
        cases hb : rk (l.drop ((gt l 0).lefts.toNat + 1)) with
        | none =>
          rw [hb] at i2
          refine PC.of okC Tryz.func345 rfl rfl (by kernel_rfl) (Nat.le_of_ble_eq_true rfl) (.bool _) fun h nx hnx => ?_
          show goC ctx _ _ (.fin (RetP _ _ _ _ _))
          try simp [-List.map_take, -List.map_drop, -List.map_tail, run_guard, run_guardD, resultsA, resA, Nat.add_assoc, twgC, i64_ok (x := (l.length : Int) - 1) (by omega)]
          repeat'
            first
            | done
            | ((first
                | ((with_reducible show lenS _ _ _ _ _ _); refine lenS_slice rfl fun _ => ?_)
                | ((with_reducible show iaddrS _ _ _ _ _ _ _); refine iaddr_map rfl omA omA ?_)
                | ((with_reducible show doCall _ _ _ 376 _ _); refine call_pc (c_size_Twig) ?_)
                | ((with_reducible show doCall _ _ _ 165 _ _); refine call_pc (c_within) ?_)
                | ((with_reducible show doCall _ _ _ 370 _ _); refine call_pc (c_parts hp (by omega) (by omega)) ?_)
                | (refine call_pc (i1) ?_)
                | (refine call_pc (i2) ?_)
                | (with_reducible refine go_draw (i := 3) [(0, [], []), (1, [], []), (2, [], []), (3, [], []), (4, [], []), (5, [.tmp 10], []), (6, [], []), (7, [], []), (8, [], [])] (by kernel_rfl) ?_)
                | (with_reducible refine go_draw (i := 8) [(0, [], []), (1, [], []), (2, [], []), (3, [], []), (4, [], []), (5, [], []), (6, [], []), (7, [], []), (8, [], []), (9, [], []), (10, [], []), (11, [], []), (12, [], []), (13, [], []), (14, [], []), (15, [], []), (16, [], []), (17, [], []), (18, [], []), (19, [], []), (20, [], []), (21, [], []), (22, [], []), (23, [], []), (24, [], []), (25, [], []), (26, [], []), (27, [], []), (28, [], [])] (by kernel_rfl) ?_)) <;> simp [-List.map_take, -List.map_drop, -List.map_tail, run_guard, run_guardD, resultsA, resA, Nat.add_assoc, twgC, i64_ok (x := (l.length : Int) - 1) (by omega)])
            | ((first | (with_reducible refine guardD_split ?_ ?_) | (with_reducible refine guardS_split ?_ ?_) | (with_reducible refine condS_split ?_ ?_)) <;> intro qb <;> (have qp := qb; try simp only [psq] at qp) <;> simp [-List.map_take, -List.map_drop, -List.map_tail, run_guard, run_guardD, resultsA, resA, Nat.add_assoc, twgC, i64_ok (x := (l.length : Int) - 1) (by omega), qb])
          all_goals (clear ih i1 i2 hnx; simp_all)
        | some b =>
          rw [hb] at i2
          simp only [head_all]
          refine PC.of okC Tryz.func345 rfl rfl (by kernel_rfl) (Nat.le_of_ble_eq_true rfl) (.bool _) fun h nx hnx => ?_
          show goC ctx _ _ (.fin (RetP _ _ _ _ _))
          try simp [-List.map_take, -List.map_drop, -List.map_tail, run_guard, run_guardD, resultsA, resA, Nat.add_assoc, twgC, i64_ok (x := (l.length : Int) - 1) (by omega)]
          repeat'
            first
            | done
            | ((first
                | ((with_reducible show lenS _ _ _ _ _ _); refine lenS_slice rfl fun _ => ?_)
                | ((with_reducible show iaddrS _ _ _ _ _ _ _); refine iaddr_map rfl omA omA ?_)
                | ((with_reducible show doCall _ _ _ 376 _ _); refine call_pc (c_size_Twig) ?_)
                | ((with_reducible show doCall _ _ _ 165 _ _); refine call_pc (c_within) ?_)
                | ((with_reducible show doCall _ _ _ 370 _ _); refine call_pc (c_parts hp (by omega) (by omega)) ?_)
                | (refine call_pc (i1) ?_)
                | (refine call_pc (i2) ?_)
                | ((with_reducible show doCall _ _ _ 377 _ _); refine call_pc (c_rank ha) ?_)
                | ((with_reducible show doCall _ _ _ 377 _ _); refine call_pc (c_rank hb) ?_)
                | ((with_reducible show doCall _ _ _ 372 _ _); refine call_pc (c_compare (a := gt l 0)) ?_)
                | (with_reducible refine go_draw (i := 3) [(0, [], []), (1, [], []), (2, [], []), (3, [], []), (4, [], []), (5, [.tmp 10], []), (6, [], []), (7, [], []), (8, [], [])] (by kernel_rfl) ?_)
                | (with_reducible refine go_draw (i := 8) [(0, [], []), (1, [], []), (2, [], []), (3, [], []), (4, [], []), (5, [], []), (6, [], []), (7, [], []), (8, [], []), (9, [], []), (10, [], []), (11, [], []), (12, [], []), (13, [], []), (14, [], []), (15, [], []), (16, [], []), (17, [], []), (18, [], []), (19, [], []), (20, [], []), (21, [], []), (22, [], []), (23, [], []), (24, [], []), (25, [], []), (26, [], []), (27, [], []), (28, [], [])] (by kernel_rfl) ?_)) <;> simp [-List.map_take, -List.map_drop, -List.map_tail, run_guard, run_guardD, resultsA, resA, Nat.add_assoc, twgC, i64_ok (x := (l.length : Int) - 1) (by omega)])
            | ((first | (with_reducible refine guardD_split ?_ ?_) | (with_reducible refine guardS_split ?_ ?_) | (with_reducible refine condS_split ?_ ?_)) <;> intro qb <;> (have qp := qb; try simp only [psq] at qp) <;> simp [-List.map_take, -List.map_drop, -List.map_tail, run_guard, run_guardD, resultsA, resA, Nat.add_assoc, twgC, i64_ok (x := (l.length : Int) - 1) (by omega), qb])
          all_goals clear ih i1 i2 hnx
          all_goals first | (simp_all; done) | (simp_all; omega) | grind | trace_state
    · obtain rfl : l = [] := by cases l <;> simp at hp ⊢
      refine PC.of okC Tryz.func345 rfl rfl (by kernel_rfl) (Nat.le_of_ble_eq_true rfl) (.bool _) fun h nx hnx => ?_
      show goC ctx _ _ (.fin (RetP _ _ _ _ _))
      try simp [-List.map_take, -List.map_drop, -List.map_tail, run_guard, run_guardD, resultsA, resA, Nat.add_assoc, rk_nil]
      repeat'
        first
        | done
        | ((first
            | ((with_reducible show lenS _ _ _ _ _ _); refine lenS_slice rfl fun _ => ?_)
            | ((with_reducible show iaddrS _ _ _ _ _ _ _); refine iaddr_map rfl omA omA ?_)
            | (with_reducible refine go_draw (i := 3) [(0, [], []), (1, [], []), (2, [], []), (3, [], []), (4, [], []), (5, [.tmp 10], []), (6, [], []), (7, [], []), (8, [], [])] (by kernel_rfl) ?_)
            | (with_reducible refine go_draw (i := 8) [(0, [], []), (1, [], []), (2, [], []), (3, [], []), (4, [], []), (5, [], []), (6, [], []), (7, [], []), (8, [], []), (9, [], []), (10, [], []), (11, [], []), (12, [], []), (13, [], []), (14, [], []), (15, [], []), (16, [], []), (17, [], []), (18, [], []), (19, [], []), (20, [], []), (21, [], []), (22, [], []), (23, [], []), (24, [], []), (25, [], []), (26, [], []), (27, [], []), (28, [], [])] (by kernel_rfl) ?_)) <;> simp [-List.map_take, -List.map_drop, -List.map_tail, run_guard, run_guardD, resultsA, resA, Nat.add_assoc, rk_nil])
        | ((first | (with_reducible refine guardD_split ?_ ?_) | (with_reducible refine guardS_split ?_ ?_) | (with_reducible refine condS_split ?_ ?_)) <;> intro qb <;> (have qp := qb; try simp only [psq] at qp) <;> simp [-List.map_take, -List.map_drop, -List.map_tail, run_guard, run_guardD, resultsA, resA, Nat.add_assoc, rk_nil, qb])
theorem c_isHeap {p : Bool} {l : List Twg} : PC ctx.P 345 [.view p 3 (l.map twgC)] (.bool (rk l).isSome) := c_isHeapN _ _ (Nat.le_refl _)
-- impl.HeapOk
theorem c_HeapOk {p : Bool} {l : List Twg} : PC ctx.P 270 [.view p 3 (l.map twgC)] (.bool (heapOk l)) := by
  refine PC.lim (n := l.length) (x := .view p 3 (l.map twgC)) (by simp) (.here (by simp)) ⟨_, Tryz.func270, by kernel_rfl, by kernel_rfl⟩ fun hlim => ?_
  refine PC.of okC Tryz.func270 rfl rfl (by kernel_rfl) (Nat.le_of_ble_eq_true rfl) (.bool _) fun h nx hnx => ?_
  show goC ctx _ _ (.fin (RetP _ _ _ _ _))
  try simp [-List.map_take, -List.map_drop, -List.map_tail, run_guard, run_guardD, resultsA, resA, Nat.add_assoc]
  repeat'
    first
    | done
    | ((first
        | ((with_reducible show lenS _ _ _ _ _ _); refine lenS_slice rfl fun _ => ?_)
        | ((with_reducible show iaddrS _ _ _ _ _ _ _); refine iaddr_map rfl omA omA ?_)
        | ((with_reducible show sliceS _ _ _ _ _ _ _ _); refine slice_to rfl omA omA ?_)
        | ((with_reducible show sliceS _ _ _ _ _ _ _ _); refine slice_from rfl omA omA ?_)
        | ((with_reducible show sliceS _ _ _ _ _ _ _ _); refine slice_mid rfl omA omA omA ?_)
        | ((with_reducible show sliceI _ _ _ _ _ _ _ _ _ _ _); refine sliceI_to rfl omA omA ?_)
        | ((with_reducible show sliceI _ _ _ _ _ _ _ _ _ _ _); refine sliceI_from rfl omA omA ?_)
        | ((with_reducible show sliceI _ _ _ _ _ _ _ _ _ _ _); refine sliceI_mid rfl omA omA omA ?_)
        | (with_reducible refine go_draw (i := 6) [(0, [], []), (1, [], []), (2, [], []), (3, [], []), (4, [], []), (5, [], []), (6, [], [])] (by kernel_rfl) ?_)) <;> simp [-List.map_take, -List.map_drop, -List.map_tail, run_guard, run_guardD, resultsA, resA, Nat.add_assoc])
    | ((first | (with_reducible refine condS_split ?_ ?_)) <;> intro qb <;> (have qp := qb; try simp only [psq] at qp) <;> simp [-List.map_take, -List.map_drop, -List.map_tail, run_guard, run_guardD, resultsA, resA, Nat.add_assoc, qb])
  · all_goals (try clear hnx)
    all_goals first | (simp_all [heapOk]; done) | (simp_all [heapOk]; omega) | (rw [Bool.eq_iff_iff]; simp_all [heapOk]; done) | (rw [Bool.eq_iff_iff]; simp_all [heapOk]; omega) | omega | (simp only [heapOk]; grind) | grind
  · refine go_upP [2, 3, 4, 10, 11, 12, 13, 14, 15, 16, 17, 18, 19, 20, 21, 22] (l.length) (fun (i : Nat) a => [(10, .int .i64 i)]) (fun i_ a_ h_ _ => (fun i (_ : Unit) _ => allI (fun i x => !(decide (0 ≤ seqAt (l.take i.toNat) x.seq))) (l.drop i) i = allI (fun i x => !(decide (0 ≤ seqAt (l.take i.toNat) x.seq))) l 0) i_ a_ h_) (()) (by simp) ?_ keep_rfl (Nat.le_refl _) ?_
    · simp
    · intro i a tm h' n' hle hJ hE hn' next hnx
      try dsimp only at hJ
      have hK : KeepB nx h' h := KeepB.sub hE keepA (by omega)
      simp [-List.map_take, -List.map_drop, -List.map_tail]
      try simp [-List.map_take, -List.map_drop, -List.map_tail, run_guard, run_guardD, resultsA, resA, Nat.add_assoc, twgC]
      repeat'
        first
        | done
        | ((first
            | ((with_reducible show lenS _ _ _ _ _ _); refine lenS_slice rfl fun _ => ?_)
            | ((with_reducible show iaddrS _ _ _ _ _ _ _); refine iaddr_map rfl omA omA ?_)
            | ((with_reducible show sliceS _ _ _ _ _ _ _ _); refine slice_to rfl omA omA ?_)
            | ((with_reducible show sliceS _ _ _ _ _ _ _ _); refine slice_from rfl omA omA ?_)
            | ((with_reducible show sliceS _ _ _ _ _ _ _ _); refine slice_mid rfl omA omA omA ?_)
            | ((with_reducible show sliceI _ _ _ _ _ _ _ _ _ _ _); refine sliceI_to rfl omA omA ?_)
            | ((with_reducible show sliceI _ _ _ _ _ _ _ _ _ _ _); refine sliceI_from rfl omA omA ?_)
            | ((with_reducible show sliceI _ _ _ _ _ _ _ _ _ _ _); refine sliceI_mid rfl omA omA omA ?_)
            | ((with_reducible show doCall _ _ _ 344 _ _); refine call_pc (c_seqAt) ?_)
            | ((with_reducible show doCall _ _ _ 345 _ _); refine call_pc (c_isHeap) ?_)
            | (with_reducible refine go_draw (i := 6) [(0, [], []), (1, [], []), (2, [], []), (3, [], []), (4, [], []), (5, [], []), (6, [], [])] (by kernel_rfl) ?_)) <;> simp [-List.map_take, -List.map_drop, -List.map_tail, run_guard, run_guardD, resultsA, resA, Nat.add_assoc, twgC])
        | ((first | (with_reducible refine condS_split ?_ ?_)) <;> intro qb <;> (have qp := qb; try simp only [psq] at qp) <;> simp [-List.map_take, -List.map_drop, -List.map_tail, run_guard, run_guardD, resultsA, resA, Nat.add_assoc, twgC, qb])
      all_goals
        first
        | (have hlt : i < l.length := (by first | omega | (simp at *; omega))
           rw [drop_gt hlt] at hJ
           first
           | (refine hnx.go (()) ?_ ?_ ?_ ?_ ?_ ?_; omega; (simp [wrap_succ hlt hlim]); (simp); exact keepA; (first | omega | (simp; omega)); (try dsimp only); clear hnx; first | ((try simp only [List.drop_length, Int.toNat_natCast, allI, heapOk] at hJ ⊢); grind) | (simp_all [allI, heapOk]; done) | (simp_all; omega))
           | (refine ⟨?_, keepA⟩; clear hnx; first | ((try simp only [List.drop_length, Int.toNat_natCast, allI, heapOk] at hJ ⊢); grind) | (simp_all [allI, heapOk]; done) | (simp_all; omega)))
        | (obtain rfl : i = l.length := (by first | omega | (simp at *; omega))
           refine ⟨?_, keepA⟩; clear hnx; first | ((try simp only [List.drop_length, Int.toNat_natCast, allI, heapOk] at hJ ⊢); grind) | (simp_all [allI, heapOk]; done) | (simp_all; omega))

/-! ### trees -/
-- (impl.Node).isNode
theorem c_isNode {n : Nod} {i : Int} (h0 : 0 ≤ i) (h1 : i ≤ LIM) : PC ctx.P 245 [.agg (nodC n), .int .i64 i] (.bool (isNode n i)) := by
  simp only [LIM] at h1
  refine PC.of okC Tryz.func245 rfl rfl (by kernel_rfl) (Nat.le_of_ble_eq_true rfl) (.bool _) fun h nx hnx => ?_
  show goC ctx _ _ (.fin (RetP _ _ _ _ _))
  try simp [-List.map_take, -List.map_drop, -List.map_tail, run_guard, run_guardD, resultsA, resA, Nat.add_assoc, nodC, i64_ok (x := i) (by omega), i64_ok (x := i - 1) (by omega)]
  repeat'
    first
    | done
    | ((first
        | ((with_reducible show doCall _ _ _ 165 _ _); refine call_pc (c_within) ?_)) <;> simp [-List.map_take, -List.map_drop, -List.map_tail, run_guard, run_guardD, resultsA, resA, Nat.add_assoc, nodC, i64_ok (x := i) (by omega), i64_ok (x := i - 1) (by omega)])
    | ((first | (with_reducible refine guardS_split ?_ ?_) | (with_reducible refine condS_split ?_ ?_)) <;> intro qb <;> (have qp := qb; try simp only [psq] at qp) <;> simp [-List.map_take, -List.map_drop, -List.map_tail, run_guard, run_guardD, resultsA, resA, Nat.add_assoc, nodC, i64_ok (x := i) (by omega), i64_ok (x := i - 1) (by omega), qb])
  all_goals (try clear hnx)
  all_goals first | (simp_all [isNode, never]; done) | (simp_all [isNode, never]; omega) | (rw [Bool.eq_iff_iff]; simp_all [isNode, never]; done) | (rw [Bool.eq_iff_iff]; simp_all [isNode, never]; omega) | omega | (simp only [isNode, never]; grind) | grind
-- impl.TreeOk
theorem c_TreeOk {p : Bool} {t : List Nod} : PC ctx.P 266 [.view p 5 (t.map nodC)] (.bool (treeOk t)) := by
  refine PC.lim (n := t.length) (x := .view p 5 (t.map nodC)) (by simp) (.here (by simp)) ⟨_, Tryz.func266, by kernel_rfl, by kernel_rfl⟩ fun hlim => ?_
  refine PC.of okC Tryz.func266 rfl rfl (by kernel_rfl) (Nat.le_of_ble_eq_true rfl) (.bool _) fun h nx hnx => ?_
  show goC ctx _ _ (.fin (RetP _ _ _ _ _))
  try simp [-List.map_take, -List.map_drop, -List.map_tail, run_guard, run_guardD, resultsA, resA, Nat.add_assoc]
  repeat'
    first
    | done
    | ((first
        | ((with_reducible show lenS _ _ _ _ _ _); refine lenS_slice rfl fun _ => ?_)
        | ((with_reducible show iaddrS _ _ _ _ _ _ _); refine iaddr_map rfl omA omA ?_)) <;> simp [-List.map_take, -List.map_drop, -List.map_tail, run_guard, run_guardD, resultsA, resA, Nat.add_assoc])
    | ((first | (with_reducible refine guardS_split ?_ ?_) | (with_reducible refine condS_split ?_ ?_)) <;> intro qb <;> (have qp := qb; try simp only [psq] at qp) <;> simp [-List.map_take, -List.map_drop, -List.map_tail, run_guard, run_guardD, resultsA, resA, Nat.add_assoc, qb])
  refine go_upP [2, 3, 4, 7, 8, 9, 10, 11, 12, 13, 14, 15, 16, 17, 18, 19, 20] (t.length) (fun (i : Nat) a => [(7, .int .i64 i)]) (fun i_ a_ h_ _ => (fun i (_ : Unit) _ => allI (fun i n => i != 60 && isNode n i) (t.drop i) i = treeOk t) i_ a_ h_) (()) (by simp) ?_ keep_rfl (Nat.le_refl _) ?_
  · simp [treeOk]
  · intro i a tm h' n' hle hJ hE hn' next hnx
    try dsimp only at hJ
    have hK : KeepB nx h' h := KeepB.sub hE keepA (by omega)
    simp [-List.map_take, -List.map_drop, -List.map_tail]
    try simp [-List.map_take, -List.map_drop, -List.map_tail, run_guard, run_guardD, resultsA, resA, Nat.add_assoc]
    repeat'
      first
      | done
      | ((first
          | ((with_reducible show lenS _ _ _ _ _ _); refine lenS_slice rfl fun _ => ?_)
          | ((with_reducible show iaddrS _ _ _ _ _ _ _); refine iaddr_map rfl omA omA ?_)
          | ((with_reducible show doCall _ _ _ 245 _ _); refine call_pc (c_isNode (by omega) (by omega)) ?_)) <;> simp [-List.map_take, -List.map_drop, -List.map_tail, run_guard, run_guardD, resultsA, resA, Nat.add_assoc])
      | ((first | (with_reducible refine guardS_split ?_ ?_) | (with_reducible refine condS_split ?_ ?_)) <;> intro qb <;> (have qp := qb; try simp only [psq] at qp) <;> simp [-List.map_take, -List.map_drop, -List.map_tail, run_guard, run_guardD, resultsA, resA, Nat.add_assoc, qb])
    all_goals
      first
      | (have hlt : i < t.length := (by first | omega | (simp at *; omega))
         rw [drop_gt hlt] at hJ
         first
         | (refine hnx.go (()) ?_ ?_ ?_ ?_ ?_ ?_; omega; (simp [wrap_succ hlt hlim]); (simp); exact keepA; (first | omega | (simp; omega)); (try dsimp only); clear hnx; first | ((try simp only [List.drop_length, Int.toNat_natCast, allI] at hJ ⊢); grind) | (simp_all [allI]; done) | (simp_all; omega))
         | (refine ⟨?_, keepA⟩; clear hnx; first | ((try simp only [List.drop_length, Int.toNat_natCast, allI] at hJ ⊢); grind) | (simp_all [allI]; done) | (simp_all; omega)))
      | (obtain rfl : i = t.length := (by first | omega | (simp at *; omega))
         refine ⟨?_, keepA⟩; clear hnx; first | ((try simp only [List.drop_length, Int.toNat_natCast, allI] at hJ ⊢); grind) | (simp_all [allI]; done) | (simp_all; omega))
-- slices.Index[[]int64,int64]
theorem c_Index {p : Bool} {xs : List Int} {n : Int} : PC ctx.P 201 [.view p 1 (xs.map iv), .int .i64 n] (.int .i64 (idxI (fun x => n == x) xs 0)) := by
  refine PC.lim (n := xs.length) (x := .view p 1 (xs.map iv)) (by simp) (.here (by simp)) ⟨_, Tryz.func201, by kernel_rfl, by kernel_rfl⟩ fun hlim => ?_
  refine PC.of okC Tryz.func201 rfl rfl (by kernel_rfl) (Nat.le_of_ble_eq_true rfl) (.int _ _) fun h nx hnx => ?_
  show goC ctx _ _ (.fin (RetP _ _ _ _ _))
  try simp [-List.map_take, -List.map_drop, -List.map_tail, run_guard, run_guardD, resultsA, resA, Nat.add_assoc]
  repeat'
    first
    | done
    | ((first
        | ((with_reducible show lenS _ _ _ _ _ _); refine lenS_slice rfl fun _ => ?_)
        | ((with_reducible show iaddrS _ _ _ _ _ _ _); refine iaddr_map rfl omA omA ?_)) <;> simp [-List.map_take, -List.map_drop, -List.map_tail, run_guard, run_guardD, resultsA, resA, Nat.add_assoc])
    | ((first | (with_reducible refine condS_split ?_ ?_)) <;> intro qb <;> (have qp := qb; try simp only [psq] at qp) <;> simp [-List.map_take, -List.map_drop, -List.map_tail, run_guard, run_guardD, resultsA, resA, Nat.add_assoc, qb])
  refine go_upP [4, 5, 8, 9, 10, 11, 12, 13, 14, 15, 16, 17, 18] (xs.length) (fun (i : Nat) a => [(8, .int .i64 i)]) (fun i_ a_ h_ _ => (fun i (_ : Unit) _ => idxI (fun x => n == x) (xs.drop i) i = idxI (fun x => n == x) xs 0) i_ a_ h_) (()) (by simp) ?_ keep_rfl (Nat.le_refl _) ?_
  · simp
  · intro i a tm h' n' hle hJ hE hn' next hnx
    try dsimp only at hJ
    have hK : KeepB nx h' h := KeepB.sub hE keepA (by omega)
    simp [-List.map_take, -List.map_drop, -List.map_tail]
    try simp [-List.map_take, -List.map_drop, -List.map_tail, run_guard, run_guardD, resultsA, resA, Nat.add_assoc, iv]
    repeat'
      first
      | done
      | ((first
          | ((with_reducible show lenS _ _ _ _ _ _); refine lenS_slice rfl fun _ => ?_)
          | ((with_reducible show iaddrS _ _ _ _ _ _ _); refine iaddr_map rfl omA omA ?_)) <;> simp [-List.map_take, -List.map_drop, -List.map_tail, run_guard, run_guardD, resultsA, resA, Nat.add_assoc, iv])
      | ((first | (with_reducible refine condS_split ?_ ?_)) <;> intro qb <;> (have qp := qb; try simp only [psq] at qp) <;> simp [-List.map_take, -List.map_drop, -List.map_tail, run_guard, run_guardD, resultsA, resA, Nat.add_assoc, iv, qb])
    all_goals
      first
      | (have hlt : i < xs.length := (by first | omega | (simp at *; omega))
         rw [drop_gt hlt] at hJ
         first
         | (refine hnx.go (()) ?_ ?_ ?_ ?_ ?_ ?_; omega; (simp [wrap_succ hlt hlim]); (simp); exact keepA; (first | omega | (simp; omega)); (try dsimp only); clear hnx; first | ((try simp only [List.drop_length, Int.toNat_natCast, idxI] at hJ ⊢); grind) | (simp_all [idxI]; done) | (simp_all; omega))
         | (refine ⟨?_, keepA⟩; clear hnx; first | ((try simp only [List.drop_length, Int.toNat_natCast, idxI] at hJ ⊢); grind) | (simp_all [idxI]; done) | (simp_all; omega)))
      | (obtain rfl : i = xs.length := (by first | omega | (simp at *; omega))
         refine ⟨?_, keepA⟩; clear hnx; first | ((try simp only [List.drop_length, Int.toNat_natCast, idxI] at hJ ⊢); grind) | (simp_all [idxI]; done) | (simp_all; omega))
-- slices.Contains[[]int64,int64]
theorem c_Contains {p : Bool} {xs : List Int} {n : Int} : PC ctx.P 88 [.view p 1 (xs.map iv), .int .i64 n] (.bool (xs.contains n)) := by
  have e : decide (0 ≤ idxI (fun x => n == x) xs 0) = xs.contains n := by rw [idxI_any _ _ 0 (Int.le_refl 0), any_contains]
  refine PC.of okC Tryz.func88 rfl rfl (by kernel_rfl) (Nat.le_of_ble_eq_true rfl) (.bool _) fun h nx hnx => ?_
  show goC ctx _ _ (.fin (RetP _ _ _ _ _))
  try simp [-List.map_take, -List.map_drop, -List.map_tail, run_guard, run_guardD, resultsA, resA, Nat.add_assoc, e]
  repeat'
    first
    | done
    | ((first
        | ((with_reducible show doCall _ _ _ 201 _ _); refine call_pc (c_Index) ?_)) <;> simp [-List.map_take, -List.map_drop, -List.map_tail, run_guard, run_guardD, resultsA, resA, Nat.add_assoc, e])
-- (impl.Event).isEvent
theorem c_isEvent {p : Bool} {t : List Nod} {e : Evt} : PC ctx.P 342 [.agg (evtC e), .view p 5 (t.map nodC)] (.bool (isEvent t e)) := by
  refine PC.of okC Tryz.func342 rfl rfl (by kernel_rfl) (Nat.le_of_ble_eq_true rfl) (.bool _) fun h nx hnx => ?_
  show goC ctx _ _ (.fin (RetP _ _ _ _ _))
  try simp [-List.map_take, -List.map_drop, -List.map_tail, run_guard, run_guardD, resultsA, resA, Nat.add_assoc, evtC, nodC]
  repeat'
    first
    | done
    | ((first
        | ((with_reducible show iaddrS _ _ _ _ _ _ _); refine iaddr_map rfl omA omA ?_)
        | ((with_reducible show doCall _ _ _ 172 _ _); refine call_pc (c_isIn_Node) ?_)
        | ((with_reducible show doCall _ _ _ 165 _ _); refine call_pc (c_within) ?_)
        | ((with_reducible show doCall _ _ _ 84 _ _); refine call_pc (c_IsDue) ?_)
        | (with_reducible refine go_draw (i := 8) [(0, [], []), (1, [], []), (2, [], []), (3, [], []), (4, [], []), (5, [], []), (6, [], []), (7, [], []), (8, [], []), (9, [], []), (10, [], []), (11, [], []), (12, [], []), (13, [], []), (14, [], []), (15, [], []), (16, [], []), (17, [], []), (18, [], [])] (by kernel_rfl) ?_)) <;> simp [-List.map_take, -List.map_drop, -List.map_tail, run_guard, run_guardD, resultsA, resA, Nat.add_assoc, evtC, nodC])
    | ((first | (with_reducible refine guardD_split ?_ ?_) | (with_reducible refine guardS_split ?_ ?_) | (with_reducible refine condS_split ?_ ?_)) <;> intro qb <;> (have qp := qb; try simp only [psq] at qp) <;> simp [-List.map_take, -List.map_drop, -List.map_tail, run_guard, run_guardD, resultsA, resA, Nat.add_assoc, evtC, nodC, qb])
  all_goals (try clear hnx)
  all_goals first | (simp_all [isEvent]; done) | (simp_all [isEvent]; omega) | (rw [Bool.eq_iff_iff]; simp_all [isEvent]; done) | (rw [Bool.eq_iff_iff]; simp_all [isEvent]; omega) | omega | (simp only [isEvent]; grind) | grind
-- (impl.Spread).isSpread$1
theorem c_isSpread1 {p : Bool} {t : List Nod} {n : Int} : PC ctx.P 269 [.int .i64 n, .vptr [.view p 5 (t.map nodC)]] (.bool (!isIn n t)) := by
  refine PC.of okC Tryz.func269 rfl rfl (by kernel_rfl) (Nat.le_of_ble_eq_true rfl) (.bool _) fun h nx hnx => ?_
  show goC ctx _ _ (.fin (RetP _ _ _ _ _))
  try simp [-List.map_take, -List.map_drop, -List.map_tail, run_guard, run_guardD, resultsA, resA, Nat.add_assoc]
  repeat'
    first
    | done
    | ((first
        | ((with_reducible show doCall _ _ _ 172 _ _); refine call_pc (c_isIn_Node) ?_)) <;> simp [-List.map_take, -List.map_drop, -List.map_tail, run_guard, run_guardD, resultsA, resA, Nat.add_assoc])
-- (impl.Spread).isSpread
theorem c_isSpread {F : Nat → Bool} {p : Bool} {t : List Nod} {s : Spr} : PC ctx.P 163 [.agg (sprV F s), .view p 5 (t.map nodC)] (.bool (isSpread s t)) := by
  refine PC.of okC Tryz.func163 rfl rfl (by kernel_rfl) (Nat.le_of_ble_eq_true rfl) (.bool _) fun h nx hnx => ?_
  show goC ctx _ _ (.fin (RetP _ _ _ _ _))
  try simp [-List.map_take, -List.map_drop, -List.map_tail, run_guard, run_guardD, resultsA, resA, Nat.add_assoc, sprV]
  repeat'
    first
    | done
    | ((first
        | ((with_reducible show lenS _ _ _ _ _ _); refine lenS_slice rfl fun _ => ?_)
        | ((with_reducible show doCall _ _ _ 268 _ _); refine call_pcB (c_ContainsFunc_int64 (q := fun n => !isIn n t) (fv := .fn 269 [.vptr [.view p 5 (t.map nodC)]]) (fun x _ => c_isSpread1)) (by first | exact .bool _ | exact .int _ _ | exact .str _) (by repeat' first | exact Bors.nil | refine Bors.cons ?_ ?_ | exact Bor.same _ | refine Bor.fn1 ?_ | refine Bor.bnd1 ?_ | refine Bor.agg1 ?_ | refine Bor.ptr0 (by first | (simp; done) | (simp; rfl) | assumption | (simp [*]; done)) ?_ | refine Bor.ref0 (by first | (simp; done) | (simp; rfl) | (simp [iv, bv]; done)) (by simp) (by simp)) ?_)) <;> simp [-List.map_take, -List.map_drop, -List.map_tail, run_guard, run_guardD, resultsA, resA, Nat.add_assoc, sprV])
    | ((first | (with_reducible refine guardS_split ?_ ?_)) <;> intro qb <;> (have qp := qb; try simp only [psq] at qp) <;> simp [-List.map_take, -List.map_drop, -List.map_tail, run_guard, run_guardD, resultsA, resA, Nat.add_assoc, sprV, qb])
  all_goals (try clear hnx)
  all_goals first | (simp_all [isSpread]; done) | (simp_all [isSpread]; omega) | (rw [Bool.eq_iff_iff]; simp_all [isSpread]; done) | (rw [Bool.eq_iff_iff]; simp_all [isSpread]; omega) | omega | (simp only [isSpread]; grind) | grind
end Go.AE.Tryz
end

section
/- Contracts of the program's readers: tasks, groups, worlds. -/
set_option linter.unusedSimpArgs false
set_option linter.unusedVariables false
set_option maxRecDepth 8000
set_option maxHeartbeats 2000000
namespace Go.AE.Tryz
open Go.Proofs

-- impl.hasNode
theorem c_hasNode {n : Int} : PC ctx.P 340 [.int .i64 n] (.bool (hasNode n)) := by
  refine PC.of okC Tryz.func340 rfl rfl (by kernel_rfl) (Nat.le_of_ble_eq_true rfl) (.bool _) fun h nx hnx => ?_
  show goC ctx _ _ (.fin (RetP _ _ _ _ _))
  try simp [-List.map_take, -List.map_drop, -List.map_tail, run_guard, run_guardD, resultsA, resA, Nat.add_assoc]
  repeat'
    first
    | done
    | ((first
        | ((with_reducible show doCall _ _ _ 165 _ _); refine call_pc (c_within) ?_)) <;> simp [-List.map_take, -List.map_drop, -List.map_tail, run_guard, run_guardD, resultsA, resA, Nat.add_assoc])
    | ((first | (with_reducible refine guardS_split ?_ ?_)) <;> intro qb <;> (have qp := qb; try simp only [psq] at qp) <;> simp [-List.map_take, -List.map_drop, -List.map_tail, run_guard, run_guardD, resultsA, resA, Nat.add_assoc, qb])
  all_goals (try clear hnx)
  all_goals first | (simp_all [hasNode]; done) | (simp_all [hasNode]; omega) | (rw [Bool.eq_iff_iff]; simp_all [hasNode]; done) | (rw [Bool.eq_iff_iff]; simp_all [hasNode]; omega) | omega | (simp only [hasNode]; grind) | grind
-- impl.hasB
theorem c_hasB {n : Int} : PC ctx.P 341 [.int .i64 n] (.bool (hasB n)) := by
  refine PC.of okC Tryz.func341 rfl rfl (by kernel_rfl) (Nat.le_of_ble_eq_true rfl) (.bool _) fun h nx hnx => ?_
  show goC ctx _ _ (.fin (RetP _ _ _ _ _))
  try simp [-List.map_take, -List.map_drop, -List.map_tail, run_guard, run_guardD, resultsA, resA, Nat.add_assoc]
  repeat'
    first
    | done
    | ((first | (with_reducible refine guardS_split ?_ ?_)) <;> intro qb <;> (have qp := qb; try simp only [psq] at qp) <;> simp [-List.map_take, -List.map_drop, -List.map_tail, run_guard, run_guardD, resultsA, resA, Nat.add_assoc, qb])
  all_goals (try clear hnx)
  all_goals first | (simp_all [hasB]; done) | (simp_all [hasB]; omega) | (rw [Bool.eq_iff_iff]; simp_all [hasB]; done) | (rw [Bool.eq_iff_iff]; simp_all [hasB]; omega) | omega | (simp only [hasB]; grind) | grind
-- impl.InsOk
theorem c_InsOk {x : Inn} : PC ctx.P 265 [.agg (innC x)] (.bool (innOk x)) := by
  refine PC.of okC Tryz.func265 rfl rfl (by kernel_rfl) (Nat.le_of_ble_eq_true rfl) (.bool _) fun h nx hnx => ?_
  show goC ctx _ _ (.fin (RetP _ _ _ _ _))
  try simp [-List.map_take, -List.map_drop, -List.map_tail, run_guard, run_guardD, resultsA, resA, Nat.add_assoc, innC]
  repeat'
    first
    | done
    | ((first
        | ((with_reducible show doCall _ _ _ 340 _ _); refine call_pc (c_hasNode) ?_)
        | ((with_reducible show doCall _ _ _ 341 _ _); refine call_pc (c_hasB) ?_)
        | ((with_reducible show doCall _ _ _ 165 _ _); refine call_pc (c_within) ?_)) <;> simp [-List.map_take, -List.map_drop, -List.map_tail, run_guard, run_guardD, resultsA, resA, Nat.add_assoc, innC])
    | ((first | (with_reducible refine guardS_split ?_ ?_) | (with_reducible refine condS_split ?_ ?_)) <;> intro qb <;> (have qp := qb; try simp only [psq] at qp) <;> simp [-List.map_take, -List.map_drop, -List.map_tail, run_guard, run_guardD, resultsA, resA, Nat.add_assoc, innC, qb])
  all_goals (try clear hnx)
  all_goals first | (simp_all [innOk]; done) | (simp_all [innOk]; omega) | (rw [Bool.eq_iff_iff]; simp_all [innOk]; done) | (rw [Bool.eq_iff_iff]; simp_all [innOk]; omega) | omega | (simp only [innOk]; grind) | grind
-- impl.ProgOk$1
theorem c_ProgOk1 {x : Inn} : PC ctx.P 264 [.agg (innC x)] (.bool (!innOk x)) := by
  refine PC.of okC Tryz.func264 rfl rfl (by kernel_rfl) (Nat.le_of_ble_eq_true rfl) (.bool _) fun h nx hnx => ?_
  show goC ctx _ _ (.fin (RetP _ _ _ _ _))
  try simp [-List.map_take, -List.map_drop, -List.map_tail, run_guard, run_guardD, resultsA, resA, Nat.add_assoc]
  repeat'
    first
    | done
    | ((first
        | ((with_reducible show doCall _ _ _ 265 _ _); refine call_pc (c_InsOk) ?_)) <;> simp [-List.map_take, -List.map_drop, -List.map_tail, run_guard, run_guardD, resultsA, resA, Nat.add_assoc])
-- impl.ProgOk
theorem c_ProgOk {p : Bool} {l : List Inn} : PC ctx.P 161 [.view p 3 (l.map innC)] (.bool (progOk l)) := by
  refine PC.of okC Tryz.func161 rfl rfl (by kernel_rfl) (Nat.le_of_ble_eq_true rfl) (.bool _) fun h nx hnx => ?_
  show goC ctx _ _ (.fin (RetP _ _ _ _ _))
  try simp [-List.map_take, -List.map_drop, -List.map_tail, run_guard, run_guardD, resultsA, resA, Nat.add_assoc]
  repeat'
    first
    | done
    | ((first
        | ((with_reducible show lenS _ _ _ _ _ _); refine lenS_slice rfl fun _ => ?_)
        | ((with_reducible show doCall _ _ _ 263 _ _); refine call_pc (c_ContainsFunc_Ins (q := fun x => !innOk x) (fun x _ => c_ProgOk1)) ?_)) <;> simp [-List.map_take, -List.map_drop, -List.map_tail, run_guard, run_guardD, resultsA, resA, Nat.add_assoc])
    | ((first | (with_reducible refine guardS_split ?_ ?_)) <;> intro qb <;> (have qp := qb; try simp only [psq] at qp) <;> simp [-List.map_take, -List.map_drop, -List.map_tail, run_guard, run_guardD, resultsA, resA, Nat.add_assoc, qb])
  all_goals (try clear hnx)
  all_goals first | (simp_all [progOk]; done) | (simp_all [progOk]; omega) | (rw [Bool.eq_iff_iff]; simp_all [progOk]; done) | (rw [Bool.eq_iff_iff]; simp_all [progOk]; omega) | omega | (simp only [progOk]; grind) | grind
-- impl.TaskOk
theorem c_TaskOk {t : Tsk} : PC ctx.P 285 [.agg (tskC t)] (.bool (tskOk t)) := by
  refine PC.of okC Tryz.func285 rfl rfl (by kernel_rfl) (Nat.le_of_ble_eq_true rfl) (.bool _) fun h nx hnx => ?_
  show goC ctx _ _ (.fin (RetP _ _ _ _ _))
  try simp [-List.map_take, -List.map_drop, -List.map_tail, run_guard, run_guardD, resultsA, resA, Nat.add_assoc, tskC]
  repeat'
    first
    | done
    | ((first
        | ((with_reducible show doCall _ _ _ 165 _ _); refine call_pc (c_within) ?_)
        | (with_reducible refine go_draw (i := 3) [(0, [], []), (1, [], []), (2, [], []), (3, [], []), (4, [], []), (5, [.tmp 34], []), (6, [], []), (7, [], []), (8, [], []), (9, [], []), (10, [], []), (11, [], []), (12, [], []), (13, [], []), (14, [], []), (15, [], []), (16, [], [])] (by kernel_rfl) ?_)) <;> simp [-List.map_take, -List.map_drop, -List.map_tail, run_guard, run_guardD, resultsA, resA, Nat.add_assoc, tskC])
    | ((first | (with_reducible refine guardD_split ?_ ?_) | (with_reducible refine guardS_split ?_ ?_) | (with_reducible refine condS_split ?_ ?_)) <;> intro qb <;> (have qp := qb; try simp only [psq] at qp) <;> simp [-List.map_take, -List.map_drop, -List.map_tail, run_guard, run_guardD, resultsA, resA, Nat.add_assoc, tskC, qb])
  all_goals (try clear hnx)
  all_goals first | (simp_all [tskOk]; done) | (simp_all [tskOk]; omega) | (rw [Bool.eq_iff_iff]; simp_all [tskOk]; done) | (rw [Bool.eq_iff_iff]; simp_all [tskOk]; omega) | omega | (simp only [tskOk]; grind) | grind
-- impl.TasksOk$1
theorem c_TasksOk1 {t : Tsk} : PC ctx.P 284 [.agg (tskC t)] (.bool (!tskOk t)) := by
  refine PC.of okC Tryz.func284 rfl rfl (by kernel_rfl) (Nat.le_of_ble_eq_true rfl) (.bool _) fun h nx hnx => ?_
  show goC ctx _ _ (.fin (RetP _ _ _ _ _))
  try simp [-List.map_take, -List.map_drop, -List.map_tail, run_guard, run_guardD, resultsA, resA, Nat.add_assoc]
  repeat'
    first
    | done
    | ((first
        | ((with_reducible show doCall _ _ _ 285 _ _); refine call_pc (c_TaskOk) ?_)) <;> simp [-List.map_take, -List.map_drop, -List.map_tail, run_guard, run_guardD, resultsA, resA, Nat.add_assoc])
-- impl.TasksOk
theorem c_TasksOk {p : Bool} {l : List Tsk} : PC ctx.P 173 [.view p 9 (l.map tskC)] (.bool (tasksOk l)) := by
  refine PC.of okC Tryz.func173 rfl rfl (by kernel_rfl) (Nat.le_of_ble_eq_true rfl) (.bool _) fun h nx hnx => ?_
  show goC ctx _ _ (.fin (RetP _ _ _ _ _))
  try simp [-List.map_take, -List.map_drop, -List.map_tail, run_guard, run_guardD, resultsA, resA, Nat.add_assoc]
  repeat'
    first
    | done
    | ((first
        | ((with_reducible show lenS _ _ _ _ _ _); refine lenS_slice rfl fun _ => ?_)
        | ((with_reducible show doCall _ _ _ 283 _ _); refine call_pc (c_ContainsFunc_Task (q := fun x => !tskOk x) (fun x _ => c_TasksOk1)) ?_)) <;> simp [-List.map_take, -List.map_drop, -List.map_tail, run_guard, run_guardD, resultsA, resA, Nat.add_assoc])
    | ((first | (with_reducible refine guardS_split ?_ ?_)) <;> intro qb <;> (have qp := qb; try simp only [psq] at qp) <;> simp [-List.map_take, -List.map_drop, -List.map_tail, run_guard, run_guardD, resultsA, resA, Nat.add_assoc, qb])
  all_goals (try clear hnx)
  all_goals first | (simp_all [tasksOk]; done) | (simp_all [tasksOk]; omega) | (rw [Bool.eq_iff_iff]; simp_all [tasksOk]; done) | (rw [Bool.eq_iff_iff]; simp_all [tasksOk]; omega) | omega | (simp only [tasksOk]; grind) | grind
-- impl.isAfter
theorem c_isAfter {a b : Int} : PC ctx.P 279 [.int .i64 a, .int .i64 b] (.bool (isAfter a b)) := by
  refine PC.of okC Tryz.func279 rfl rfl (by kernel_rfl) (Nat.le_of_ble_eq_true rfl) (.bool _) fun h nx hnx => ?_
  show goC ctx _ _ (.fin (RetP _ _ _ _ _))
  try simp [-List.map_take, -List.map_drop, -List.map_tail, run_guard, run_guardD, resultsA, resA, Nat.add_assoc]
  repeat'
    first
    | done
    | ((first
        | ((with_reducible show doCall _ _ _ 165 _ _); refine call_pc (c_within) ?_)) <;> simp [-List.map_take, -List.map_drop, -List.map_tail, run_guard, run_guardD, resultsA, resA, Nat.add_assoc])
    | ((first | (with_reducible refine guardS_split ?_ ?_)) <;> intro qb <;> (have qp := qb; try simp only [psq] at qp) <;> simp [-List.map_take, -List.map_drop, -List.map_tail, run_guard, run_guardD, resultsA, resA, Nat.add_assoc, qb])
  all_goals (try clear hnx)
  all_goals first | (simp_all [isAfter]; done) | (simp_all [isAfter]; omega) | (rw [Bool.eq_iff_iff]; simp_all [isAfter]; done) | (rw [Bool.eq_iff_iff]; simp_all [isAfter]; omega) | omega | (simp only [isAfter]; grind) | grind
-- (impl.Afters).at$1
theorem c_afsAt1 {x : Afr} {h : Han} : PC ctx.P 351 [.agg (afrC x), .vptr (hanC h)] (.bool (x.han == h)) := by
  refine PC.of okC Tryz.func351 rfl rfl (by kernel_rfl) (Nat.le_of_ble_eq_true rfl) (.bool _) fun h nx hnx => ?_
  show goC ctx _ _ (.fin (RetP _ _ _ _ _))
  try simp [-List.map_take, -List.map_drop, -List.map_tail, run_guard, run_guardD, resultsA, resA, Nat.add_assoc, afrC, hanC, han_eq, lfOf, cellsEq, cellEq]
-- (impl.Afters).at
theorem c_afsAt {F : Nat → Bool} {a : Afs} {x : Han} : PC ctx.P 281 [.agg (afsV F a), .agg (hanC x)] (.int .i64 (afsAt a.list x)) := by
  refine PC.of okC Tryz.func281 rfl rfl (by kernel_rfl) (Nat.le_of_ble_eq_true rfl) (.int _ _) fun h nx hnx => ?_
  show goC ctx _ _ (.fin (RetP _ _ _ _ _))
  try simp [-List.map_take, -List.map_drop, -List.map_tail, run_guard, run_guardD, resultsA, resA, Nat.add_assoc, afsV, afsAt]
  repeat'
    first
    | done
    | ((first
        | ((with_reducible show doCall _ _ _ 305 _ _); refine call_pcB (c_IndexFunc_After (q := fun y => y.han == x) (fv := .fn 351 [.vptr (hanC x)]) (fun x _ => c_afsAt1)) (by first | exact .bool _ | exact .int _ _ | exact .str _) (by repeat' first | exact Bors.nil | refine Bors.cons ?_ ?_ | exact Bor.same _ | refine Bor.fn1 ?_ | refine Bor.bnd1 ?_ | refine Bor.agg1 ?_ | refine Bor.ptr0 (by first | (simp; done) | (simp; rfl) | assumption | (simp [*]; done)) ?_ | refine Bor.ref0 (by first | (simp; done) | (simp; rfl) | (simp [iv, bv]; done)) (by simp) (by simp)) ?_)) <;> simp [-List.map_take, -List.map_drop, -List.map_tail, run_guard, run_guardD, resultsA, resA, Nat.add_assoc, afsV, afsAt])
-- (impl.World).isTimer
theorem c_isTimer {F : Nat → Bool} {w : Wld} {t : Tmr} : PC ctx.P 168 [.agg (wldV F w), .agg (tmrC t)] (.bool (isTimer w t)) := by
  refine PC.of okC Tryz.func168 rfl rfl (by kernel_rfl) (Nat.le_of_ble_eq_true rfl) (.bool _) fun h nx hnx => ?_
  show goC ctx _ _ (.fin (RetP _ _ _ _ _))
  try simp [-List.map_take, -List.map_drop, -List.map_tail, run_guard, run_guardD, resultsA, resA, Nat.add_assoc, wldV, tmrC]
  repeat'
    first
    | done
    | ((first
        | ((with_reducible show doCall _ _ _ 172 _ _); refine call_pc (c_isIn_Node) ?_)
        | ((with_reducible show doCall _ _ _ 275 _ _); refine call_pc (c_isIn_Task) ?_)) <;> simp [-List.map_take, -List.map_drop, -List.map_tail, run_guard, run_guardD, resultsA, resA, Nat.add_assoc, wldV, tmrC])
    | ((first | (with_reducible refine condS_split ?_ ?_)) <;> intro qb <;> (have qp := qb; try simp only [psq] at qp) <;> simp [-List.map_take, -List.map_drop, -List.map_tail, run_guard, run_guardD, resultsA, resA, Nat.add_assoc, wldV, tmrC, qb])
  all_goals (try clear hnx)
  all_goals first | (simp_all [isTimer]; done) | (simp_all [isTimer]; omega) | (rw [Bool.eq_iff_iff]; simp_all [isTimer]; done) | (rw [Bool.eq_iff_iff]; simp_all [isTimer]; omega) | omega | (simp only [isTimer]; grind) | grind
-- (impl.World).isSight
theorem c_isSight {F : Nat → Bool} {w : Wld} {s : Sgt} : PC ctx.P 179 [.agg (wldV F w), .agg (sgtC s)] (.bool (isSight w s)) := by
  refine PC.of okC Tryz.func179 rfl rfl (by kernel_rfl) (Nat.le_of_ble_eq_true rfl) (.bool _) fun h nx hnx => ?_
  show goC ctx _ _ (.fin (RetP _ _ _ _ _))
  try simp [-List.map_take, -List.map_drop, -List.map_tail, run_guard, run_guardD, resultsA, resA, Nat.add_assoc, wldV, sgtC]
  repeat'
    first
    | done
    | ((first
        | ((with_reducible show doCall _ _ _ 172 _ _); refine call_pc (c_isIn_Node) ?_)
        | ((with_reducible show doCall _ _ _ 165 _ _); refine call_pc (c_within) ?_)
        | ((with_reducible show doCall _ _ _ 296 _ _); refine call_pc (c_size_Event) ?_)
        | (with_reducible refine go_draw (i := 1) [(0, [], []), (1, [], []), (2, [], []), (3, [], []), (4, [], []), (5, [], []), (6, [], []), (7, [], []), (8, [], []), (9, [], []), (10, [], []), (11, [.tmp 12], []), (12, [], []), (13, [], []), (14, [], [])] (by kernel_rfl) ?_)) <;> simp [-List.map_take, -List.map_drop, -List.map_tail, run_guard, run_guardD, resultsA, resA, Nat.add_assoc, wldV, sgtC])
    | ((first | (with_reducible refine guardD_split ?_ ?_) | (with_reducible refine guardS_split ?_ ?_) | (with_reducible refine condS_split ?_ ?_)) <;> intro qb <;> (have qp := qb; try simp only [psq] at qp) <;> simp [-List.map_take, -List.map_drop, -List.map_tail, run_guard, run_guardD, resultsA, resA, Nat.add_assoc, wldV, sgtC, qb])
  all_goals (try clear hnx)
  all_goals first | (simp_all [isSight]; done) | (simp_all [isSight]; omega) | (rw [Bool.eq_iff_iff]; simp_all [isSight]; done) | (rw [Bool.eq_iff_iff]; simp_all [isSight]; omega) | omega | (simp only [isSight]; grind) | grind
-- (impl.World).isTask
theorem c_isTask {F : Nat → Bool} {w : Wld} {t : Tsk} : PC ctx.P 175 [.agg (wldV F w), .agg (tskC t)] (.bool (isTask w t)) := by
  refine PC.lim (n := w.groups.length) (x := .agg (wldV F w)) (by simp) (.agg (x := .view (F 12) 5 (w.groups.map (grpV (F 13)))) (by simp [wldV]) (.here (by simp))) ⟨_, Tryz.func175, by kernel_rfl, by kernel_rfl⟩ fun hlim => ?_
  refine PC.of okC Tryz.func175 rfl rfl (by kernel_rfl) (Nat.le_of_ble_eq_true rfl) (.bool _) fun h nx hnx => ?_
  show goC ctx _ _ (.fin (RetP _ _ _ _ _))
  try simp [-List.map_take, -List.map_drop, -List.map_tail, run_guard, run_guardD, resultsA, resA, Nat.add_assoc, wldV, tskC, prgV, wrap_pred hlim]
  repeat'
    first
    | done
    | ((first
        | ((with_reducible show iaddrS _ _ _ _ _ _ _); refine iaddr_map rfl omA omA ?_)
        | ((with_reducible show doCall _ _ _ 287 _ _); refine call_pc (c_isIn_Prog) ?_)
        | ((with_reducible show doCall _ _ _ 79 _ _); refine call_pc (c_size_Ins) ?_)
        | ((with_reducible show doCall _ _ _ 288 _ _); refine call_pc (c_size_Group) ?_)
        | ((with_reducible show doCall _ _ _ 165 _ _); refine call_pc (c_within) ?_)
        | ((with_reducible show doCall _ _ _ 172 _ _); refine call_pc (c_isIn_Node) ?_)
        | ((with_reducible show doCall _ _ _ 289 _ _); refine call_pc (c_isIn_Group) ?_)
        | (with_reducible refine go_draw (i := 1) [(0, [], []), (1, [], []), (2, [], []), (3, [], []), (4, [], []), (5, [], []), (6, [], []), (7, [], []), (8, [], []), (9, [], []), (10, [], []), (11, [], []), (12, [], []), (13, [], []), (14, [], []), (15, [.tmp 12], []), (16, [], []), (17, [], []), (18, [], []), (19, [], []), (20, [], []), (21, [], []), (22, [], []), (23, [.tmp 24], []), (24, [], []), (25, [], []), (26, [], []), (27, [], [])] (by kernel_rfl) ?_)) <;> simp [-List.map_take, -List.map_drop, -List.map_tail, run_guard, run_guardD, resultsA, resA, Nat.add_assoc, wldV, tskC, prgV, wrap_pred hlim])
    | ((first | (with_reducible refine guardD_split ?_ ?_) | (with_reducible refine condS_split ?_ ?_)) <;> intro qb <;> (have qp := qb; try simp only [psq] at qp) <;> simp [-List.map_take, -List.map_drop, -List.map_tail, run_guard, run_guardD, resultsA, resA, Nat.add_assoc, wldV, tskC, prgV, wrap_pred hlim, qb])
  all_goals (try clear hnx)
  all_goals first | (simp_all [isTask]; done) | (simp_all [isTask]; omega) | (rw [Bool.eq_iff_iff]; simp_all [isTask]; done) | (rw [Bool.eq_iff_iff]; simp_all [isTask]; omega) | omega | (simp only [isTask]; grind) | grind
-- (impl.World).isGroup$1
theorem c_isGroup1 {F : Nat → Bool} {w : Wld} {n : Int} : PC ctx.P 293 [.int .i64 n, .vptr (wldV F w)] (.bool (!isIn n w.tasks)) := by
  refine PC.of okC Tryz.func293 rfl rfl (by kernel_rfl) (Nat.le_of_ble_eq_true rfl) (.bool _) fun h nx hnx => ?_
  show goC ctx _ _ (.fin (RetP _ _ _ _ _))
  try simp [-List.map_take, -List.map_drop, -List.map_tail, run_guard, run_guardD, resultsA, resA, Nat.add_assoc, wldV]
  repeat'
    first
    | done
    | ((first
        | ((with_reducible show doCall _ _ _ 275 _ _); refine call_pc (c_isIn_Task) ?_)) <;> simp [-List.map_take, -List.map_drop, -List.map_tail, run_guard, run_guardD, resultsA, resA, Nat.add_assoc, wldV])
-- impl.WorldOk$1
theorem c_WorldOk1 {F : Nat → Bool} {w : Wld} {e : Evt} : PC ctx.P 164 [.agg (evtC e), .vptr (wldV F w)] (.bool (inR e.time 0 w.now)) := by
  refine PC.of okC Tryz.func164 rfl rfl (by kernel_rfl) (Nat.le_of_ble_eq_true rfl) (.bool _) fun h nx hnx => ?_
  show goC ctx _ _ (.fin (RetP _ _ _ _ _))
  try simp [-List.map_take, -List.map_drop, -List.map_tail, run_guard, run_guardD, resultsA, resA, Nat.add_assoc, wldV, evtC]
  repeat'
    first
    | done
    | ((first
        | ((with_reducible show doCall _ _ _ 165 _ _); refine call_pc (c_within) ?_)) <;> simp [-List.map_take, -List.map_drop, -List.map_tail, run_guard, run_guardD, resultsA, resA, Nat.add_assoc, wldV, evtC])
-- impl.WorldOk$2
theorem c_WorldOk2 {F : Nat → Bool} {w : Wld} {x : Afr} : PC ctx.P 171 [.agg (afrC x), .vptr (wldV F w)] (.bool (isIn x.node w.tree)) := by
  refine PC.of okC Tryz.func171 rfl rfl (by kernel_rfl) (Nat.le_of_ble_eq_true rfl) (.bool _) fun h nx hnx => ?_
  show goC ctx _ _ (.fin (RetP _ _ _ _ _))
  try simp [-List.map_take, -List.map_drop, -List.map_tail, run_guard, run_guardD, resultsA, resA, Nat.add_assoc, wldV, afrC]
  repeat'
    first
    | done
    | ((first
        | ((with_reducible show doCall _ _ _ 172 _ _); refine call_pc (c_isIn_Node) ?_)) <;> simp [-List.map_take, -List.map_drop, -List.map_tail, run_guard, run_guardD, resultsA, resA, Nat.add_assoc, wldV, afrC])
-- impl.WorldOk$3
theorem c_WorldOk3 {n : Int} : PC ctx.P 181 [.int .i64 n] (.bool (inR n 0 99)) := by
  refine PC.of okC Tryz.func181 rfl rfl (by kernel_rfl) (Nat.le_of_ble_eq_true rfl) (.bool _) fun h nx hnx => ?_
  show goC ctx _ _ (.fin (RetP _ _ _ _ _))
  try simp [-List.map_take, -List.map_drop, -List.map_tail, run_guard, run_guardD, resultsA, resA, Nat.add_assoc]
  repeat'
    first
    | done
    | ((first
        | ((with_reducible show doCall _ _ _ 165 _ _); refine call_pc (c_within) ?_)) <;> simp [-List.map_take, -List.map_drop, -List.map_tail, run_guard, run_guardD, resultsA, resA, Nat.add_assoc])
-- impl.WorldOk$4
theorem c_WorldOk4 {n : Int} : PC ctx.P 182 [.int .i64 n] (.bool (inR n 0 99)) := by
  refine PC.of okC Tryz.func182 rfl rfl (by kernel_rfl) (Nat.le_of_ble_eq_true rfl) (.bool _) fun h nx hnx => ?_
  show goC ctx _ _ (.fin (RetP _ _ _ _ _))
  try simp [-List.map_take, -List.map_drop, -List.map_tail, run_guard, run_guardD, resultsA, resA, Nat.add_assoc]
  repeat'
    first
    | done
    | ((first
        | ((with_reducible show doCall _ _ _ 165 _ _); refine call_pc (c_within) ?_)) <;> simp [-List.map_take, -List.map_drop, -List.map_tail, run_guard, run_guardD, resultsA, resA, Nat.add_assoc])
end Go.AE.Tryz
end

section
/- Contracts of the program's readers: timers, chains, events. -/
set_option linter.unusedSimpArgs false
set_option linter.unusedVariables false
set_option maxRecDepth 8000
set_option maxHeartbeats 2000000
namespace Go.AE.Tryz
open Go.Proofs

-- impl.TimersOk
theorem c_TimersOk {F : Nat → Bool} {t : Tms} : PC ctx.P 166 [.agg (tmsV F t)] (.bool (tmsOk t)) := by
  refine PC.lim (n := t.list.length) (x := .agg (tmsV F t)) (by simp) (.agg (x := .view (F 7) 5 (t.list.map tmrC)) (by simp [tmsV]) (.here (by simp))) ⟨_, Tryz.func166, by kernel_rfl, by kernel_rfl⟩ fun hlim => ?_
  refine PC.of okC Tryz.func166 rfl rfl (by kernel_rfl) (Nat.le_of_ble_eq_true rfl) (.bool _) fun h nx hnx => ?_
  show goC ctx _ _ (.fin (RetP _ _ _ _ _))
  try simp [-List.map_take, -List.map_drop, -List.map_tail, run_guard, run_guardD, resultsA, resA, Nat.add_assoc, tmsV]
  repeat'
    first
    | done
    | ((first
        | ((with_reducible show lenS _ _ _ _ _ _); refine lenS_slice rfl fun _ => ?_)
        | ((with_reducible show iaddrS _ _ _ _ _ _ _); refine iaddr_map rfl omA omA ?_)
        | ((with_reducible show doCall _ _ _ 165 _ _); refine call_pc (c_within) ?_)
        | ((with_reducible show doCall _ _ _ 270 _ _); refine call_pc (c_HeapOk) ?_)) <;> simp [-List.map_take, -List.map_drop, -List.map_tail, run_guard, run_guardD, resultsA, resA, Nat.add_assoc, tmsV])
    | ((first | (with_reducible refine guardS_split ?_ ?_) | (with_reducible refine condS_split ?_ ?_)) <;> intro qb <;> (have qp := qb; try simp only [psq] at qp) <;> simp [-List.map_take, -List.map_drop, -List.map_tail, run_guard, run_guardD, resultsA, resA, Nat.add_assoc, tmsV, qb])
  · all_goals (try clear hnx)
    all_goals first | (simp_all [tmsOk]; done) | (simp_all [tmsOk]; omega) | (rw [Bool.eq_iff_iff]; simp_all [tmsOk]; done) | (rw [Bool.eq_iff_iff]; simp_all [tmsOk]; omega) | omega | (simp only [tmsOk]; grind) | grind
  · all_goals (try clear hnx)
    all_goals first | (simp_all [tmsOk]; done) | (simp_all [tmsOk]; omega) | (rw [Bool.eq_iff_iff]; simp_all [tmsOk]; done) | (rw [Bool.eq_iff_iff]; simp_all [tmsOk]; omega) | omega | (simp only [tmsOk]; grind) | grind
  · all_goals (try clear hnx)
    all_goals first | (simp_all [tmsOk]; done) | (simp_all [tmsOk]; omega) | (rw [Bool.eq_iff_iff]; simp_all [tmsOk]; done) | (rw [Bool.eq_iff_iff]; simp_all [tmsOk]; omega) | omega | (simp only [tmsOk]; grind) | grind
  · refine go_upP [2, 3, 4, 6, 26, 27, 28, 29, 30, 31, 32, 33, 34, 35, 36, 37, 38, 39, 40, 41, 42, 43, 44, 45, 46, 47, 48, 49, 50, 51, 52, 53, 54, 55, 56, 57, 58, 59] (t.list.length) (fun (i : Nat) a => [(26, .int .i64 i), (3, .int .i64 a.1), (4, .int .i64 a.2)]) (fun i_ a_ h_ _ => (fun i (a : Int × Int) _ => tmsRise t.next (t.list.drop i) a.1 = tmsRise t.next t.list (-1) ∧ a.2 + cntB (·.armed) (t.list.drop i) = cntB (·.armed) t.list ∧ 0 ≤ a.2 ∧ a.2 ≤ i) i_ a_ h_) ((-1, 0)) (by simp) ?_ keep_rfl (Nat.le_refl _) ?_
    · simp
    · intro i a tm h' n' hle hJ hE hn' next hnx
      try dsimp only at hJ
      have hK : KeepB nx h' h := KeepB.sub hE keepA (by omega)
      simp [-List.map_take, -List.map_drop, -List.map_tail]
      have e1 : h' (nx) = some (.obj (tmsV F t)) := by have := hE (nx) (by omega); simpa [tmsV] using this
      have e1n : ∀ k, ((nx) = n' + k) = False := fun k => by simp only [eq_iff_iff, iff_false]; omega
      have e1m : ((nx) = n') = False := by simp only [eq_iff_iff, iff_false]; omega
      try simp [-List.map_take, -List.map_drop, -List.map_tail, run_guard, run_guardD, resultsA, resA, Nat.add_assoc, tmsV, tmrC, e1, e1n, e1m]
      repeat'
        first
        | done
        | ((first
            | ((with_reducible show lenS _ _ _ _ _ _); refine lenS_slice rfl fun _ => ?_)
            | ((with_reducible show iaddrS _ _ _ _ _ _ _); refine iaddr_map rfl omA omA ?_)
            | ((with_reducible show doCall _ _ _ 165 _ _); refine call_pc (c_within) ?_)
            | ((with_reducible show doCall _ _ _ 271 _ _); refine call_pcB (c_ContainsFunc_Twig (q := fun h => decide (tmsAt t.list h.seq < 0) || (!(gt t.list (tmsAt t.list h.seq)).armed || (gt t.list (tmsAt t.list h.seq)).due != h.due)) (fv := .fn 272 [.vptr (tmsV F t)]) (fun x _ => c_TimersOk1)) (by first | exact .bool _ | exact .int _ _ | exact .str _) (by repeat' first | exact Bors.nil | refine Bors.cons ?_ ?_ | exact Bor.same _ | refine Bor.fn1 ?_ | refine Bor.bnd1 ?_ | refine Bor.agg1 ?_ | refine Bor.ptr0 (by first | (simp; done) | (simp; rfl) | assumption | (simp [*]; done)) ?_ | refine Bor.ref0 (by first | (simp; done) | (simp; rfl) | (simp [iv, bv]; done)) (by simp) (by simp)) ?_)) <;> simp [-List.map_take, -List.map_drop, -List.map_tail, run_guard, run_guardD, resultsA, resA, Nat.add_assoc, tmsV, tmrC, e1, e1n, e1m])
        | ((first | (with_reducible refine guardS_split ?_ ?_) | (with_reducible refine condS_split ?_ ?_)) <;> intro qb <;> (have qp := qb; try simp only [psq] at qp) <;> simp [-List.map_take, -List.map_drop, -List.map_tail, run_guard, run_guardD, resultsA, resA, Nat.add_assoc, tmsV, tmrC, e1, e1n, e1m, qb])
      all_goals
        first
        | (have hlt : i < t.list.length := (by omega)
           rw [drop_gt hlt] at hJ
           first
           | (refine ⟨?_, keepA⟩; clear hnx; (try simp only [tmsRise, tmsOk, cntB_cons, cntB_nil] at hJ ⊢); grind)
           | skip)
        | skip
      · simp only [LIM] at hlim
        refine hnx.go ((gt t.list (i : Int)).seq, a.2 + 1) ?_ ?_ ?_ ?_ ?_ ?_
        · omega
        · simp [i64_ok (x := (i : Int) + 1) (by omega), i64_ok (x := a.2 + 1) (by omega)]
        · simp
        · exact keepA
        · first | omega | (simp; omega)
        dsimp only
        simp only [tmsRise, cntB_cons] at hJ
        grind
      · simp only [LIM] at hlim
        refine hnx.go ((gt t.list (i : Int)).seq, a.2) ?_ ?_ ?_ ?_ ?_ ?_
        · omega
        · simp [i64_ok (x := (i : Int) + 1) (by omega)]
        · simp
        · exact keepA
        · first | omega | (simp; omega)
        dsimp only
        simp only [tmsRise, cntB_cons] at hJ
        grind
      all_goals
        obtain rfl : i = t.list.length := (by omega)
        refine ⟨?_, keepA⟩
        simp only [List.drop_length, tmsRise, tmsOk, cntB_nil] at hJ ⊢
        grind
-- impl.chain
theorem c_chain {p : Bool} {t : List Nod} {n : Int} (ht : treeOk t = true) (h0 : 0 ≤ n) (h1 : n < t.length) : PC ctx.P 198 [.view p 5 (t.map nodC), .int .i64 n] (.view true 1 ((chain t n).map iv)) := by
  have hl60 := treeOk_len ht
  refine PC.of okC Tryz.func198 rfl rfl (by kernel_rfl) (Nat.le_of_ble_eq_true rfl) (.vmap iv_fz) fun h nx hnx => ?_
  show goC ctx _ _ (.fin (RetP _ _ _ _ _))
  try simp [-List.map_take, -List.map_drop, -List.map_tail, run_guard, run_guardD, resultsA, resA, Nat.add_assoc]
  repeat'
    first
    | done
    | ((first
        | ((with_reducible show iaddrS _ _ _ _ _ _ _); refine iaddr_map rfl omA omA ?_)
        | ((with_reducible show appS _ _ _ _ _ _ _ _); refine app_end rfl rfl (by decide) (by decide) (by first | (simp [-List.map_take, -List.map_drop, -List.map_tail, run_guard, run_guardD, resultsA, resA, Nat.add_assoc]; done) | (simp [-List.map_take, -List.map_drop, -List.map_tail, run_guard, run_guardD, resultsA, resA, Nat.add_assoc]; rfl)) (by first | (simp [-List.map_take, -List.map_drop, -List.map_tail, run_guard, run_guardD, resultsA, resA, Nat.add_assoc]; done) | (simp [-List.map_take, -List.map_drop, -List.map_tail, run_guard, run_guardD, resultsA, resA, Nat.add_assoc]; rfl)) (by first | (simp; done) | (simp; omega)) (by first | (simp only [MLIM, LIM] at *; simp; omega) | (simp only [MLIM]; simp; omega)) (by simp [iv, bv]) ?_)) <;> simp [-List.map_take, -List.map_drop, -List.map_tail, run_guard, run_guardD, resultsA, resA, Nat.add_assoc])
    | ((first | (with_reducible refine guardS_split ?_ ?_) | (with_reducible refine condS_split ?_ ?_)) <;> intro qb <;> (have qp := qb; try simp only [psq] at qp) <;> simp [-List.map_take, -List.map_drop, -List.map_tail, run_guard, run_guardD, resultsA, resA, Nat.add_assoc, qb])
  refine go_dnP (h0 := h) (nx0 := nx) [1, 5, 8, 9, 10, 11, 12, 13, 14, 15, 16, 17, 18, 19, 20, 21, 22, 23, 24, 25, 26, 27, 28, 29, 30] (fun a => [(1, .int .i64 a.1), (5, .ref a.2.2 1 0 (a.2.1.length + 1))]) (fun a => a.1.toNat) (fun (a : Int × List Int × Nat) h' n' => 0 ≤ a.1 ∧ a.1 < t.length ∧ nx ≤ a.2.2 ∧ h' a.2.2 = some (.row 1 ((a.2.1 ++ [a.1]).map iv)) ∧ a.2.1 ++ chain t a.1 = chain t n ∧ (a.2.1.length : Int) + a.1 ≤ n ∧ a.2.2 < n') ((n, [], nx + 2)) (by simp) ?_ keepA (by omega) ?_
  · simp [h0, h1, iv]
  · intro a tm h' n' hJ hE hn' next hnx
    try dsimp only at hJ
    have hK : KeepB nx h' h := KeepB.sub hE keepA (by omega)
    obtain ⟨m, pre, id⟩ := a
    obtain ⟨g0, g1, g2, g3, g4, g5, g6⟩ := hJ
    dsimp only at g0 g1 g2 g3 g4 g5 g6 ⊢
    have hs := chain_step ht g0 g1
    have hu := treeOk_up ht g0 g1
    have k1 : ∀ k, (id = n' + k) = False := fun k => by simp only [eq_iff_iff, iff_false]; omega
    try simp [-List.map_take, -List.map_drop, -List.map_tail, run_guard, run_guardD, resultsA, resA, Nat.add_assoc, nodC, g3, k1, iv]
    repeat'
      first
      | done
      | ((first
          | ((with_reducible show iaddrS _ _ _ _ _ _ _); refine iaddr_map rfl omA omA ?_)
          | ((with_reducible show appS _ _ _ _ _ _ _ _); refine app_end rfl rfl (by decide) (by decide) (by first | (simp [-List.map_take, -List.map_drop, -List.map_tail, run_guard, run_guardD, resultsA, resA, Nat.add_assoc, nodC, g3, k1, iv]; done) | (simp [-List.map_take, -List.map_drop, -List.map_tail, run_guard, run_guardD, resultsA, resA, Nat.add_assoc, nodC, g3, k1, iv]; rfl)) (by first | (simp [-List.map_take, -List.map_drop, -List.map_tail, run_guard, run_guardD, resultsA, resA, Nat.add_assoc, nodC, g3, k1, iv]; done) | (simp [-List.map_take, -List.map_drop, -List.map_tail, run_guard, run_guardD, resultsA, resA, Nat.add_assoc, nodC, g3, k1, iv]; rfl)) (by first | (simp; done) | (simp; omega)) (by first | (simp only [MLIM, LIM] at *; simp; omega) | (simp only [MLIM]; simp; omega)) (by simp [iv, bv]) ?_)) <;> simp [-List.map_take, -List.map_drop, -List.map_tail, run_guard, run_guardD, resultsA, resA, Nat.add_assoc, nodC, g3, k1, iv])
      | ((first | (with_reducible refine guardS_split ?_ ?_) | (with_reducible refine condS_split ?_ ?_)) <;> intro qb <;> (have qp := qb; try simp only [psq] at qp) <;> simp [-List.map_take, -List.map_drop, -List.map_tail, run_guard, run_guardD, resultsA, resA, Nat.add_assoc, nodC, g3, k1, iv, qb])
    · have hk : (gt t m).kind ≠ 0 := by omega
      have hu' := hu hk
      refine hnx.go ((gt t m).up, pre ++ [m], n' + 23) ?_ ?_ ?_ ?_ ?_ ?_
      · simp; omega
      · simp
      · simp
      · exact keepA
      · first | omega | (simp; omega)
      dsimp only
      refine ⟨by omega, by omega, by omega, by simp [iv], ?_, by simp; omega, by simp⟩
      rw [if_neg (by simp; omega)] at hs
      rw [← g4, hs]; simp
    all_goals
      refine ⟨?_, keepA⟩
      rw [if_pos (by simp; omega)] at hs
      rw [← g4, hs, List.take_of_length_le (by simp)]; simp [iv]

-- impl.firstOf
theorem c_firstOf {p q : Bool} {t : List Nod} {l : List Evt} {n : Int} (ht : treeOk t = true) (h0 : 0 ≤ n) (h1 : n < t.length) :
    PC ctx.P 91 [.view p 5 (t.map nodC), .view q 4 (l.map evtC), .int .i64 n] (.tup [.agg (evtC ((firstOf t l n).getD ⟨0, 0, 0, 0⟩)), .bool (firstOf t l n).isSome]) := by
  refine PC.lim (n := l.length) (x := .view q 4 (l.map evtC)) (by simp) (.here (by simp)) ⟨_, Tryz.func91, by kernel_rfl, by kernel_rfl⟩ fun hlim => ?_
  refine PC.of okC Tryz.func91 rfl rfl (by kernel_rfl) (Nat.le_of_ble_eq_true rfl) (.tup _ (by simp; exact .agg _ (evtC_fz _))) fun h nx hnx => ?_
  show goC ctx _ _ (.fin (RetP _ _ _ _ _))
  try simp [-List.map_take, -List.map_drop, -List.map_tail, run_guard, run_guardD, resultsA, resA, Nat.add_assoc]
  repeat'
    first
    | done
    | ((first
        | ((with_reducible show lenS _ _ _ _ _ _); refine lenS_slice rfl fun _ => ?_)
        | ((with_reducible show iaddrS _ _ _ _ _ _ _); refine iaddr_map rfl omA omA ?_)
        | ((with_reducible show doCall _ _ _ 198 _ _); refine call_pc (c_chain ht h0 h1) ?_)) <;> simp [-List.map_take, -List.map_drop, -List.map_tail, run_guard, run_guardD, resultsA, resA, Nat.add_assoc])
    | ((first | (with_reducible refine condS_split ?_ ?_)) <;> intro qb <;> (have qp := qb; try simp only [psq] at qp) <;> simp [-List.map_take, -List.map_drop, -List.map_tail, run_guard, run_guardD, resultsA, resA, Nat.add_assoc, qb])
  refine go_upP [7, 10, 16, 17, 18, 19, 20, 21, 22, 23, 24, 25] (l.length) (fun (i : Nat) a => [(16, .int .i64 i)]) (fun i_ a_ h_ _ => (fun i (_ : Unit) _ => (l.drop i).find? (fun e => (chain t n).contains e.node) = firstOf t l n) i_ a_ h_) (()) (by simp) ?_ keep_rfl (Nat.le_refl _) ?_
  · simp [firstOf]
  · intro i a tm h' n' hle hJ hE hn' next hnx
    try dsimp only at hJ
    have hK : KeepB nx h' h := KeepB.sub hE keepA (by omega)
    simp [-List.map_take, -List.map_drop, -List.map_tail]
    have e1 : h' (nx) = some (.obj [.int .i64 0, .int .i64 0, .int .i64 0, .int .i64 0]) := by have := hE (nx) (by omega); simpa using this
    have e1n : ∀ k, ((nx) = n' + k) = False := fun k => by simp only [eq_iff_iff, iff_false]; omega
    have e1m : ((nx) = n') = False := by simp only [eq_iff_iff, iff_false]; omega
    try simp [-List.map_take, -List.map_drop, -List.map_tail, run_guard, run_guardD, resultsA, resA, Nat.add_assoc, evtC, e1, e1n, e1m]
    repeat'
      first
      | done
      | ((first
          | ((with_reducible show lenS _ _ _ _ _ _); refine lenS_slice rfl fun _ => ?_)
          | ((with_reducible show iaddrS _ _ _ _ _ _ _); refine iaddr_map rfl omA omA ?_)
          | ((with_reducible show doCall _ _ _ 88 _ _); refine call_pc (c_Contains) ?_)) <;> simp [-List.map_take, -List.map_drop, -List.map_tail, run_guard, run_guardD, resultsA, resA, Nat.add_assoc, evtC, e1, e1n, e1m])
      | ((first | (with_reducible refine condS_split ?_ ?_)) <;> intro qb <;> (have qp := qb; try simp only [psq] at qp) <;> simp [-List.map_take, -List.map_drop, -List.map_tail, run_guard, run_guardD, resultsA, resA, Nat.add_assoc, evtC, e1, e1n, e1m, qb])
    · have hf : firstOf t l n = some (gt l i) := by rw [drop_gt (xs := l) (i := i) (by omega), List.find?_cons] at hJ; simpa [qp] using hJ.symm
      refine ⟨by simp [hf], keepA⟩
    · have hf : (l.drop (i + 1)).find? (fun e => (chain t n).contains e.node) = firstOf t l n := by rw [drop_gt (xs := l) (i := i) (by omega), List.find?_cons] at hJ; simpa [qp] using hJ
      refine hnx.go () ?_ ?_ ?_ ?_ ?_ ?_
      · omega
      · simp [wrap_succ (show i < l.length by omega) hlim]
      · simp
      · exact keepA
      · first | omega | (simp; omega)
      exact hf
    · have hf : firstOf t l n = none := by rw [← hJ, List.drop_eq_nil_of_le (by omega)]; rfl
      refine ⟨by simp [hf], keepA⟩

-- (impl.Event).fits
theorem c_fits {p q : Bool} {t : List Nod} {l : List Evt} {e : Evt} (ht : treeOk t = true) : PC ctx.P 267 [.agg (evtC e), .view p 5 (t.map nodC), .view q 4 (l.map evtC)] (.bool (fits t l e)) := by
  refine PC.lim (n := l.length) (x := .view q 4 (l.map evtC)) (by simp) (.here (by simp)) ⟨_, Tryz.func267, by kernel_rfl, by kernel_rfl⟩ fun hlim => ?_
  by_cases hev : isEvent t e = true
  · have hb : 0 ≤ e.node ∧ e.node < t.length := by
      unfold isEvent at hev; split at hev
      · cases hev
      · rename_i h2; simpa [isIn_true] using h2
    refine PC.of okC Tryz.func267 rfl rfl (by kernel_rfl) (Nat.le_of_ble_eq_true rfl) (.bool _) fun h nx hnx => ?_
    show goC ctx _ _ (.fin (RetP _ _ _ _ _))
    try simp [-List.map_take, -List.map_drop, -List.map_tail, run_guard, run_guardD, resultsA, resA, Nat.add_assoc, evtC, wrap_pred hlim, hev]
    repeat'
      first
      | done
      | ((first
          | ((with_reducible show lenS _ _ _ _ _ _); refine lenS_slice rfl fun _ => ?_)
          | ((with_reducible show iaddrS _ _ _ _ _ _ _); refine iaddr_map rfl omA omA ?_)
          | ((with_reducible show doCall _ _ _ 342 _ _); refine call_pc (c_isEvent (e := e)) ?_)
          | ((with_reducible show doCall _ _ _ 91 _ _); refine call_pc (c_firstOf ht hb.1 hb.2) ?_)
          | (with_reducible refine go_draw (i := 1) [(0, [], []), (1, [], []), (2, [], []), (3, [], []), (4, [], []), (5, [], []), (6, [], []), (7, [], []), (8, [], []), (9, [], []), (10, [], []), (11, [], []), (12, [], []), (13, [], []), (14, [], []), (15, [], []), (16, [], []), (17, [], []), (18, [], []), (19, [], []), (20, [], [])] (by kernel_rfl) ?_)) <;> simp [-List.map_take, -List.map_drop, -List.map_tail, run_guard, run_guardD, resultsA, resA, Nat.add_assoc, evtC, wrap_pred hlim, hev])
      | ((first | (with_reducible refine guardD_split ?_ ?_) | (with_reducible refine condS_split ?_ ?_)) <;> intro qb <;> (have qp := qb; try simp only [psq] at qp) <;> simp [-List.map_take, -List.map_drop, -List.map_tail, run_guard, run_guardD, resultsA, resA, Nat.add_assoc, evtC, wrap_pred hlim, hev, qb])
    all_goals (try clear hnx)
    all_goals first | (simp_all [fits]; done) | (simp_all [fits]; omega) | (rw [Bool.eq_iff_iff]; simp_all [fits]; done) | (rw [Bool.eq_iff_iff]; simp_all [fits]; omega) | omega | (simp only [fits]; grind) | grind
  · refine PC.of okC Tryz.func267 rfl rfl (by kernel_rfl) (Nat.le_of_ble_eq_true rfl) (.bool _) fun h nx hnx => ?_
    show goC ctx _ _ (.fin (RetP _ _ _ _ _))
    try simp [-List.map_take, -List.map_drop, -List.map_tail, run_guard, run_guardD, resultsA, resA, Nat.add_assoc, evtC, hev]
    repeat'
      first
      | done
      | ((first
          | ((with_reducible show lenS _ _ _ _ _ _); refine lenS_slice rfl fun _ => ?_)
          | ((with_reducible show iaddrS _ _ _ _ _ _ _); refine iaddr_map rfl omA omA ?_)
          | ((with_reducible show doCall _ _ _ 342 _ _); refine call_pc (c_isEvent (e := e)) ?_)
          | (with_reducible refine go_draw (i := 1) [(0, [], []), (1, [], []), (2, [], []), (3, [], []), (4, [], []), (5, [], []), (6, [], []), (7, [], []), (8, [], []), (9, [], []), (10, [], []), (11, [], []), (12, [], []), (13, [], []), (14, [], []), (15, [], []), (16, [], []), (17, [], []), (18, [], []), (19, [], []), (20, [], [])] (by kernel_rfl) ?_)) <;> simp [-List.map_take, -List.map_drop, -List.map_tail, run_guard, run_guardD, resultsA, resA, Nat.add_assoc, evtC, hev])
      | ((first | (with_reducible refine guardD_split ?_ ?_) | (with_reducible refine condS_split ?_ ?_)) <;> intro qb <;> (have qp := qb; try simp only [psq] at qp) <;> simp [-List.map_take, -List.map_drop, -List.map_tail, run_guard, run_guardD, resultsA, resA, Nat.add_assoc, evtC, hev, qb])
    all_goals (try clear hnx)
    all_goals first | (simp_all [fits]; done) | (simp_all [fits]; omega) | (rw [Bool.eq_iff_iff]; simp_all [fits]; done) | (rw [Bool.eq_iff_iff]; simp_all [fits]; omega) | omega | (simp only [fits]; grind) | grind
end Go.AE.Tryz
end

section
/- Contracts of the program's readers: events, worlds. -/
set_option linter.unusedSimpArgs false
set_option linter.unusedVariables false
set_option maxRecDepth 8000
set_option maxHeartbeats 2000000
namespace Go.AE.Tryz
open Go.Proofs

-- impl.EventsOk
theorem c_EventsOk {p q : Bool} {t : List Nod} {l : List Evt} : PC ctx.P 162 [.view p 5 (t.map nodC), .view q 4 (l.map evtC)] (.bool (eventsOk t l)) := by
  refine PC.lim (n := l.length) (x := .view q 4 (l.map evtC)) (by simp) (.here (by simp)) ⟨_, Tryz.func162, by kernel_rfl, by kernel_rfl⟩ fun hlim => ?_
  by_cases ht : treeOk t = true
  · refine PC.of okC Tryz.func162 rfl rfl (by kernel_rfl) (Nat.le_of_ble_eq_true rfl) (.bool _) fun h nx hnx => ?_
    show goC ctx _ _ (.fin (RetP _ _ _ _ _))
    try simp [-List.map_take, -List.map_drop, -List.map_tail, run_guard, run_guardD, resultsA, resA, Nat.add_assoc, ht]
    repeat'
      first
      | done
      | ((first
          | ((with_reducible show lenS _ _ _ _ _ _); refine lenS_slice rfl fun _ => ?_)
          | ((with_reducible show iaddrS _ _ _ _ _ _ _); refine iaddr_map rfl omA omA ?_)
          | ((with_reducible show sliceS _ _ _ _ _ _ _ _); refine slice_to rfl omA omA ?_)
          | ((with_reducible show sliceS _ _ _ _ _ _ _ _); refine slice_from rfl omA omA ?_)
          | ((with_reducible show sliceS _ _ _ _ _ _ _ _); refine slice_mid rfl omA omA omA ?_)
          | ((with_reducible show sliceI _ _ _ _ _ _ _ _ _ _ _); refine sliceI_to rfl omA omA ?_)
          | ((with_reducible show sliceI _ _ _ _ _ _ _ _ _ _ _); refine sliceI_from rfl omA omA ?_)
          | ((with_reducible show sliceI _ _ _ _ _ _ _ _ _ _ _); refine sliceI_mid rfl omA omA omA ?_)
          | ((with_reducible show doCall _ _ _ 266 _ _); refine call_pc (c_TreeOk) ?_)
          | (with_reducible refine go_draw (i := 6) [(0, [], []), (1, [], []), (2, [], []), (3, [], []), (4, [], []), (5, [], []), (6, [], [])] (by kernel_rfl) ?_)) <;> simp [-List.map_take, -List.map_drop, -List.map_tail, run_guard, run_guardD, resultsA, resA, Nat.add_assoc, ht])
      | ((first | (with_reducible refine condS_split ?_ ?_)) <;> intro qb <;> (have qp := qb; try simp only [psq] at qp) <;> simp [-List.map_take, -List.map_drop, -List.map_tail, run_guard, run_guardD, resultsA, resA, Nat.add_assoc, ht, qb])
    refine go_upP [4, 5, 6, 12, 13, 14, 15, 16, 17, 18, 19, 20, 21, 22, 23, 24] (l.length) (fun (i : Nat) a => [(12, .int .i64 i)]) (fun i_ a_ h_ _ => (fun i (_ : Unit) _ => allI (fun i e => fits t (l.take i.toNat) e) (l.drop i) i = allI (fun i e => fits t (l.take i.toNat) e) l 0) i_ a_ h_) (()) (by simp) ?_ keep_rfl (Nat.le_refl _) ?_
    · simp
    · intro i a tm h' n' hle hJ hE hn' next hnx
      try dsimp only at hJ
      have hK : KeepB nx h' h := KeepB.sub hE keepA (by omega)
      simp [-List.map_take, -List.map_drop, -List.map_tail]
      try simp [-List.map_take, -List.map_drop, -List.map_tail, run_guard, run_guardD, resultsA, resA, Nat.add_assoc]
      repeat'
        first
        | done
        | ((first
            | ((with_reducible show lenS _ _ _ _ _ _); refine lenS_slice rfl fun _ => ?_)
            | ((with_reducible show iaddrS _ _ _ _ _ _ _); refine iaddr_map rfl omA omA ?_)
            | ((with_reducible show sliceS _ _ _ _ _ _ _ _); refine slice_to rfl omA omA ?_)
            | ((with_reducible show sliceS _ _ _ _ _ _ _ _); refine slice_from rfl omA omA ?_)
            | ((with_reducible show sliceS _ _ _ _ _ _ _ _); refine slice_mid rfl omA omA omA ?_)
            | ((with_reducible show sliceI _ _ _ _ _ _ _ _ _ _ _); refine sliceI_to rfl omA omA ?_)
            | ((with_reducible show sliceI _ _ _ _ _ _ _ _ _ _ _); refine sliceI_from rfl omA omA ?_)
            | ((with_reducible show sliceI _ _ _ _ _ _ _ _ _ _ _); refine sliceI_mid rfl omA omA omA ?_)
            | ((with_reducible show doCall _ _ _ 267 _ _); refine call_pc (c_fits ht) ?_)
            | (with_reducible refine go_draw (i := 6) [(0, [], []), (1, [], []), (2, [], []), (3, [], []), (4, [], []), (5, [], []), (6, [], [])] (by kernel_rfl) ?_)) <;> simp [-List.map_take, -List.map_drop, -List.map_tail, run_guard, run_guardD, resultsA, resA, Nat.add_assoc])
        | ((first | (with_reducible refine condS_split ?_ ?_)) <;> intro qb <;> (have qp := qb; try simp only [psq] at qp) <;> simp [-List.map_take, -List.map_drop, -List.map_tail, run_guard, run_guardD, resultsA, resA, Nat.add_assoc, qb])
      all_goals
        first
        | (have hlt : i < l.length := (by first | omega | (simp at *; omega))
           rw [drop_gt hlt] at hJ
           first
           | (refine hnx.go (()) ?_ ?_ ?_ ?_ ?_ ?_; omega; (simp [wrap_succ hlt hlim]); (simp); exact keepA; (first | omega | (simp; omega)); (try dsimp only); clear hnx; first | ((try simp only [List.drop_length, Int.toNat_natCast, allI, eventsOk] at hJ ⊢); grind) | (simp_all [allI, eventsOk]; done) | (simp_all; omega))
           | (refine ⟨?_, keepA⟩; clear hnx; first | ((try simp only [List.drop_length, Int.toNat_natCast, allI, eventsOk] at hJ ⊢); grind) | (simp_all [allI, eventsOk]; done) | (simp_all; omega)))
        | (obtain rfl : i = l.length := (by first | omega | (simp at *; omega))
           refine ⟨?_, keepA⟩; clear hnx; first | ((try simp only [List.drop_length, Int.toNat_natCast, allI, eventsOk] at hJ ⊢); grind) | (simp_all [allI, eventsOk]; done) | (simp_all; omega))
  · refine PC.of okC Tryz.func162 rfl rfl (by kernel_rfl) (Nat.le_of_ble_eq_true rfl) (.bool _) fun h nx hnx => ?_
    show goC ctx _ _ (.fin (RetP _ _ _ _ _))
    try simp [-List.map_take, -List.map_drop, -List.map_tail, run_guard, run_guardD, resultsA, resA, Nat.add_assoc, ht]
    repeat'
      first
      | done
      | ((first
          | ((with_reducible show lenS _ _ _ _ _ _); refine lenS_slice rfl fun _ => ?_)
          | ((with_reducible show iaddrS _ _ _ _ _ _ _); refine iaddr_map rfl omA omA ?_)
          | ((with_reducible show sliceS _ _ _ _ _ _ _ _); refine slice_to rfl omA omA ?_)
          | ((with_reducible show sliceS _ _ _ _ _ _ _ _); refine slice_from rfl omA omA ?_)
          | ((with_reducible show sliceS _ _ _ _ _ _ _ _); refine slice_mid rfl omA omA omA ?_)
          | ((with_reducible show sliceI _ _ _ _ _ _ _ _ _ _ _); refine sliceI_to rfl omA omA ?_)
          | ((with_reducible show sliceI _ _ _ _ _ _ _ _ _ _ _); refine sliceI_from rfl omA omA ?_)
          | ((with_reducible show sliceI _ _ _ _ _ _ _ _ _ _ _); refine sliceI_mid rfl omA omA omA ?_)
          | ((with_reducible show doCall _ _ _ 266 _ _); refine call_pc (c_TreeOk) ?_)
          | (with_reducible refine go_draw (i := 6) [(0, [], []), (1, [], []), (2, [], []), (3, [], []), (4, [], []), (5, [], []), (6, [], [])] (by kernel_rfl) ?_)) <;> simp [-List.map_take, -List.map_drop, -List.map_tail, run_guard, run_guardD, resultsA, resA, Nat.add_assoc, ht])
      | ((first | (with_reducible refine condS_split ?_ ?_)) <;> intro qb <;> (have qp := qb; try simp only [psq] at qp) <;> simp [-List.map_take, -List.map_drop, -List.map_tail, run_guard, run_guardD, resultsA, resA, Nat.add_assoc, ht, qb])
    all_goals (try clear hnx)
    all_goals first | (simp_all [eventsOk]; done) | (simp_all [eventsOk]; omega) | (rw [Bool.eq_iff_iff]; simp_all [eventsOk]; done) | (rw [Bool.eq_iff_iff]; simp_all [eventsOk]; omega) | omega | (simp only [eventsOk]; grind) | grind
-- impl.AftersOk
theorem c_AftersOk {F : Nat → Bool} {x : Afs} : PC ctx.P 169 [.agg (afsV F x)] (.bool (afsOk x)) := by
  refine PC.lim (n := x.list.length) (x := .agg (afsV F x)) (by simp) (.agg (x := .view (F 10) 5 (x.list.map afrC)) (by simp [afsV]) (.here (by simp))) ⟨_, Tryz.func169, by kernel_rfl, by kernel_rfl⟩ fun hlim => ?_
  by_cases hs : sltOk x.slots = true
  · have hl : x.slots.used.length = x.slots.ages.length := by simp [sltOk] at hs; omega
    refine PC.of okC Tryz.func169 rfl rfl (by kernel_rfl) (Nat.le_of_ble_eq_true rfl) (.bool _) fun h nx hnx => ?_
    show goC ctx _ _ (.fin (RetP _ _ _ _ _))
    try simp [-List.map_take, -List.map_drop, -List.map_tail, run_guard, run_guardD, resultsA, resA, Nat.add_assoc, afsV, hs]
    repeat'
      first
      | done
      | ((first
          | ((with_reducible show lenS _ _ _ _ _ _); refine lenS_slice rfl fun _ => ?_)
          | ((with_reducible show iaddrS _ _ _ _ _ _ _); refine iaddr_map rfl omA omA ?_)
          | ((with_reducible show doCall _ _ _ 276 _ _); refine call_pc (c_SlotsOk (s := x.slots) (F := F)) ?_)
          | ((with_reducible show doCall _ _ _ 277 _ _); refine call_pc (c_size_After) ?_)
          | ((with_reducible show doCall _ _ _ 278 _ _); refine call_pc (c_used (s := x.slots) (F := F)) ?_)
          | (with_reducible refine go_draw (i := 1) [(0, [], []), (1, [], []), (2, [], []), (3, [], []), (4, [], []), (5, [], []), (6, [], []), (8, [], []), (9, [], []), (7, [.tmp 13], []), (10, [], []), (11, [], []), (12, [], [])] (by kernel_rfl) ?_)) <;> simp [-List.map_take, -List.map_drop, -List.map_tail, run_guard, run_guardD, resultsA, resA, Nat.add_assoc, afsV, hs])
      | ((first | (with_reducible refine guardD_split ?_ ?_) | (with_reducible refine guardS_split ?_ ?_) | (with_reducible refine condS_split ?_ ?_)) <;> intro qb <;> (have qp := qb; try simp only [psq] at qp) <;> simp [-List.map_take, -List.map_drop, -List.map_tail, run_guard, run_guardD, resultsA, resA, Nat.add_assoc, afsV, hs, qb])
    · simp only [afsOk]; grind
    · refine go_upP [2, 3, 4, 21, 22, 23, 24, 25, 26, 27, 28, 29, 30, 31, 32, 33, 34, 35, 36, 37, 38, 39, 40, 41, 42, 43, 44, 45, 46, 47, 48] (x.list.length) (fun (i : Nat) a => [(21, .int .i64 i)]) (fun i_ a_ h_ _ => (fun i (_ : Unit) _ => allI (fun i y => isAfter y.node y.fn && (sltHolds x.slots y.han && afsAt x.list y.han == i)) (x.list.drop i) i = allI (fun i y => isAfter y.node y.fn && (sltHolds x.slots y.han && afsAt x.list y.han == i)) x.list 0) i_ a_ h_) (()) (by simp) ?_ keep_rfl (Nat.le_refl _) ?_
      · simp
      · intro i a tm h' n' hle hJ hE hn' next hnx
        try dsimp only at hJ
        have hK : KeepB nx h' h := KeepB.sub hE keepA (by omega)
        simp [-List.map_take, -List.map_drop, -List.map_tail]
        have e1 : h' (nx) = some (.obj (afsV F x)) := by have := hE (nx) (by omega); simpa [afsV] using this
        have e1n : ∀ k, ((nx) = n' + k) = False := fun k => by simp only [eq_iff_iff, iff_false]; omega
        have e1m : ((nx) = n') = False := by simp only [eq_iff_iff, iff_false]; omega
        try simp [-List.map_take, -List.map_drop, -List.map_tail, run_guard, run_guardD, resultsA, resA, Nat.add_assoc, afsV, afrC, e1, e1n, e1m]
        repeat'
          first
          | done
          | ((first
              | ((with_reducible show lenS _ _ _ _ _ _); refine lenS_slice rfl fun _ => ?_)
              | ((with_reducible show iaddrS _ _ _ _ _ _ _); refine iaddr_map rfl omA omA ?_)
              | ((with_reducible show doCall _ _ _ 279 _ _); refine call_pc (c_isAfter) ?_)
              | ((with_reducible show doCall _ _ _ 280 _ _); refine call_pc (c_holds (s := x.slots) (F := F) (x := (gt x.list (i : Int)).han) hl) ?_)
              | ((with_reducible show doCall _ _ _ 281 _ _); refine call_pc (c_afsAt (a := x) (F := F) (x := (gt x.list (i : Int)).han)) ?_)
              | (with_reducible refine go_draw (i := 1) [(0, [], []), (1, [], []), (2, [], []), (3, [], []), (4, [], []), (5, [], []), (6, [], []), (8, [], []), (9, [], []), (7, [.tmp 13], []), (10, [], []), (11, [], []), (12, [], [])] (by kernel_rfl) ?_)) <;> simp [-List.map_take, -List.map_drop, -List.map_tail, run_guard, run_guardD, resultsA, resA, Nat.add_assoc, afsV, afrC, e1, e1n, e1m])
          | ((first | (with_reducible refine guardD_split ?_ ?_) | (with_reducible refine guardS_split ?_ ?_) | (with_reducible refine condS_split ?_ ?_)) <;> intro qb <;> (have qp := qb; try simp only [psq] at qp) <;> simp [-List.map_take, -List.map_drop, -List.map_tail, run_guard, run_guardD, resultsA, resA, Nat.add_assoc, afsV, afrC, e1, e1n, e1m, qb])
        all_goals
          first
          | (have hlt : i < x.list.length := (by first | omega | (simp at *; omega))
             rw [drop_gt hlt] at hJ
             first
             | (refine hnx.go (()) ?_ ?_ ?_ ?_ ?_ ?_; omega; (simp [wrap_succ hlt hlim]); (simp); exact keepA; (first | omega | (simp; omega)); (try dsimp only); clear hnx; first | ((try simp only [List.drop_length, Int.toNat_natCast, allI, afsOk] at hJ ⊢); grind) | (simp_all [allI, afsOk]; done) | (simp_all; omega))
             | (refine ⟨?_, keepA⟩; clear hnx; first | ((try simp only [List.drop_length, Int.toNat_natCast, allI, afsOk] at hJ ⊢); grind) | (simp_all [allI, afsOk]; done) | (simp_all; omega)))
          | (obtain rfl : i = x.list.length := (by first | omega | (simp at *; omega))
             refine ⟨?_, keepA⟩; clear hnx; first | ((try simp only [List.drop_length, Int.toNat_natCast, allI, afsOk] at hJ ⊢); grind) | (simp_all [allI, afsOk]; done) | (simp_all; omega))
  · refine PC.of okC Tryz.func169 rfl rfl (by kernel_rfl) (Nat.le_of_ble_eq_true rfl) (.bool _) fun h nx hnx => ?_
    show goC ctx _ _ (.fin (RetP _ _ _ _ _))
    try simp [-List.map_take, -List.map_drop, -List.map_tail, run_guard, run_guardD, resultsA, resA, Nat.add_assoc, afsV, hs]
    repeat'
      first
      | done
      | ((first
          | ((with_reducible show lenS _ _ _ _ _ _); refine lenS_slice rfl fun _ => ?_)
          | ((with_reducible show iaddrS _ _ _ _ _ _ _); refine iaddr_map rfl omA omA ?_)
          | ((with_reducible show doCall _ _ _ 276 _ _); refine call_pc (c_SlotsOk (s := x.slots) (F := F)) ?_)
          | (with_reducible refine go_draw (i := 1) [(0, [], []), (1, [], []), (2, [], []), (3, [], []), (4, [], []), (5, [], []), (6, [], []), (8, [], []), (9, [], []), (7, [.tmp 13], []), (10, [], []), (11, [], []), (12, [], [])] (by kernel_rfl) ?_)) <;> simp [-List.map_take, -List.map_drop, -List.map_tail, run_guard, run_guardD, resultsA, resA, Nat.add_assoc, afsV, hs])
      | ((first | (with_reducible refine guardD_split ?_ ?_) | (with_reducible refine guardS_split ?_ ?_) | (with_reducible refine condS_split ?_ ?_)) <;> intro qb <;> (have qp := qb; try simp only [psq] at qp) <;> simp [-List.map_take, -List.map_drop, -List.map_tail, run_guard, run_guardD, resultsA, resA, Nat.add_assoc, afsV, hs, qb])
    all_goals (try clear hnx)
    all_goals first | (simp_all [afsOk]; done) | (simp_all [afsOk]; omega) | (rw [Bool.eq_iff_iff]; simp_all [afsOk]; done) | (rw [Bool.eq_iff_iff]; simp_all [afsOk]; omega) | omega | (simp only [afsOk]; grind) | grind
-- impl.GroupOk
theorem c_GroupOk {p : Bool} {g : Grp} : PC ctx.P 292 [.agg (grpV p g)] (.bool (grpOk g)) := by
  refine PC.lim (n := g.waits.length) (x := .agg (grpV p g)) (by simp) (.agg (x := .view p 1 (g.waits.map iv)) (by simp [grpV]) (.here (by simp))) ⟨_, Tryz.func292, by kernel_rfl, by kernel_rfl⟩ fun hlim => ?_
  refine PC.of okC Tryz.func292 rfl rfl (by kernel_rfl) (Nat.le_of_ble_eq_true rfl) (.bool _) fun h nx hnx => ?_
  show goC ctx _ _ (.fin (RetP _ _ _ _ _))
  try simp [-List.map_take, -List.map_drop, -List.map_tail, run_guard, run_guardD, resultsA, resA, Nat.add_assoc, grpV]
  repeat'
    first
    | done
    | ((first
        | ((with_reducible show lenS _ _ _ _ _ _); refine lenS_slice rfl fun _ => ?_)
        | ((with_reducible show iaddrS _ _ _ _ _ _ _); refine iaddr_map rfl omA omA ?_)
        | ((with_reducible show sliceS _ _ _ _ _ _ _ _); refine slice_to rfl omA omA ?_)
        | ((with_reducible show sliceS _ _ _ _ _ _ _ _); refine slice_from rfl omA omA ?_)
        | ((with_reducible show sliceS _ _ _ _ _ _ _ _); refine slice_mid rfl omA omA omA ?_)
        | ((with_reducible show doCall _ _ _ 165 _ _); refine call_pc (c_within) ?_)) <;> simp [-List.map_take, -List.map_drop, -List.map_tail, run_guard, run_guardD, resultsA, resA, Nat.add_assoc, grpV])
    | ((first | (with_reducible refine guardS_split ?_ ?_) | (with_reducible refine condS_split ?_ ?_)) <;> intro qb <;> (have qp := qb; try simp only [psq] at qp) <;> simp [-List.map_take, -List.map_drop, -List.map_tail, run_guard, run_guardD, resultsA, resA, Nat.add_assoc, grpV, qb])
  all_goals first | (clear hnx; simp only [grpOk]; grind) | skip
  all_goals
    refine go_upP [2, 3, 4, 58, 59, 60, 61, 62, 63, 64, 65, 66, 67, 68, 69, 70, 71, 72, 73, 74] (g.waits.length) (fun (i : Nat) a => [(58, .int .i64 i)]) (fun i_ a_ h_ _ => (fun i (_ : Unit) _ => allI (fun i n => inR n 0 59 && !(g.waits.take i.toNat).contains n) (g.waits.drop i) i = allI (fun i n => inR n 0 59 && !(g.waits.take i.toNat).contains n) g.waits 0) i_ a_ h_) (()) (by simp) ?_ keep_rfl (Nat.le_refl _) ?_
    · simp
    · intro i a tm h' n' hle hJ hE hn' next hnx
      try dsimp only at hJ
      have hK : KeepB nx h' h := KeepB.sub hE keepA (by omega)
      simp [-List.map_take, -List.map_drop, -List.map_tail]
      have e1 : h' (nx) = some (.obj (grpV p g)) := by have := hE (nx) (by omega); simpa [grpV] using this
      have e1n : ∀ k, ((nx) = n' + k) = False := fun k => by simp only [eq_iff_iff, iff_false]; omega
      have e1m : ((nx) = n') = False := by simp only [eq_iff_iff, iff_false]; omega
      try simp [-List.map_take, -List.map_drop, -List.map_tail, run_guard, run_guardD, resultsA, resA, Nat.add_assoc, grpV, iv, e1, e1n, e1m]
      repeat'
        first
        | done
        | ((first
            | ((with_reducible show lenS _ _ _ _ _ _); refine lenS_slice rfl fun _ => ?_)
            | ((with_reducible show iaddrS _ _ _ _ _ _ _); refine iaddr_map rfl omA omA ?_)
            | ((with_reducible show sliceS _ _ _ _ _ _ _ _); refine slice_to rfl omA omA ?_)
            | ((with_reducible show sliceS _ _ _ _ _ _ _ _); refine slice_from rfl omA omA ?_)
            | ((with_reducible show sliceS _ _ _ _ _ _ _ _); refine slice_mid rfl omA omA omA ?_)
            | ((with_reducible show doCall _ _ _ 165 _ _); refine call_pc (c_within) ?_)
            | ((with_reducible show doCall _ _ _ 88 _ _); refine call_pc (c_Contains) ?_)) <;> simp [-List.map_take, -List.map_drop, -List.map_tail, run_guard, run_guardD, resultsA, resA, Nat.add_assoc, grpV, iv, e1, e1n, e1m])
        | ((first | (with_reducible refine guardS_split ?_ ?_) | (with_reducible refine condS_split ?_ ?_)) <;> intro qb <;> (have qp := qb; try simp only [psq] at qp) <;> simp [-List.map_take, -List.map_drop, -List.map_tail, run_guard, run_guardD, resultsA, resA, Nat.add_assoc, grpV, iv, e1, e1n, e1m, qb])
      all_goals
        first
        | (have hlt : i < g.waits.length := (by first | omega | (simp at *; omega))
           rw [drop_gt hlt] at hJ
           first
           | (refine hnx.go (()) ?_ ?_ ?_ ?_ ?_ ?_; omega; (simp [wrap_succ hlt hlim]); (simp); exact keepA; (first | omega | (simp; omega)); (try dsimp only); clear hnx; first | ((try simp only [List.drop_length, Int.toNat_natCast, allI, grpOk] at hJ ⊢); grind) | (simp_all [allI, grpOk]; done) | (simp_all; omega))
           | (refine ⟨?_, keepA⟩; clear hnx; first | ((try simp only [List.drop_length, Int.toNat_natCast, allI, grpOk] at hJ ⊢); grind) | (simp_all [allI, grpOk]; done) | (simp_all; omega)))
        | (obtain rfl : i = g.waits.length := (by first | omega | (simp at *; omega))
           refine ⟨?_, keepA⟩; clear hnx; first | ((try simp only [List.drop_length, Int.toNat_natCast, allI, grpOk] at hJ ⊢); grind) | (simp_all [allI, grpOk]; done) | (simp_all; omega))
end Go.AE.Tryz
end

section
/- Contracts of the program's readers: worlds. -/
set_option linter.unusedSimpArgs false
set_option linter.unusedVariables false
set_option maxRecDepth 8000
set_option maxHeartbeats 4000000
namespace Go.AE.Tryz
open Go.Proofs

-- (impl.World).isGroup
theorem c_isGroup {F : Nat → Bool} {p : Bool} {w : Wld} {g : Grp} : PC ctx.P 177 [.agg (wldV F w), .agg (grpV p g)] (.bool (isGroup w g)) := by
  refine PC.of okC Tryz.func177 rfl rfl (by kernel_rfl) (Nat.le_of_ble_eq_true rfl) (.bool _) fun h nx hnx => ?_
  show goC ctx _ _ (.fin (RetP _ _ _ _ _))
  try simp [-List.map_take, -List.map_drop, -List.map_tail, run_guard, run_guardD, resultsA, resA, Nat.add_assoc, wldV, nodC]
  repeat'
    first
    | done
    | ((first
        | ((with_reducible show iaddrS _ _ _ _ _ _ _); refine iaddr_map rfl omA omA ?_)
        | ((with_reducible show doCall _ _ _ 292 _ _); refine call_pc (c_GroupOk (g := g) (p := p)) ?_)
        | ((with_reducible show doCall _ _ _ 172 _ _); refine call_pc (c_isIn_Node) ?_)
        | ((with_reducible show doCall _ _ _ 268 _ _); refine call_pcB (c_ContainsFunc_int64 (q := fun i => !isIn i w.tasks) (fv := .fn 293 [.vptr (wldV F w)]) (fun x _ => c_isGroup1)) (by first | exact .bool _ | exact .int _ _ | exact .str _) (by repeat' first | exact Bors.nil | refine Bors.cons ?_ ?_ | exact Bor.same _ | refine Bor.fn1 ?_ | refine Bor.bnd1 ?_ | refine Bor.agg1 ?_ | refine Bor.ptr0 (by first | (simp; done) | (simp; rfl) | assumption | (simp [*]; done)) ?_ | refine Bor.ref0 (by first | (simp; done) | (simp; rfl) | (simp [iv, bv]; done)) (by simp) (by simp)) ?_)) <;> simp [-List.map_take, -List.map_drop, -List.map_tail, run_guard, run_guardD, resultsA, resA, Nat.add_assoc, wldV, nodC])
    | ((first | (with_reducible refine guardS_split ?_ ?_)) <;> intro qb <;> (have qp := qb; try simp only [psq] at qp) <;> simp [-List.map_take, -List.map_drop, -List.map_tail, run_guard, run_guardD, resultsA, resA, Nat.add_assoc, wldV, nodC, qb])
  all_goals (try clear hnx)
  all_goals first | (simp_all [isGroup]; done) | (simp_all [isGroup]; omega) | (rw [Bool.eq_iff_iff]; simp_all [isGroup]; done) | (rw [Bool.eq_iff_iff]; simp_all [isGroup]; omega) | omega | (simp only [isGroup]; grind) | grind
-- impl.WorldOk
theorem c_WorldOk {F : Nat → Bool} {w : Wld} : PC ctx.P 68 [.agg (wldV F w)] (.bool (wldOk w)) := by
  refine PC.of okC Tryz.func68 rfl rfl (by kernel_rfl) (Nat.le_of_ble_eq_true rfl) (.bool _) fun h nx hnx => ?_
  show goC ctx _ _ (.fin (RetP _ _ _ _ _))
  try simp [-List.map_take, -List.map_drop, -List.map_tail, run_guard, run_guardD, resultsA, resA, Nat.add_assoc, wldV]
  repeat'
    first
    | done
    | ((first
        | ((with_reducible show lenS _ _ _ _ _ _); refine lenS_slice rfl fun _ => ?_)
        | ((with_reducible show doCall _ _ _ 160 _ _); refine call_pc (c_all_Prog (q := progOk) (.fn _ _) (fun x _ => c_ProgOk)) ?_)
        | ((with_reducible show doCall _ _ _ 162 _ _); refine call_pc (c_EventsOk) ?_)
        | ((with_reducible show doCall _ _ _ 163 _ _); refine call_pc (c_isSpread (s := w.spread) (F := F)) ?_)
        | ((with_reducible show doCall _ _ _ 82 _ _); refine call_pcB (c_all_Event (q := fun e => inR e.time 0 w.now) (fv := .fn 164 [.vptr (wldV F w)]) (.fn _ _) (fun x _ => c_WorldOk1)) (by first | exact .bool _ | exact .int _ _ | exact .str _) (by repeat' first | exact Bors.nil | refine Bors.cons ?_ ?_ | exact Bor.same _ | refine Bor.fn1 ?_ | refine Bor.bnd1 ?_ | refine Bor.agg1 ?_ | refine Bor.ptr0 (by first | (simp; done) | (simp; rfl) | assumption | (simp [*]; done)) ?_ | refine Bor.ref0 (by first | (simp; done) | (simp; rfl) | (simp [iv, bv]; done)) (by simp) (by simp)) ?_)
        | ((with_reducible show doCall _ _ _ 166 _ _); refine call_pc (c_TimersOk (t := w.timers) (F := F)) ?_)
        | ((with_reducible show doCall _ _ _ 167 _ _); refine call_pc (c_all_Timer (q := isTimer w) (.bnd _ _) (fun x _ => c_isTimer (F := F))) ?_)
        | ((with_reducible show doCall _ _ _ 169 _ _); refine call_pc (c_AftersOk (x := w.afters) (F := F)) ?_)
        | ((with_reducible show doCall _ _ _ 170 _ _); refine call_pcB (c_all_After (q := fun a => isIn a.node w.tree) (fv := .fn 171 [.vptr (wldV F w)]) (.fn _ _) (fun x _ => c_WorldOk2)) (by first | exact .bool _ | exact .int _ _ | exact .str _) (by repeat' first | exact Bors.nil | refine Bors.cons ?_ ?_ | exact Bor.same _ | refine Bor.fn1 ?_ | refine Bor.bnd1 ?_ | refine Bor.agg1 ?_ | refine Bor.ptr0 (by first | (simp; done) | (simp; rfl) | assumption | (simp [*]; done)) ?_ | refine Bor.ref0 (by first | (simp; done) | (simp; rfl) | (simp [iv, bv]; done)) (by simp) (by simp)) ?_)
        | ((with_reducible show doCall _ _ _ 173 _ _); refine call_pc (c_TasksOk) ?_)
        | ((with_reducible show doCall _ _ _ 174 _ _); refine call_pc (c_all_Task (q := isTask w) (.bnd _ _) (fun x _ => c_isTask (F := F))) ?_)
        | ((with_reducible show doCall _ _ _ 176 _ _); refine call_pc (c_all_Group (q := isGroup w) (.bnd _ _) (fun x _ => c_isGroup (F := F))) ?_)
        | ((with_reducible show doCall _ _ _ 178 _ _); refine call_pc (c_all_Sight (q := isSight w) (.bnd _ _) (fun x _ => c_isSight (F := F))) ?_)
        | ((with_reducible show doCall _ _ _ 180 _ _); refine call_pc (c_all_int64 (q := fun n => inR n 0 99) (.fn _ _) (fun x _ => c_WorldOk3)) ?_)
        | ((with_reducible show doCall _ _ _ 180 _ _); refine call_pc (c_all_int64 (q := fun n => inR n 0 99) (.fn _ _) (fun x _ => c_WorldOk4)) ?_)) <;> simp [-List.map_take, -List.map_drop, -List.map_tail, run_guard, run_guardD, resultsA, resA, Nat.add_assoc, wldV])
    | ((first | (with_reducible refine guardS_split ?_ ?_) | (with_reducible refine condS_split ?_ ?_)) <;> intro qb <;> (have qp := qb; try simp only [psq] at qp) <;> simp [-List.map_take, -List.map_drop, -List.map_tail, run_guard, run_guardD, resultsA, resA, Nat.add_assoc, wldV, qb])
  all_goals (try clear hnx)
  all_goals first | (simp_all [wldOk]; done) | (simp_all [wldOk]; omega) | (rw [Bool.eq_iff_iff]; simp_all [wldOk]; done) | (rw [Bool.eq_iff_iff]; simp_all [wldOk]; omega) | omega | (simp only [wldOk]; grind) | grind
end Go.AE.Tryz
end

section
/- Contracts of the program's picks. -/
set_option linter.unusedSimpArgs false
set_option linter.unusedVariables false
set_option maxRecDepth 8000
set_option maxHeartbeats 4000000
namespace Go.AE.Tryz
open Go.Proofs

-- impl.ReadyIn
theorem c_ReadyIn {p : Bool} {l : List Tsk} (ht : tasksOk l = true) : PC ctx.P 203 [.view p 9 (l.map tskC)] (.view true 1 ((readyIn l).map iv)) := by
  refine PC.lim (n := l.length) (x := .view p 9 (l.map tskC)) (by simp) (.here (by simp)) ⟨_, Tryz.func203, by kernel_rfl, by kernel_rfl⟩ fun hlim => ?_
  have hl60 := tasksOk_len ht
  refine PC.of okC Tryz.func203 rfl rfl (by kernel_rfl) (Nat.le_of_ble_eq_true rfl) (.vmap iv_fz) fun h nx hnx => ?_
  show goC ctx _ _ (.fin (RetP _ _ _ _ _))
  try simp [-List.map_take, -List.map_drop, -List.map_tail, run_guard, run_guardD, resultsA, resA, Nat.add_assoc, ht]
  repeat'
    first
    | done
    | ((first
        | ((with_reducible show lenS _ _ _ _ _ _); refine lenS_slice rfl fun _ => ?_)
        | ((with_reducible show iaddrS _ _ _ _ _ _ _); refine iaddr_map rfl omA omA ?_)
        | ((with_reducible show doCall _ _ _ 173 _ _); refine call_pc (c_TasksOk) ?_)
        | ((with_reducible show appS _ _ _ _ _ _ _ _); refine app_end rfl rfl (by decide) (by decide) (by first | (simp [-List.map_take, -List.map_drop, -List.map_tail, run_guard, run_guardD, resultsA, resA, Nat.add_assoc, ht]; done) | (simp [-List.map_take, -List.map_drop, -List.map_tail, run_guard, run_guardD, resultsA, resA, Nat.add_assoc, ht]; rfl)) (by first | (simp [-List.map_take, -List.map_drop, -List.map_tail, run_guard, run_guardD, resultsA, resA, Nat.add_assoc, ht]; done) | (simp [-List.map_take, -List.map_drop, -List.map_tail, run_guard, run_guardD, resultsA, resA, Nat.add_assoc, ht]; rfl)) (by first | (simp; done) | (simp; omega)) (by first | (simp only [MLIM, LIM] at *; simp; omega) | (simp only [MLIM]; simp; omega)) (by simp [iv, bv]) ?_)) <;> simp [-List.map_take, -List.map_drop, -List.map_tail, run_guard, run_guardD, resultsA, resA, Nat.add_assoc, ht])
    | ((first | (with_reducible refine condS_split ?_ ?_)) <;> intro qb <;> (have qp := qb; try simp only [psq] at qp) <;> simp [-List.map_take, -List.map_drop, -List.map_tail, run_guard, run_guardD, resultsA, resA, Nat.add_assoc, ht, qb])
  refine go_upP (h0 := h) (nx0 := nx) [3, 4, 5, 12, 13, 14, 15, 16, 17, 18, 19, 20, 21, 22, 23, 24] (l.length) (fun (i : Nat) a => [(12, .int .i64 i), (3, .ref a.1 1 0 a.2.length)]) (fun (i : Nat) (a : Nat × List Int) h' n' => nx ≤ a.1 ∧ a.1 < n' ∧ h' a.1 = some (.row 1 (a.2.map iv)) ∧ a.2.length ≤ i ∧ a.2 ++ pickI (fun _ t => t.state == 0) (fun i _ => i) (l.drop i) i = readyIn l) ((nx + 4, [])) (by simp) ?_ keepA (by omega) ?_
  · simp [readyIn, iv]
  · intro i a tm h' n' hle hJ hE hn' next hnx
    try dsimp only at hJ
    have hK : KeepB nx h' h := KeepB.sub hE keepA (by omega)
    simp [-List.map_take, -List.map_drop, -List.map_tail]
    obtain ⟨id, acc⟩ := a
    obtain ⟨g0, g1, g2, g3, hJ⟩ := hJ
    dsimp only at g0 g1 g2 g3 hJ ⊢
    have k1 : ∀ k, (id = n' + k) = False := fun k => by simp only [eq_iff_iff, iff_false]; omega
    by_cases hi : i < l.length
    · have hn := ready_rest hi hJ
      try simp [-List.map_take, -List.map_drop, -List.map_tail, run_guard, run_guardD, resultsA, resA, Nat.add_assoc, tskC, iv, g2, k1, i64_ok (x := (i : Int)) (by omega)]
      repeat'
        first
        | done
        | ((first
            | ((with_reducible show lenS _ _ _ _ _ _); refine lenS_slice rfl fun _ => ?_)
            | ((with_reducible show iaddrS _ _ _ _ _ _ _); refine iaddr_map rfl omA omA ?_)
            | ((with_reducible show appS _ _ _ _ _ _ _ _); refine app_end rfl rfl (by decide) (by decide) (by first | (simp [-List.map_take, -List.map_drop, -List.map_tail, run_guard, run_guardD, resultsA, resA, Nat.add_assoc, tskC, iv, g2, k1, i64_ok (x := (i : Int)) (by omega)]; done) | (simp [-List.map_take, -List.map_drop, -List.map_tail, run_guard, run_guardD, resultsA, resA, Nat.add_assoc, tskC, iv, g2, k1, i64_ok (x := (i : Int)) (by omega)]; rfl)) (by first | (simp [-List.map_take, -List.map_drop, -List.map_tail, run_guard, run_guardD, resultsA, resA, Nat.add_assoc, tskC, iv, g2, k1, i64_ok (x := (i : Int)) (by omega)]; done) | (simp [-List.map_take, -List.map_drop, -List.map_tail, run_guard, run_guardD, resultsA, resA, Nat.add_assoc, tskC, iv, g2, k1, i64_ok (x := (i : Int)) (by omega)]; rfl)) (by first | (simp; done) | (simp; omega)) (by first | (simp only [MLIM, LIM] at *; simp; omega) | (simp only [MLIM]; simp; omega)) (by simp [iv, bv]) ?_)) <;> simp [-List.map_take, -List.map_drop, -List.map_tail, run_guard, run_guardD, resultsA, resA, Nat.add_assoc, tskC, iv, g2, k1, i64_ok (x := (i : Int)) (by omega)])
        | ((first | (with_reducible refine condS_split ?_ ?_)) <;> intro qb <;> (have qp := qb; try simp only [psq] at qp) <;> simp [-List.map_take, -List.map_drop, -List.map_tail, run_guard, run_guardD, resultsA, resA, Nat.add_assoc, tskC, iv, g2, k1, i64_ok (x := (i : Int)) (by omega), qb])
      all_goals first
      | (rw [if_pos (by assumption)] at hn
         refine hnx.go (n' + 13, acc ++ [(i : Int)]) (by omega) (by simp [wrap_succ hi hlim]) (by simp) keepA (by first | omega | (simp; omega)) ?_
         dsimp only
         exact ⟨by omega, by omega, by simp [iv], by simp; omega, hn⟩)
      | (rw [if_neg (by simp_all)] at hn
         refine hnx.go (id, acc) (by omega) (by simp [wrap_succ hi hlim]) (by simp) keepA (by first | omega | (simp; omega)) ?_
         dsimp only
         exact ⟨by omega, by omega, by simp [g2, k1], by omega, hn⟩)
      | omega
    · have hi2 : ¬ ((i : Int) < l.length) := by omega
      rw [List.drop_eq_nil_of_le (by omega), pickI_nil, List.append_nil] at hJ
      subst hJ
      try simp [-List.map_take, -List.map_drop, -List.map_tail, run_guard, run_guardD, resultsA, resA, Nat.add_assoc, iv, g2, k1, hi, hi2]
      repeat'
        first
        | done
        | ((first
            | ((with_reducible show lenS _ _ _ _ _ _); refine lenS_slice rfl fun _ => ?_)
            | ((with_reducible show iaddrS _ _ _ _ _ _ _); refine iaddr_map rfl omA omA ?_)
            | ((with_reducible show appS _ _ _ _ _ _ _ _); refine app_end rfl rfl (by decide) (by decide) (by first | (simp [-List.map_take, -List.map_drop, -List.map_tail, run_guard, run_guardD, resultsA, resA, Nat.add_assoc, iv, g2, k1, hi, hi2]; done) | (simp [-List.map_take, -List.map_drop, -List.map_tail, run_guard, run_guardD, resultsA, resA, Nat.add_assoc, iv, g2, k1, hi, hi2]; rfl)) (by first | (simp [-List.map_take, -List.map_drop, -List.map_tail, run_guard, run_guardD, resultsA, resA, Nat.add_assoc, iv, g2, k1, hi, hi2]; done) | (simp [-List.map_take, -List.map_drop, -List.map_tail, run_guard, run_guardD, resultsA, resA, Nat.add_assoc, iv, g2, k1, hi, hi2]; rfl)) (by first | (simp; done) | (simp; omega)) (by first | (simp only [MLIM, LIM] at *; simp; omega) | (simp only [MLIM]; simp; omega)) (by simp [iv, bv]) ?_)) <;> simp [-List.map_take, -List.map_drop, -List.map_tail, run_guard, run_guardD, resultsA, resA, Nat.add_assoc, iv, g2, k1, hi, hi2])
        | ((first | (with_reducible refine condS_split ?_ ?_)) <;> intro qb <;> (have qp := qb; try simp only [psq] at qp) <;> simp [-List.map_take, -List.map_drop, -List.map_tail, run_guard, run_guardD, resultsA, resA, Nat.add_assoc, iv, g2, k1, hi, hi2, qb])
      exact ⟨by rw [List.take_of_length_le (by simp)], keepA⟩
-- (impl.Timers).nextDue
theorem c_nextDue {F : Nat → Bool} {t : Tms} : PC ctx.P 204 [.agg (tmsV F t)] (.int .i64 (nextDue t)) := by
  refine PC.of okC Tryz.func204 rfl rfl (by kernel_rfl) (Nat.le_of_ble_eq_true rfl) (.int _ _) fun h nx hnx => ?_
  show goC ctx _ _ (.fin (RetP _ _ _ _ _))
  try simp [-List.map_take, -List.map_drop, -List.map_tail, run_guard, run_guardD, resultsA, resA, Nat.add_assoc, tmsV, twgC]
  repeat'
    first
    | done
    | ((first
        | ((with_reducible show lenS _ _ _ _ _ _); refine lenS_slice rfl fun _ => ?_)
        | ((with_reducible show iaddrS _ _ _ _ _ _ _); refine iaddr_map rfl omA omA ?_)) <;> simp [-List.map_take, -List.map_drop, -List.map_tail, run_guard, run_guardD, resultsA, resA, Nat.add_assoc, tmsV, twgC])
    | ((first | (with_reducible refine condS_split ?_ ?_)) <;> intro qb <;> (have qp := qb; try simp only [psq] at qp) <;> simp [-List.map_take, -List.map_drop, -List.map_tail, run_guard, run_guardD, resultsA, resA, Nat.add_assoc, tmsV, twgC, qb])
  all_goals (clear hnx; simp only [nextDue, never]; first | (rw [if_pos (by omega)]; done) | (rw [if_neg (by omega)]; done) | omega | (simp_all; omega))
-- (impl.World).enabled$1
theorem c_enabled1 {x : Afr} : PC ctx.P 206 [.agg (afrC x)] (.bool x.queued) := by
  refine PC.of okC Tryz.func206 rfl rfl (by kernel_rfl) (Nat.le_of_ble_eq_true rfl) (.bool _) fun h nx hnx => ?_
  show goC ctx _ _ (.fin (RetP _ _ _ _ _))
  try simp [-List.map_take, -List.map_drop, -List.map_tail, run_guard, run_guardD, resultsA, resA, Nat.add_assoc, afrC]
-- (impl.World).enabled
-- impl.CalmIn
end Go.AE.Tryz
end

section
/- Contracts of the program's picks as new rows. -/
set_option linter.unusedSimpArgs false
set_option linter.unusedVariables false
set_option maxRecDepth 8000
set_option maxHeartbeats 4000000
namespace Go.AE.Tryz
open Go.Proofs

-- (impl.World).enabled
theorem f_enabled {F : Nat → Bool} {w : Wld} (ht : tasksOk w.tasks = true) : FC ctx.P 93 [.agg (wldV F w)] (.ref 0 2 0 ((enabled w).map pikC).length) [.row 2 ((enabled w).map pikC)] := by
  have hl60 := tasksOk_len ht
  have hrl := readyIn_len w.tasks
  have hrl2 : (readyIn w.tasks).length ≤ LIM := by simp only [LIM]; omega
  refine FC.of1 okC Tryz.func93 rfl rfl (by kernel_rfl) (Nat.le_of_ble_eq_true rfl) (by decide) (fz_mapR pikC_fz (enabled w)) fun h nx hnx => ?_
  show goC ctx _ _ (.fin (Ret1 _ _ _ _ _ _))
  try simp [-List.map_take, -List.map_drop, -List.map_tail, run_guard, run_guardD, resultsA, resA, Nat.add_assoc, wldV]
  repeat'
    first
    | done
    | ((first
        | ((with_reducible show lenS _ _ _ _ _ _); refine lenS_slice rfl fun _ => ?_)
        | ((with_reducible show iaddrS _ _ _ _ _ _ _); refine iaddr_map rfl omA omA ?_)
        | ((with_reducible show doCall _ _ _ 203 _ _); refine call_pc (c_ReadyIn ht) ?_)
        | ((with_reducible show appS _ _ _ _ _ _ _ _); refine app_end rfl rfl (by decide) (by decide) (by first | (simp [-List.map_take, -List.map_drop, -List.map_tail, run_guard, run_guardD, resultsA, resA, Nat.add_assoc, wldV]; done) | (simp [-List.map_take, -List.map_drop, -List.map_tail, run_guard, run_guardD, resultsA, resA, Nat.add_assoc, wldV]; rfl)) (by first | (simp [-List.map_take, -List.map_drop, -List.map_tail, run_guard, run_guardD, resultsA, resA, Nat.add_assoc, wldV]; done) | (simp [-List.map_take, -List.map_drop, -List.map_tail, run_guard, run_guardD, resultsA, resA, Nat.add_assoc, wldV]; rfl)) (by first | (simp; done) | (simp; omega)) (by first | (simp only [MLIM, LIM] at *; simp; omega) | (simp only [MLIM]; simp; omega)) (by simp [iv, bv]) ?_)
        | (with_reducible refine go_draw (i := 7) [(0, [], []), (1, [], []), (2, [], []), (3, [], []), (4, [.tmp 21], []), (5, [], [])] (by kernel_rfl) ?_)) <;> simp [-List.map_take, -List.map_drop, -List.map_tail, run_guard, run_guardD, resultsA, resA, Nat.add_assoc, wldV])
    | ((first | (with_reducible refine condS_split ?_ ?_)) <;> intro qb <;> (have qp := qb; try simp only [psq] at qp) <;> simp [-List.map_take, -List.map_drop, -List.map_tail, run_guard, run_guardD, resultsA, resA, Nat.add_assoc, wldV, qb])
  refine go_upP (h0 := h) (nx0 := nx) [3, 5, 11, 12, 13, 14, 15, 16, 17, 18, 19, 20] ((readyIn w.tasks).length) (fun (i : Nat) a => [(11, .int .i64 i), (3, .ref a.1 2 0 a.2.length)]) (fun (i : Nat) (a : Nat × List Pik) h' n' => nx < a.1 ∧ a.1 < n' ∧ h' a.1 = some (.row 2 (a.2.map pikC)) ∧ a.2.length ≤ i ∧ h' nx = some (.obj (wldV F w)) ∧ a.2 ++ pkTasks ((readyIn w.tasks).drop i) = pkTasks (readyIn w.tasks)) ((nx + 2, [])) (by simp) ?_ keepA (by omega) ?_
  · simp [wldV]
  · intro i a tm h' n' hle hJ hE hn' next hnx
    try dsimp only at hJ
    have hK : KeepB nx h' h := KeepB.sub hE keepA (by omega)
    simp [-List.map_take, -List.map_drop, -List.map_tail]
    obtain ⟨id, acc⟩ := a
    obtain ⟨g0, g1, g2, g3, f1, hJ⟩ := hJ
    dsimp only at g0 g1 g2 g3 f1 hJ ⊢
    have k1 : ∀ k, (id = n' + k) = False := fun k => by simp only [eq_iff_iff, iff_false]; omega
    have k2 : ∀ k, (nx = n' + k) = False := fun k => by simp only [eq_iff_iff, iff_false]; omega
    have k3 : (nx = id) = False := by simp only [eq_iff_iff, iff_false]; omega
    by_cases hi : i < (readyIn w.tasks).length
    · try simp [-List.map_take, -List.map_drop, -List.map_tail, run_guard, run_guardD, resultsA, resA, Nat.add_assoc, iv, g2, k1]
      repeat'
        first
        | done
        | ((first
            | ((with_reducible show lenS _ _ _ _ _ _); refine lenS_slice rfl fun _ => ?_)
            | ((with_reducible show iaddrS _ _ _ _ _ _ _); refine iaddr_map rfl omA omA ?_)
            | ((with_reducible show appS _ _ _ _ _ _ _ _); refine app_end rfl rfl (by decide) (by decide) (by first | (simp [-List.map_take, -List.map_drop, -List.map_tail, run_guard, run_guardD, resultsA, resA, Nat.add_assoc, iv, g2, k1]; done) | (simp [-List.map_take, -List.map_drop, -List.map_tail, run_guard, run_guardD, resultsA, resA, Nat.add_assoc, iv, g2, k1]; rfl)) (by first | (simp [-List.map_take, -List.map_drop, -List.map_tail, run_guard, run_guardD, resultsA, resA, Nat.add_assoc, iv, g2, k1]; done) | (simp [-List.map_take, -List.map_drop, -List.map_tail, run_guard, run_guardD, resultsA, resA, Nat.add_assoc, iv, g2, k1]; rfl)) (by first | (simp; done) | (simp; omega)) (by first | (simp only [MLIM, LIM] at *; simp; omega) | (simp only [MLIM]; simp; omega)) (by simp [iv, bv]) ?_)
            | (with_reducible refine go_draw (i := 7) [(0, [], []), (1, [], []), (2, [], []), (3, [], []), (4, [.tmp 21], []), (5, [], [])] (by kernel_rfl) ?_)) <;> simp [-List.map_take, -List.map_drop, -List.map_tail, run_guard, run_guardD, resultsA, resA, Nat.add_assoc, iv, g2, k1])
        | ((first | (with_reducible refine condS_split ?_ ?_)) <;> intro qb <;> (have qp := qb; try simp only [psq] at qp) <;> simp [-List.map_take, -List.map_drop, -List.map_tail, run_guard, run_guardD, resultsA, resA, Nat.add_assoc, iv, g2, k1, qb])
      all_goals first
      | omega
      | (refine hnx.go (n' + 8, acc ++ [⟨1, gt (readyIn w.tasks) (i : Int)⟩]) (by omega) (by simp [wrap_succ hi hrl2]) (by simp) keepA (by first | omega | (simp; omega)) ?_
         dsimp only
         refine ⟨by omega, by omega, by simp [pikC], by simp; omega, by simp [k2, k3, f1], ?_⟩
         rw [drop_gt hi] at hJ
         rw [← hJ]; simp [pkTasks])
      | trace_state
    · have hi2 : ¬ ((i : Int) < (readyIn w.tasks).length) := by omega
      rw [List.drop_eq_nil_of_le (by omega)] at hJ
      have hacc : acc = pkTasks (readyIn w.tasks) := by rw [← hJ]; simp [pkTasks]
      have hal : acc.length ≤ 60 := by rw [hacc]; simp [pkTasks]; omega
      try simp [-List.map_take, -List.map_drop, -List.map_tail, run_guard, run_guardD, resultsA, resA, Nat.add_assoc, wldV, f1, g2, k1, k2, k3, hi, hi2]
      repeat'
        first
        | done
        | ((first
            | ((with_reducible show lenS _ _ _ _ _ _); refine lenS_slice rfl fun _ => ?_)
            | ((with_reducible show iaddrS _ _ _ _ _ _ _); refine iaddr_map rfl omA omA ?_)
            | ((with_reducible show doCall _ _ _ 204 _ _); refine call_pc (c_nextDue (t := w.timers) (F := F)) ?_)
            | ((with_reducible show doCall _ _ _ 84 _ _); refine call_pc (c_IsDue) ?_)
            | ((with_reducible show doCall _ _ _ 205 _ _); refine call_pc (c_ContainsFunc_After (q := fun x => x.queued) (fun x _ => c_enabled1)) ?_)
            | ((with_reducible show appS _ _ _ _ _ _ _ _); refine app_end rfl rfl (by decide) (by decide) (by first | (simp [-List.map_take, -List.map_drop, -List.map_tail, run_guard, run_guardD, resultsA, resA, Nat.add_assoc, wldV, f1, g2, k1, k2, k3, hi, hi2]; done) | (simp [-List.map_take, -List.map_drop, -List.map_tail, run_guard, run_guardD, resultsA, resA, Nat.add_assoc, wldV, f1, g2, k1, k2, k3, hi, hi2]; rfl)) (by first | (simp [-List.map_take, -List.map_drop, -List.map_tail, run_guard, run_guardD, resultsA, resA, Nat.add_assoc, wldV, f1, g2, k1, k2, k3, hi, hi2]; done) | (simp [-List.map_take, -List.map_drop, -List.map_tail, run_guard, run_guardD, resultsA, resA, Nat.add_assoc, wldV, f1, g2, k1, k2, k3, hi, hi2]; rfl)) (by first | (simp; done) | (simp; omega)) (by first | (simp only [MLIM, LIM] at *; simp; omega) | (simp only [MLIM]; simp; omega)) (by simp [iv, bv]) ?_)
            | (with_reducible refine go_draw (i := 7) [(0, [], []), (1, [], []), (2, [], []), (3, [], []), (4, [.tmp 21], []), (5, [], [])] (by kernel_rfl) ?_)) <;> simp [-List.map_take, -List.map_drop, -List.map_tail, run_guard, run_guardD, resultsA, resA, Nat.add_assoc, wldV, f1, g2, k1, k2, k3, hi, hi2])
        | ((first | (with_reducible refine condS_split ?_ ?_)) <;> intro qb <;> (have qp := qb; try simp only [psq] at qp) <;> simp [-List.map_take, -List.map_drop, -List.map_tail, run_guard, run_guardD, resultsA, resA, Nat.add_assoc, wldV, f1, g2, k1, k2, k3, hi, hi2, qb])
      all_goals first
      | omega
      | (clear hnx
         have e9 : enabled w = acc ++ (pkDrain w ++ (pkTell w ++ pkStart w)) := by rw [enabled_eq, hacc]
         rw [e9]
         refine fin1_ref keepA (by first | omega | (simp; omega)) (by omega) ?_ rfl ?_
         · clear hacc e9 hJ
           simp_all [pkDrain, pkTell, pkStart, pikC]
         · clear hacc e9 hJ
           simp_all [pkDrain, pkTell, pkStart])
-- impl.EnabledIn
theorem f_EnabledIn {F : Nat → Bool} {w : Wld} : FC ctx.P 33 [.agg (wldV F w)] (.ref 0 2 0 ((if wldOk w then enabled w else []).map pikC).length) [.row 2 ((if wldOk w then enabled w else []).map pikC)] := by
  by_cases hw : wldOk w = true
  · refine FC.of1 okC Tryz.func33 rfl rfl (by kernel_rfl) (Nat.le_of_ble_eq_true rfl) (by decide) (fz_mapR pikC_fz _) fun h nx hnx => ?_
    show goC ctx _ _ (.fin (Ret1 _ _ _ _ _ _))
    try simp [-List.map_take, -List.map_drop, -List.map_tail, run_guard, run_guardD, resultsA, resA, Nat.add_assoc, wldV, hw]
    repeat'
      first
      | done
      | ((first
          | ((with_reducible show doCall _ _ _ 68 _ _); refine call_pc (c_WorldOk (w := w) (F := F)) ?_)
          | ((with_reducible show doCall _ _ _ 93 _ _); refine call_fc (f_enabled (w := w) (F := F) (wldOk_tasks hw)) ?_)) <;> simp [-List.map_take, -List.map_drop, -List.map_tail, run_guard, run_guardD, resultsA, resA, Nat.add_assoc, wldV, hw])
      | ((first | (with_reducible refine condS_split ?_ ?_)) <;> intro qb <;> (have qp := qb; try simp only [psq] at qp) <;> simp [-List.map_take, -List.map_drop, -List.map_tail, run_guard, run_guardD, resultsA, resA, Nat.add_assoc, wldV, hw, qb])
    exact fin1_ref keepA (by first | omega | (simp; done) | (simp; omega)) (by omega) (by simp) rfl (by simp)
  · refine FC.of1 okC Tryz.func33 rfl rfl (by kernel_rfl) (Nat.le_of_ble_eq_true rfl) (by decide) (fz_mapR pikC_fz _) fun h nx hnx => ?_
    show goC ctx _ _ (.fin (Ret1 _ _ _ _ _ _))
    try simp [-List.map_take, -List.map_drop, -List.map_tail, run_guard, run_guardD, resultsA, resA, Nat.add_assoc, wldV, hw]
    repeat'
      first
      | done
      | ((first
          | ((with_reducible show doCall _ _ _ 68 _ _); refine call_pc (c_WorldOk (w := w) (F := F)) ?_)) <;> simp [-List.map_take, -List.map_drop, -List.map_tail, run_guard, run_guardD, resultsA, resA, Nat.add_assoc, wldV, hw])
      | ((first | (with_reducible refine condS_split ?_ ?_)) <;> intro qb <;> (have qp := qb; try simp only [psq] at qp) <;> simp [-List.map_take, -List.map_drop, -List.map_tail, run_guard, run_guardD, resultsA, resA, Nat.add_assoc, wldV, hw, qb])
    exact fin1_nil keepA (by first | omega | (simp; done) | (simp; omega)) rfl
end Go.AE.Tryz
end

section
/- The law of the picks: what the program and the reference answer is the same, in memory of its own. -/
set_option linter.unusedSimpArgs false
set_option linter.unusedVariables false
set_option maxRecDepth 8000
set_option maxHeartbeats 4000000
namespace Go.AE.Tryz
open Go.Proofs
theorem wldV_ones {F : Nat → Bool} {w : Wld} : ∀ x ∈ wldV F w, x.one = true := by simp [wldV]
def picks (w : Wld) : List Pik := if wldOk w then enabled w else []
-- spec.EnabledIn
theorem s_EnabledIn2 {F : Nat → Bool} {w : Wld} : PC ctx.P 32 [.agg (wldV F w)] (.view true 2 ((picks w).map pikC)) := by
  by_cases hw : wldOk w = true
  · rw [picks, if_pos hw]; exact s_EnabledIn hw
  · refine PC.of okC Tryz.func32 rfl rfl (by kernel_rfl) (Nat.le_of_ble_eq_true rfl) (.vmap pikC_fz) fun h nx hnx => ?_
    show goC ctx _ _ (.fin (RetP _ _ _ _ _))
    try simp [-List.map_take, -List.map_drop, -List.map_tail, run_guard, run_guardD, resultsA, resA, Nat.add_assoc, wldV, hw, picks]
    repeat'
      first
      | done
      | ((first
          | ((with_reducible show lenS _ _ _ _ _ _); refine lenS_slice rfl fun _ => ?_)
          | ((with_reducible show iaddrS _ _ _ _ _ _ _); refine iaddr_map rfl omA omA ?_)
          | ((with_reducible show doCall _ _ _ 57 _ _); refine call_pc (s_WorldOk (w := w) (F := F)) ?_)
          | ((with_reducible show appS _ _ _ _ _ _ _ _); refine app_end rfl rfl (by decide) (by decide) (by first | (simp [-List.map_take, -List.map_drop, -List.map_tail, run_guard, run_guardD, resultsA, resA, Nat.add_assoc, wldV, hw, picks]; done) | (simp [-List.map_take, -List.map_drop, -List.map_tail, run_guard, run_guardD, resultsA, resA, Nat.add_assoc, wldV, hw, picks]; rfl)) (by first | (simp [-List.map_take, -List.map_drop, -List.map_tail, run_guard, run_guardD, resultsA, resA, Nat.add_assoc, wldV, hw, picks]; done) | (simp [-List.map_take, -List.map_drop, -List.map_tail, run_guard, run_guardD, resultsA, resA, Nat.add_assoc, wldV, hw, picks]; rfl)) (by first | (simp; done) | (simp; omega)) (by first | (simp only [MLIM, LIM] at *; simp; omega) | (simp only [MLIM]; simp; omega)) (by simp [iv, bv]) ?_)
          | (with_reducible refine go_draw (i := 9) [(0, [], []), (1, [], []), (2, [], []), (3, [], []), (4, [.tmp 29], []), (5, [], [])] (by kernel_rfl) ?_)) <;> simp [-List.map_take, -List.map_drop, -List.map_tail, run_guard, run_guardD, resultsA, resA, Nat.add_assoc, wldV, hw, picks])
      | ((first | (with_reducible refine condS_split ?_ ?_)) <;> intro qb <;> (have qp := qb; try simp only [psq] at qp) <;> simp [-List.map_take, -List.map_drop, -List.map_tail, run_guard, run_guardD, resultsA, resA, Nat.add_assoc, wldV, hw, picks, qb])
    all_goals first | exact keepA | trace_state
theorem wldR_ones (X : WI) (w : Wld) : (∀ x ∈ wldR X w, x.one = true) = True := by simp [wldR]
theorem wldR_len (X : WI) (w : Wld) : (wldR X w).length = 17 := rfl
theorem wldR_take (X : WI) (w : Wld) : (wldR X w).take 17 = wldR X w := rfl
theorem cl_mapR {α : Type} {f : α → List AV} (hf : ∀ x, ∀ c ∈ f x, Cl c) (xs : List α) : ClE (.row 2 (xs.map f)) := fun i j x hx => by
  obtain ⟨cs, h1, h2⟩ := get2_some hx
  obtain ⟨y, _, rfl⟩ := List.mem_map.1 (List.mem_of_getElem? h1)
  exact hf y x (List.mem_of_getElem? h2)
theorem pikC_cl (x : Pik) : ∀ c ∈ pikC x, Cl c := by simp only [pikC, List.mem_cons, List.not_mem_nil, or_false, forall_eq_or_imp, forall_eq]; exact ⟨.int _ _, .int _ _⟩
theorem picks_len (w : Wld) : (picks w).length ≤ 64 := by
  unfold picks
  by_cases hw : wldOk w = true
  · have := tasksOk_len (wldOk_tasks hw)
    have h2 := readyIn_len w.tasks
    rw [if_pos hw]
    simp [enabled_eq, pkTasks, pkDrain, pkTell, pkStart]
    repeat' split
    all_goals simp
    all_goals omega
  · rw [if_neg hw]; simp
-- impl.EnabledIn
theorem f_EnabledIn2 {F : Nat → Bool} {w : Wld} : FC ctx.P 33 [.agg (wldV F w)] (.ref 0 2 0 ((picks w).map pikC).length) [.row 2 ((picks w).map pikC)] := f_EnabledIn
-- laws.FnExactEnabledIn
theorem law_EnabledIn {w : Wld} : PC ctx.P 10 [.agg (wldV (fun _ => true) w)] (.bool true) := by
  by_cases hs : wldsz w ≤ 1048576
  · have e : szR (wldsz w) 1048576 = 1048576 - wldsz w := by rcases szR_or (wldsz w) 1048576 with q | q <;> omega
    have hpl := picks_len w
    have hm : LIM = 140737488355328 := rfl
    refine PC.of okC Tryz.func10 rfl rfl (by kernel_rfl) (Nat.le_of_ble_eq_true rfl) (.bool _) fun h nx hnx => ?_
    show goC ctx _ _ (.fin (RetP _ _ _ _ _))
    have hones : (∀ x ∈ wldV (fun _ => true) w, x.one = true) = True := by simp only [eq_iff_iff, iff_true]; exact wldV_ones
    try simp [-List.map_take, -List.map_drop, -List.map_tail, run_guard, run_guardD, resultsA, resA, Nat.add_assoc, e, hones]
    repeat'
      first
      | done
      | ((first
          | ((with_reducible show doCall _ _ _ 15 _ _); refine call_pc (c_szWorld (s := w) (F := fun _ => true) (by omega) (by omega)) ?_)
          | (with_reducible refine go_draw (i := 10) [(0, [], []), (1, [], []), (2, [.tmp 5], []), (3, [], []), (4, [], [])] (by kernel_rfl) ?_)) <;> simp [-List.map_take, -List.map_drop, -List.map_tail, run_guard, run_guardD, resultsA, resA, Nat.add_assoc, e, hones])
      | ((first | (with_reducible refine guardS_split ?_ ?_) | (with_reducible refine condS_split ?_ ?_)) <;> intro qb <;> (have qp := qb; try simp only [psq] at qp) <;> simp [-List.map_take, -List.map_drop, -List.map_tail, run_guard, run_guardD, resultsA, resA, Nat.add_assoc, e, hones, qb])
    all_goals first | omega | skip
    refine call_pc (c_toWorld (s := w) (F := fun _ => true) hs) ?_
    try simp [-List.map_take, -List.map_drop, -List.map_tail, run_guard, run_guardD, resultsA, resA, Nat.add_assoc, hones]
    repeat'
      first
      | done
      | ((first
          | ((with_reducible show doCall _ _ _ 32 _ _); refine call_pc (s_EnabledIn2 (w := w) (F := fun _ => true)) ?_)
          | (with_reducible refine go_draw (i := 10) [(0, [], []), (1, [], []), (2, [.tmp 5], []), (3, [], []), (4, [], [])] (by kernel_rfl) ?_)) <;> simp [-List.map_take, -List.map_drop, -List.map_tail, run_guard, run_guardD, resultsA, resA, Nat.add_assoc, hones])
      | ((first | (with_reducible refine guardS_split ?_ ?_) | (with_reducible refine condS_split ?_ ?_)) <;> intro qb <;> (have qp := qb; try simp only [psq] at qp) <;> simp [-List.map_take, -List.map_drop, -List.map_tail, run_guard, run_guardD, resultsA, resA, Nat.add_assoc, hones, qb])
    refine call_ac (w_toWorld (F := fun _ => true) hs) trivial ?_
    rintro r h1 n1 ⟨hK1, X, rfl, V1, hid1⟩ hle1 hfr1
    dsimp only at hK1 hid1 hle1
    try simp [-List.map_take, -List.map_drop, -List.map_tail, run_guard, run_guardD, resultsA, resA, Nat.add_assoc, wldR_ones X w, wldR_len X w, wldR_take X w]
    repeat'
      first
      | done
      | ((first
          | (with_reducible refine go_draw (i := 10) [(0, [], []), (1, [], []), (2, [.tmp 5], []), (3, [], []), (4, [], [])] (by kernel_rfl) ?_)) <;> simp [-List.map_take, -List.map_drop, -List.map_tail, run_guard, run_guardD, resultsA, resA, Nat.add_assoc, wldR_ones X w, wldR_len X w, wldR_take X w])
      | ((first | (with_reducible refine guardS_split ?_ ?_) | (with_reducible refine condS_split ?_ ?_)) <;> intro qb <;> (have qp := qb; try simp only [psq] at qp) <;> simp [-List.map_take, -List.map_drop, -List.map_tail, run_guard, run_guardD, resultsA, resA, Nat.add_assoc, wldR_ones X w, wldR_len X w, wldR_take X w, qb])
    refine call_fcB (f_EnabledIn2 (F := FF) (w := w)) (fun f => by simp; exact .ref _ _ _ _) (fun e he => by simp at he; subst he; exact cl_mapR pikC_cl _) ?hb ?_
    case hb => exact .cons (.agg1 (V1.keep fun id hid => by have := hid1 id hid; dsimp only; repeat rw [upd_ne _ _ _ _ (by omega)]).bors) .nil
    try simp [-List.map_take, -List.map_drop, -List.map_tail, run_guard, run_guardD, resultsA, resA, Nat.add_assoc]
    repeat'
      first
      | done
      | ((first
          | (with_reducible refine go_draw (i := 10) [(0, [], []), (1, [], []), (2, [.tmp 5], []), (3, [], []), (4, [], [])] (by kernel_rfl) ?_)) <;> simp [-List.map_take, -List.map_drop, -List.map_tail, run_guard, run_guardD, resultsA, resA, Nat.add_assoc])
      | ((first | (with_reducible refine guardS_split ?_ ?_) | (with_reducible refine condS_split ?_ ?_)) <;> intro qb <;> (have qp := qb; try simp only [psq] at qp) <;> simp [-List.map_take, -List.map_drop, -List.map_tail, run_guard, run_guardD, resultsA, resA, Nat.add_assoc, qb])
    generalize hH : upd (upd (upd h1 (nx + 15) _) (nx + 15) (some (Ent.obj (wldR X w)))) (n1 + 3) (some (Ent.row 2 (List.map pikC (picks w)))) = H2
    have V2 : WV H2 X w := hH ▸ (V1.keep fun id hid => by have := hid1 id hid; repeat rw [upd_ne _ _ _ _ (by omega)])
    have o2 : H2 (nx + 15) = some (.obj (wldR X w)) := by rw [← hH, upd_ne _ _ _ _ (by omega), upd_same]
    have g2 : H2 (n1 + 3) = some (.row 2 ((picks w).map pikC)) := by rw [← hH, upd_same]
    have a2 : H2 nx = some (.obj (wldV (fun _ => true) w)) := by
      rw [← hH]
      repeat rw [upd_ne _ _ _ _ (by omega)]
      rw [hK1 nx (by omega), upd_same]
    have K2 : KeepB nx H2 h := fun j hj => by
      rw [← hH]
      repeat rw [upd_ne _ _ _ _ (by omega)]
      rw [hK1 j (by omega), upd_ne _ _ _ _ (by omega)]
    clear hH
    refine call_pcB (c_eqPickS (p := false) (q := true) (xs := picks w) (ys := picks w)) (.bool _) ?hb2 ?_
    case hb2 => exact .cons (.ref0 g2 (by simp) (by simp)) (.cons (.same _) .nil)
    try simp [-List.map_take, -List.map_drop, -List.map_tail, run_guard, run_guardD, resultsA, resA, Nat.add_assoc, o2, a2, wldR_ones X w, wldR_len X w, wldR_take X w, hones]
    repeat'
      first
      | done
      | ((first
          | ((with_reducible show doCall _ _ _ 17 _ _); refine call_pc (c_toWorld (s := w) (F := fun _ => true) hs) ?_)
          | (with_reducible refine go_draw (i := 10) [(0, [], []), (1, [], []), (2, [.tmp 5], []), (3, [], []), (4, [], [])] (by kernel_rfl) ?_)) <;> simp [-List.map_take, -List.map_drop, -List.map_tail, run_guard, run_guardD, resultsA, resA, Nat.add_assoc, o2, a2, wldR_ones X w, wldR_len X w, wldR_take X w, hones])
      | ((first | (with_reducible refine guardS_split ?_ ?_) | (with_reducible refine condS_split ?_ ?_)) <;> intro qb <;> (have qp := qb; try simp only [psq] at qp) <;> simp [-List.map_take, -List.map_drop, -List.map_tail, run_guard, run_guardD, resultsA, resA, Nat.add_assoc, o2, a2, wldR_ones X w, wldR_len X w, wldR_take X w, hones, qb])
    refine call_pcB (c_eqWorld (x := w) (y := w) (F1 := FF) (F2 := fun _ => true)) (.bool _) ?hb3 ?_
    case hb3 => exact .cons (.agg1 V2.bors) (.cons (.same _) .nil)
    try simp [-List.map_take, -List.map_drop, -List.map_tail, run_guard, run_guardD, resultsA, resA, Nat.add_assoc, o2, a2, wldR_ones X w, wldR_len X w, wldR_take X w, hones]
    repeat'
      first
      | done
      | ((first
          | (with_reducible refine go_draw (i := 10) [(0, [], []), (1, [], []), (2, [.tmp 5], []), (3, [], []), (4, [], [])] (by kernel_rfl) ?_)) <;> simp [-List.map_take, -List.map_drop, -List.map_tail, run_guard, run_guardD, resultsA, resA, Nat.add_assoc, o2, a2, wldR_ones X w, wldR_len X w, wldR_take X w, hones])
      | ((first | (with_reducible refine guardS_split ?_ ?_) | (with_reducible refine condS_split ?_ ?_)) <;> intro qb <;> (have qp := qb; try simp only [psq] at qp) <;> simp [-List.map_take, -List.map_drop, -List.map_tail, run_guard, run_guardD, resultsA, resA, Nat.add_assoc, o2, a2, wldR_ones X w, wldR_len X w, wldR_take X w, hones, qb])
    refine call_ac (m_markWorld (X := X) (w := w) (k := 1) hs (by omega) (by omega)) V2 ?_
    rintro r H3 n3 ⟨rfl, V3, f3⟩ hle3 hfr3
    dsimp only at V3 f3 hle3
    have hx : ∀ j, j < nx + 17 → j ∉ X.ids := fun j hj hm => by have := hid1 j hm; omega
    have hy : n1 + 3 ∉ X.ids := fun hm => by have := hid1 _ hm; omega
    have a3 := f3 nx (by omega) (hx _ (by omega))
    have g3 := f3 (n1 + 3) (by omega) hy
    rw [a2] at a3
    rw [g2] at g3
    have K3 : KeepB nx H3 h := fun j hj => by rw [f3 j (by omega) (hx _ (by omega)), K2 j hj]
    have z3 : (kZ w 1 < 0) = False := by
      simp only [eq_iff_iff, iff_false]
      simp only [kZ, kR, kB, kV, kG, kK, kF, kU, kA, kL, kH, kW, kS, kE, kT]; omega
    try simp [-List.map_take, -List.map_drop, -List.map_tail, run_guard, run_guardD, resultsA, resA, Nat.add_assoc, z3]
    repeat'
      first
      | done
      | ((first
          | (with_reducible refine go_draw (i := 10) [(0, [], []), (1, [], []), (2, [.tmp 5], []), (3, [], []), (4, [], [])] (by kernel_rfl) ?_)) <;> simp [-List.map_take, -List.map_drop, -List.map_tail, run_guard, run_guardD, resultsA, resA, Nat.add_assoc, z3])
      | ((first | (with_reducible refine guardS_split ?_ ?_) | (with_reducible refine condS_split ?_ ?_)) <;> intro qb <;> (have qp := qb; try simp only [psq] at qp) <;> simp [-List.map_take, -List.map_drop, -List.map_tail, run_guard, run_guardD, resultsA, resA, Nat.add_assoc, z3, qb])
    refine call_pcB (c_eqPickS (p := false) (q := true) (xs := picks w) (ys := picks w)) (.bool _) ?hb4 ?_
    case hb4 => exact .cons (.ref0 g3 (by simp) (by simp)) (.cons (.same _) .nil)
    try simp [-List.map_take, -List.map_drop, -List.map_tail, run_guard, run_guardD, resultsA, resA, Nat.add_assoc, z3]
    repeat'
      first
      | done
      | ((first
          | (with_reducible refine go_draw (i := 10) [(0, [], []), (1, [], []), (2, [.tmp 5], []), (3, [], []), (4, [], [])] (by kernel_rfl) ?_)) <;> simp [-List.map_take, -List.map_drop, -List.map_tail, run_guard, run_guardD, resultsA, resA, Nat.add_assoc, z3])
      | ((first | (with_reducible refine guardS_split ?_ ?_) | (with_reducible refine condS_split ?_ ?_)) <;> intro qb <;> (have qp := qb; try simp only [psq] at qp) <;> simp [-List.map_take, -List.map_drop, -List.map_tail, run_guard, run_guardD, resultsA, resA, Nat.add_assoc, z3, qb])
    refine call_ac (m_markPickS (id := n1 + 3) (xs := picks w) (k := 1) (by omega) (by omega) (by omega)) g3 ?_
    rintro r H4 n4 ⟨rfl, g4, f4⟩ hle4 hfr4
    dsimp only at g4 f4 hle4
    have a4 := f4 nx (by omega) (by omega)
    rw [a3] at a4
    have K4 : KeepB nx H4 h := fun j hj => by rw [f4 j (by omega) (by omega), K3 j hj]
    try simp [-List.map_take, -List.map_drop, -List.map_tail, run_guard, run_guardD, resultsA, resA, Nat.add_assoc]
    repeat'
      first
      | done
      | ((first
          | (with_reducible refine go_draw (i := 10) [(0, [], []), (1, [], []), (2, [.tmp 5], []), (3, [], []), (4, [], [])] (by kernel_rfl) ?_)) <;> simp [-List.map_take, -List.map_drop, -List.map_tail, run_guard, run_guardD, resultsA, resA, Nat.add_assoc])
      | ((first | (with_reducible refine guardS_split ?_ ?_) | (with_reducible refine condS_split ?_ ?_)) <;> intro qb <;> (have qp := qb; try simp only [psq] at qp) <;> simp [-List.map_take, -List.map_drop, -List.map_tail, run_guard, run_guardD, resultsA, resA, Nat.add_assoc, qb])
    refine call_pcB (h_heldPickS (p := false) (n := (picks w).length) (k := 1) (by omega) (by omega) (by omega)) (.int _ _) ?hb5 ?_
    case hb5 => exact .cons (.ref0 g4 (by simp) (by simp)) (.cons (.same _) .nil)
    have z4 : (1 + 2 * ((picks w).length : Int) < 0) = False := by simp only [eq_iff_iff, iff_false]; omega
    try simp [-List.map_take, -List.map_drop, -List.map_tail, run_guard, run_guardD, resultsA, resA, Nat.add_assoc, z4, a4, hones]
    repeat'
      first
      | done
      | ((first
          | ((with_reducible show doCall _ _ _ 17 _ _); refine call_pc (c_toWorld (s := w) (F := fun _ => true) hs) ?_)
          | ((with_reducible show doCall _ _ _ 33 _ _); refine call_fc (f_EnabledIn2 (w := w) (F := fun _ => true)) ?_)
          | (with_reducible refine go_draw (i := 10) [(0, [], []), (1, [], []), (2, [.tmp 5], []), (3, [], []), (4, [], [])] (by kernel_rfl) ?_)) <;> simp [-List.map_take, -List.map_drop, -List.map_tail, run_guard, run_guardD, resultsA, resA, Nat.add_assoc, z4, a4, hones])
      | ((first | (with_reducible refine guardS_split ?_ ?_) | (with_reducible refine condS_split ?_ ?_)) <;> intro qb <;> (have qp := qb; try simp only [psq] at qp) <;> simp [-List.map_take, -List.map_drop, -List.map_tail, run_guard, run_guardD, resultsA, resA, Nat.add_assoc, z4, a4, hones, qb])
    refine call_pcB (c_eqPickS (p := false) (q := true) (xs := picks w) (ys := picks w)) (.bool _) ?hb6 ?_
    case hb6 => exact .cons (.ref0 (by dsimp only; exact upd_same ..) (by simp) (by simp)) (.cons (.same _) .nil)
    try simp [-List.map_take, -List.map_drop, -List.map_tail, run_guard, run_guardD, resultsA, resA, Nat.add_assoc, z4]
    repeat'
      first
      | done
      | ((first
          | (with_reducible refine go_draw (i := 10) [(0, [], []), (1, [], []), (2, [.tmp 5], []), (3, [], []), (4, [], [])] (by kernel_rfl) ?_)) <;> simp [-List.map_take, -List.map_drop, -List.map_tail, run_guard, run_guardD, resultsA, resA, Nat.add_assoc, z4])
      | ((first | (with_reducible refine guardS_split ?_ ?_) | (with_reducible refine condS_split ?_ ?_)) <;> intro qb <;> (have qp := qb; try simp only [psq] at qp) <;> simp [-List.map_take, -List.map_drop, -List.map_tail, run_guard, run_guardD, resultsA, resA, Nat.add_assoc, z4, qb])
    refine call_pcB (h_heldPickS (p := false) (n := (picks w).length) (k := 1) (by omega) (by omega) (by omega)) (.int _ _) ?hb7 ?_
    case hb7 => exact .cons (.ref0 (by dsimp only; rw [upd_ne _ _ _ _ (by omega)]; exact g4) (by simp) (by simp)) (.cons (.same _) .nil)
    try simp [-List.map_take, -List.map_drop, -List.map_tail, run_guard, run_guardD, resultsA, resA, Nat.add_assoc, z4]
    repeat'
      first
      | done
      | ((first
          | (with_reducible refine go_draw (i := 10) [(0, [], []), (1, [], []), (2, [.tmp 5], []), (3, [], []), (4, [], [])] (by kernel_rfl) ?_)) <;> simp [-List.map_take, -List.map_drop, -List.map_tail, run_guard, run_guardD, resultsA, resA, Nat.add_assoc, z4])
      | ((first | (with_reducible refine guardS_split ?_ ?_) | (with_reducible refine condS_split ?_ ?_)) <;> intro qb <;> (have qp := qb; try simp only [psq] at qp) <;> simp [-List.map_take, -List.map_drop, -List.map_tail, run_guard, run_guardD, resultsA, resA, Nat.add_assoc, z4, qb])
    exact keep_upd_of (by omega) K4
  · have e : szR (wldsz w) 1048576 = -1 := by rcases szR_or (wldsz w) 1048576 with q | q <;> omega
    refine PC.of okC Tryz.func10 rfl rfl (by kernel_rfl) (Nat.le_of_ble_eq_true rfl) (.bool _) fun h nx hnx => ?_
    show goC ctx _ _ (.fin (RetP _ _ _ _ _))
    try simp [-List.map_take, -List.map_drop, -List.map_tail, run_guard, run_guardD, resultsA, resA, Nat.add_assoc, e]
    repeat'
      first
      | done
      | ((first
          | ((with_reducible show doCall _ _ _ 15 _ _); refine call_pc (c_szWorld (s := w) (F := fun _ => true) (by omega) (by omega)) ?_)
          | (with_reducible refine go_draw (i := 10) [(0, [], []), (1, [], []), (2, [.tmp 5], []), (3, [], []), (4, [], [])] (by kernel_rfl) ?_)) <;> simp [-List.map_take, -List.map_drop, -List.map_tail, run_guard, run_guardD, resultsA, resA, Nat.add_assoc, e])
      | ((first | (with_reducible refine guardS_split ?_ ?_) | (with_reducible refine condS_split ?_ ?_)) <;> intro qb <;> (have qp := qb; try simp only [psq] at qp) <;> simp [-List.map_take, -List.map_drop, -List.map_tail, run_guard, run_guardD, resultsA, resA, Nat.add_assoc, e, qb])
end Go.AE.Tryz
end
