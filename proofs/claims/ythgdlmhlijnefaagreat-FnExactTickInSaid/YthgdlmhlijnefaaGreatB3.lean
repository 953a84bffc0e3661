/- Contracts of the seat's functions: what each answers, for all arguments. -/
import Derived.Test.YthgdlmhlijnefaaGreatB2
import Derived.Test.YthgdlmhlijnefaaGreatA2
import Derived.Test.YthgdlmhlijnefaaGreatA3
import Derived.Test.YthgdlmhlijnefaaGreatB1
section
/- Contracts of the program's readers: slots, times, heaps, timers. -/
set_option linter.unusedSimpArgs false
set_option linter.unusedVariables false
set_option maxRecDepth 8000
set_option maxHeartbeats 2000000
namespace Go.AE.Tryz
open Go.Proofs
open List (map_take map_drop map_tail)

theorem c_SlotsOk1 {x : Int} : PC ctx.P 349 [.int .i64 x] (.bool (!inR x 0 1000000)) := by
  refine PC.o okC Tryz.func349 rfl (.bool _) fun h nx hnx => ?_
  try simp [-map_take, -map_drop, -map_tail, rgs]
  repeat' first | done | ((first | ((with_reducible show doCall _ _ _ 165 _ _); refine call_pc (c_within) ?_)) <;> simp [-map_take, -map_drop, -map_tail, rgs])
theorem c_SlotsOk {F : Nat → Bool} {s : Slt} : PC ctx.P 276 [.agg (sltV F s)] (.bool (sltOk s)) := by
  refine PC.o okC Tryz.func276 rfl (.bool _) fun h nx hnx => ?_
  try simp [-map_take, -map_drop, -map_tail, rgs, sltV, sltOk]
  repeat' first | done | ((first | ((with_reducible show lenS _ _ _ _ _ _); refine lenS_slice rfl fun _ => ?_) | ((with_reducible show doCall _ _ _ 348 _ _); refine call_pc (c_size_int64) ?_) | ((with_reducible show doCall _ _ _ 165 _ _); refine call_pc (c_within) ?_) | ((with_reducible show doCall _ _ _ 268 _ _); refine call_pc (c_ContainsFunc_int64 (q := fun a => !inR a 0 1000000) (fun x _ => c_SlotsOk1)) ?_)) <;> simp [-map_take, -map_drop, -map_tail, rgs, sltV, sltOk]) | ((first | (with_reducible refine guardS_split ?_ ?_)) <;> intro qb <;> (have qp := qb; try simp only [psq] at qp) <;> simp [-map_take, -map_drop, -map_tail, rgs, sltV, sltOk, qb])

theorem c_used {F : Nat → Bool} {s : Slt} : PC ctx.P 278 [.agg (sltV F s)] (.int .i64 (cntB id s.used)) := by
  refine PC.lim (n := s.used.length) (x := .agg (sltV F s)) (by simp) (.agg (x := .view (F 9) 1 (s.used.map bv)) (by simp [sltV]) (.here (by simp))) ⟨_, Tryz.func278, by kernel_rfl, by kernel_rfl⟩ fun hlim => ?_
  refine PC.o okC Tryz.func278 rfl (.int _ _) fun h nx hnx => ?_
  try simp [-map_take, -map_drop, -map_tail, rgs, sltV]
  repeat' first | done | ((first | ((with_reducible show lenS _ _ _ _ _ _); refine lenS_slice rfl fun _ => ?_) | ((with_reducible show iaddrS _ _ _ _ _ _ _); refine iaddr_map rfl omA omA ?_)) <;> simp [-map_take, -map_drop, -map_tail, rgs, sltV]) | ((first | (with_reducible refine condS_split ?_ ?_)) <;> intro qb <;> (have qp := qb; try simp only [psq] at qp) <;> simp [-map_take, -map_drop, -map_tail, rgs, sltV, qb])
  refine go_upP [3, 5, 9, 10, 11, 12, 13, 14, 15, 16] (s.used.length) (fun (i : Nat) a => [(9, .int .i64 i), (3, .int .i64 a)]) (fun i_ a_ h_ _ => (fun i (a : Int) _ => a + cntB id (s.used.drop i) = cntB id s.used ∧ 0 ≤ a ∧ a ≤ i) i_ a_ h_) (0) (by simp) ?_ keep_rfl (Nat.le_refl _) ?_
  · simp
  · intro i a tm h' n' hle hJ hE hn' next hnx
    try dsimp only at hJ
    have hK : KeepB nx h' h := KeepB.sub hE keepA (by omega)
    simp [-map_take, -map_drop, -map_tail]
    try simp [-map_take, -map_drop, -map_tail, rgs, bv]
    repeat' first | done | ((first | ((with_reducible show lenS _ _ _ _ _ _); refine lenS_slice rfl fun _ => ?_) | ((with_reducible show iaddrS _ _ _ _ _ _ _); refine iaddr_map rfl omA omA ?_)) <;> simp [-map_take, -map_drop, -map_tail, rgs, bv]) | ((first | (with_reducible refine condS_split ?_ ?_)) <;> intro qb <;> (have qp := qb; try simp only [psq] at qp) <;> simp [-map_take, -map_drop, -map_tail, rgs, bv, qb])
    · rw [drop_gt (by omega)] at hJ
      refine hnx.go (a + 1) (by omega) (by simp [wrap_succ (i := i) (n := s.used.length) (by omega) hlim, i64_ok (x := a + 1) (by simp only [LIM] at hlim; omega)]) (by simp) keepA (by first | omega | (simp; omega)) ?_
      try dsimp only
      simp [cntB, qb] at hJ ⊢
      omega
    · rw [drop_gt (by omega)] at hJ
      refine hnx.go (a) (by omega) (by simp [wrap_succ (i := i) (n := s.used.length) (by omega) hlim]) (by simp) keepA (by first | omega | (simp; omega)) ?_
      try dsimp only
      simp [cntB, qb] at hJ ⊢
      omega
    · refine ⟨?_, by simp [hK]⟩
      rw [List.drop_eq_nil_of_le (by omega)] at hJ
      simp [cntB] at hJ ⊢
      omega

theorem c_holds {F : Nat → Bool} {s : Slt} {x : Han} (hl : s.used.length = s.ages.length) : PC ctx.P 280 [.agg (sltV F s), .agg (hanC x)] (.bool (sltHolds s x)) := by
  refine PC.o okC Tryz.func280 rfl (.bool _) fun h nx hnx => ?_
  try simp [-map_take, -map_drop, -map_tail, rgs, sltV, hanC, iv, bv, sltHolds]
  repeat' first | done | ((first | ((with_reducible show iaddrS _ _ _ _ _ _ _); refine iaddr_map rfl omA omA ?_) | ((with_reducible show doCall _ _ _ 350 _ _); refine call_pc (c_isIn_int64) ?_) | (with_reducible refine go_draw (i := 1) [(0, [], []), (1, [], []), (2, [], []), (3, [], []), (4, [], []), (5, [], []), (6, [], []), (7, [], []), (8, [], []), (9, [], []), (10, [], []), (11, [], []), (12, [], []), (13, [], []), (14, [], []), (15, [], []), (16, [], []), (17, [], []), (18, [], []), (19, [], []), (20, [], []), (21, [], []), (22, [], []), (23, [], []), (24, [], [])] (by kernel_rfl) ?_)) <;> simp [-map_take, -map_drop, -map_tail, rgs, sltV, hanC, iv, bv, sltHolds]) | ((first | (with_reducible refine guardD_split ?_ ?_)) <;> intro qb <;> (have qp := qb; try simp only [psq] at qp) <;> simp [-map_take, -map_drop, -map_tail, rgs, sltV, hanC, iv, bv, sltHolds, qb])

theorem c_IsDue {a b : Int} : PC ctx.P 84 [.int .i64 a, .int .i64 b] (.bool (isDue a b)) := by
  refine PC.o okC Tryz.func84 rfl (.bool _) fun h nx hnx => ?_
  try simp [-map_take, -map_drop, -map_tail, rgs, isDue, never]
  repeat' first | done | ((first | (with_reducible refine guardS_split ?_ ?_)) <;> intro qb <;> (have qp := qb; try simp only [psq] at qp) <;> simp [-map_take, -map_drop, -map_tail, rgs, isDue, never, qb])

theorem c_isNaN {a : Int} : PC ctx.P 385 [.int .i64 a] (.bool false) := by
  refine PC.o okC Tryz.func385 rfl (.bool _) fun h nx hnx => ?_
  try simp [-map_take, -map_drop, -map_tail, rgs]
theorem c_Compare {a b : Int} : PC ctx.P 383 [.int .i64 a, .int .i64 b] (.int .i64 (cmp2 a b)) := by
  refine PC.o okC Tryz.func383 rfl (.int _ _) fun h nx hnx => ?_
  try simp [-map_take, -map_drop, -map_tail, rgs, cmp2]
  repeat' first | done | ((first | ((with_reducible show doCall _ _ _ 385 _ _); refine call_pc (c_isNaN) ?_)) <;> simp [-map_take, -map_drop, -map_tail, rgs, cmp2]) | ((first | (with_reducible refine condS_split ?_ ?_)) <;> intro qb <;> (have qp := qb; try simp only [psq] at qp) <;> simp [-map_take, -map_drop, -map_tail, rgs, cmp2, qb])
  all_goals omega
theorem c_Or {p : Bool} {xs : List Int} : PC ctx.P 382 [.view p 1 (xs.map iv)] (.int .i64 (orI xs)) := by
  refine PC.lim (n := xs.length) (x := .view p 1 (xs.map iv)) (by simp) (.here (by simp)) ⟨_, Tryz.func382, by kernel_rfl, by kernel_rfl⟩ fun hlim => ?_
  refine PC.o okC Tryz.func382 rfl (.int _ _) fun h nx hnx => ?_
  try simp [-map_take, -map_drop, -map_tail, rgs]
  repeat' first | done | ((first | ((with_reducible show lenS _ _ _ _ _ _); refine lenS_slice rfl fun _ => ?_) | ((with_reducible show iaddrS _ _ _ _ _ _ _); refine iaddr_map rfl omA omA ?_)) <;> simp [-map_take, -map_drop, -map_tail, rgs]) | ((first | (with_reducible refine condS_split ?_ ?_)) <;> intro qb <;> (have qp := qb; try simp only [psq] at qp) <;> simp [-map_take, -map_drop, -map_tail, rgs, qb])
  refine go_upP [2, 5, 8, 9, 10, 11, 12, 13, 14, 15, 16] (xs.length) (fun (i : Nat) a => [(8, .int .i64 i)]) (fun i_ a_ h_ _ => (fun i (_ : Unit) _ => orI (xs.drop i) = orI xs) i_ a_ h_) (()) (by simp) ?_ keep_rfl (Nat.le_refl _) ?_
  · simp
  · intro i a tm h' n' hle hJ hE hn' next hnx
    try dsimp only at hJ
    have hK : KeepB nx h' h := KeepB.sub hE keepA (by omega)
    simp [-map_take, -map_drop, -map_tail]
    try simp [-map_take, -map_drop, -map_tail, rgs, iv]
    repeat' first | done | ((first | ((with_reducible show lenS _ _ _ _ _ _); refine lenS_slice rfl fun _ => ?_) | ((with_reducible show iaddrS _ _ _ _ _ _ _); refine iaddr_map rfl omA omA ?_)) <;> simp [-map_take, -map_drop, -map_tail, rgs, iv]) | ((first | (with_reducible refine condS_split ?_ ?_)) <;> intro qb <;> (have qp := qb; try simp only [psq] at qp) <;> simp [-map_take, -map_drop, -map_tail, rgs, iv, qb])
    all_goals
      first
      | (have hlt : i < xs.length := (by first | omega | (simp at *; omega))
         rw [drop_gt hlt] at hJ
         first
         | (refine hnx.go (()) ?_ ?_ ?_ ?_ ?_ ?_; omega; (simp [wrap_succ hlt hlim]); (simp); exact keepA; (first | omega | (simp; omega)); (try dsimp only); clear hnx; first | ((try simp only [List.drop_length, Int.toNat_natCast, orI] at hJ ⊢); grind) | (simp_all [orI]; done) | (simp_all; omega))
         | (refine ⟨?_, keepA⟩; clear hnx; first | ((try simp only [List.drop_length, Int.toNat_natCast, orI] at hJ ⊢); grind) | (simp_all [orI]; done) | (simp_all; omega)))
      | (obtain rfl : i = xs.length := (by first | omega | (simp at *; omega))
         refine ⟨?_, keepA⟩; clear hnx; first | ((try simp only [List.drop_length, Int.toNat_natCast, orI] at hJ ⊢); grind) | (simp_all [orI]; done) | (simp_all; omega))
end Go.AE.Tryz
end

section
/- Contracts of the program's readers: heaps, timers, trees. -/
set_option linter.unusedSimpArgs false
set_option linter.unusedVariables false
set_option maxRecDepth 8000
set_option maxHeartbeats 2000000
namespace Go.AE.Tryz
open Go.Proofs
open List (map_take map_drop map_tail)

theorem c_compare {a b : Twg} : PC ctx.P 372 [.agg (twgC a), .agg (twgC b)] (.int .i64 (twgCmp a b)) := by
  refine PC.o okC Tryz.func372 rfl (.int _ _) fun h nx hnx => ?_
  try simp [-map_take, -map_drop, -map_tail, rgs, twgC]
  repeat' first | done | ((first | ((with_reducible show doCall _ _ _ 383 _ _); refine call_pc (c_Compare) ?_) | ((with_reducible show doCall _ _ _ 382 _ _); refine call_pcB (c_Or (p := false) (xs := [cmp2 a.due b.due, cmp2 a.seq b.seq])) (by first | exact .bool _ | exact .int _ _ | exact .str _) (by repeat' first | exact Bors.nil | refine Bors.cons ?_ ?_ | exact Bor.same _ | refine Bor.fn1 ?_ | refine Bor.bnd1 ?_ | refine Bor.agg1 ?_ | refine Bor.ptr0 (by first | (simp; done) | (simp; rfl) | assumption | (simp [*]; done)) ?_ | refine Bor.ref0 (by first | (simp; done) | (simp; rfl) | (simp [iv, bv]; done)) (by simp) (by simp)) ?_) | (with_reducible refine go_draw (i := 1) [(0, [], []), (1, [], []), (2, [], []), (3, [], []), (5, [], []), (6, [], []), (7, [], []), (8, [], []), (4, [.tmp 10, .tmp 12], []), (9, [], []), (10, [], []), (11, [], []), (12, [], [])] (by kernel_rfl) ?_)) <;> simp [-map_take, -map_drop, -map_tail, rgs, twgC])
  all_goals (try clear hnx)
  all_goals first | (simp_all [twgCmp]; done) | (simp_all [twgCmp]; omega) | (rw [Bool.eq_iff_iff]; simp_all [twgCmp]; done) | (rw [Bool.eq_iff_iff]; simp_all [twgCmp]; omega) | omega | (simp only [twgCmp]; grind) | grind
theorem c_parts {p : Bool} {l : List Twg} (hp : 0 < l.length) (h0 : 0 ≤ (gt l 0).lefts) (h1 : (gt l 0).lefts < l.length) :
    PC ctx.P 370 [.view p 3 (l.map twgC)] (.tup [.view p 3 ((l.tail.take (gt l 0).lefts.toNat).map twgC), .view p 3 ((l.drop ((gt l 0).lefts.toNat + 1)).map twgC)]) := by
  refine PC.lim (n := l.length) (x := .view p 3 (l.map twgC)) (by simp) (.here (by simp)) ⟨_, Tryz.func370, by kernel_rfl, by kernel_rfl⟩ fun hlim => ?_
  simp only [LIM] at hlim
  have q1 : (1 + (gt l 0).lefts).toNat = (gt l 0).lefts.toNat + 1 := by omega
  refine PC.o okC Tryz.func370 rfl (.tup _ (by simp [-List.map_take, -List.map_drop]; exact ⟨.vmap twgC_fz, .vmap twgC_fz⟩)) fun h nx hnx => ?_
  try simp [-map_take, -map_drop, -map_tail, rgs, twgC, i64_ok (x := 1 + (gt l 0).lefts) (by omega), q1]
  repeat' first | done | ((first | ((with_reducible show iaddrS _ _ _ _ _ _ _); refine iaddr_map rfl omA omA ?_) | ((with_reducible show sliceS _ _ _ _ _ _ _ _); refine slice_to rfl omA omA ?_) | ((with_reducible show sliceS _ _ _ _ _ _ _ _); refine slice_from rfl omA omA ?_) | ((with_reducible show sliceS _ _ _ _ _ _ _ _); refine slice_mid rfl omA omA omA ?_) | ((with_reducible show sliceI _ _ _ _ _ _ _ _ _ _ _); refine sliceI_to rfl omA omA ?_) | ((with_reducible show sliceI _ _ _ _ _ _ _ _ _ _ _); refine sliceI_from rfl omA omA ?_) | ((with_reducible show sliceI _ _ _ _ _ _ _ _ _ _ _); refine sliceI_mid rfl omA omA omA ?_) | (with_reducible refine go_draw (i := 2) [(0, [], []), (1, [], []), (2, [], []), (3, [], []), (4, [], []), (5, [], []), (6, [], []), (7, [], [])] (by kernel_rfl) ?_)) <;> simp [-map_take, -map_drop, -map_tail, rgs, twgC, i64_ok (x := 1 + (gt l 0).lefts) (by omega), q1])
theorem c_seqAt1 {x : Twg} {s : Int} : PC ctx.P 375 [.agg (twgC x), .vptr [.int .i64 s]] (.bool (x.seq == s)) := by
  refine PC.o okC Tryz.func375 rfl (.bool _) fun h nx hnx => ?_
  try simp [-map_take, -map_drop, -map_tail, rgs, twgC]
theorem c_seqAt {p : Bool} {h : List Twg} {s : Int} : PC ctx.P 344 [.view p 3 (h.map twgC), .int .i64 s] (.int .i64 (seqAt h s)) := by
  refine PC.o okC Tryz.func344 rfl (.int _ _) fun h nx hnx => ?_
  try simp [-map_take, -map_drop, -map_tail, rgs, seqAt]
  repeat' first | done | ((first | ((with_reducible show doCall _ _ _ 346 _ _); refine call_pcB (c_IndexFunc_Twig (q := fun x => x.seq == s) (fv := .fn 375 [.vptr [.int .i64 s]]) (fun x _ => c_seqAt1)) (by first | exact .bool _ | exact .int _ _ | exact .str _) (by repeat' first | exact Bors.nil | refine Bors.cons ?_ ?_ | exact Bor.same _ | refine Bor.fn1 ?_ | refine Bor.bnd1 ?_ | refine Bor.agg1 ?_ | refine Bor.ptr0 (by first | (simp; done) | (simp; rfl) | assumption | (simp [*]; done)) ?_ | refine Bor.ref0 (by first | (simp; done) | (simp; rfl) | (simp [iv, bv]; done)) (by simp) (by simp)) ?_)) <;> simp [-map_take, -map_drop, -map_tail, rgs, seqAt])
theorem c_tmsAt1 {x : Tmr} {s : Int} : PC ctx.P 329 [.agg (tmrC x), .vptr [.int .i64 s]] (.bool (x.seq == s)) := by
  refine PC.o okC Tryz.func329 rfl (.bool _) fun h nx hnx => ?_
  try simp [-map_take, -map_drop, -map_tail, rgs, tmrC]
theorem c_tmsAt {F : Nat → Bool} {t : Tms} {s : Int} : PC ctx.P 237 [.agg (tmsV F t), .int .i64 s] (.int .i64 (tmsAt t.list s)) := by
  refine PC.o okC Tryz.func237 rfl (.int _ _) fun h nx hnx => ?_
  try simp [-map_take, -map_drop, -map_tail, rgs, tmsV, tmsAt]
  repeat' first | done | ((first | ((with_reducible show doCall _ _ _ 328 _ _); refine call_pcB (c_IndexFunc_Timer (q := fun x => x.seq == s) (fv := .fn 329 [.vptr [.int .i64 s]]) (fun x _ => c_tmsAt1)) (by first | exact .bool _ | exact .int _ _ | exact .str _) (by repeat' first | exact Bors.nil | refine Bors.cons ?_ ?_ | exact Bor.same _ | refine Bor.fn1 ?_ | refine Bor.bnd1 ?_ | refine Bor.agg1 ?_ | refine Bor.ptr0 (by first | (simp; done) | (simp; rfl) | assumption | (simp [*]; done)) ?_ | refine Bor.ref0 (by first | (simp; done) | (simp; rfl) | (simp [iv, bv]; done)) (by simp) (by simp)) ?_)) <;> simp [-map_take, -map_drop, -map_tail, rgs, tmsV, tmsAt])
theorem c_TimersOk1 {F : Nat → Bool} {t : Tms} {x : Twg} : PC ctx.P 272 [.agg (twgC x), .vptr (tmsV F t)] (.bool (decide (tmsAt t.list x.seq < 0) || (!(gt t.list (tmsAt t.list x.seq)).armed || (gt t.list (tmsAt t.list x.seq)).due != x.due))) := by
  have hat := tmsAt_lt t.list x.seq
  refine PC.o okC Tryz.func272 rfl (.bool _) fun h nx hnx => ?_
  try simp [-map_take, -map_drop, -map_tail, rgs, twgC, tmsV, tmrC]
  repeat' first | done | ((first | ((with_reducible show iaddrS _ _ _ _ _ _ _); refine iaddr_map rfl omA omA ?_) | ((with_reducible show doCall _ _ _ 237 _ _); refine call_pc (c_tmsAt (F := F) (t := t)) ?_) | (with_reducible refine go_draw (i := 2) [(0, [], []), (1, [], []), (2, [], []), (3, [], []), (4, [], []), (5, [], []), (6, [], []), (7, [], []), (8, [], []), (9, [], []), (10, [], []), (11, [], []), (12, [], []), (13, [], []), (14, [], []), (15, [], []), (16, [], []), (17, [], []), (18, [], []), (19, [], []), (20, [], []), (21, [], []), (22, [], [])] (by kernel_rfl) ?_)) <;> simp [-map_take, -map_drop, -map_tail, rgs, twgC, tmsV, tmrC]) | ((first | (with_reducible refine guardD_split ?_ ?_)) <;> intro qb <;> (have qp := qb; try simp only [psq] at qp) <;> simp [-map_take, -map_drop, -map_tail, rgs, twgC, tmsV, tmrC, qb])

theorem c_rank {p : Bool} {h0 : List Twg} {r : Nat} (hr : rk h0 = some r) : PC ctx.P 377 [.view p 3 (h0.map twgC)] (.int .i64 r) := by
  refine PC.lim (n := h0.length) (x := .view p 3 (h0.map twgC)) (by simp) (.here (by simp)) ⟨_, Tryz.func377, by kernel_rfl, by kernel_rfl⟩ fun hlim => ?_
  have hrl := rk_le hr
  simp only [LIM] at hlim
  refine PC.o okC Tryz.func377 rfl (.int _ _) fun h nx hnx => ?_
  try simp [-map_take, -map_drop, -map_tail, rgs]
  repeat' first | done | ((first | ((with_reducible show lenS _ _ _ _ _ _); refine lenS_slice rfl fun _ => ?_)) <;> simp [-map_take, -map_drop, -map_tail, rgs]) | ((first | (with_reducible refine condS_split ?_ ?_)) <;> intro qb <;> (have qp := qb; try simp only [psq] at qp) <;> simp [-map_take, -map_drop, -map_tail, rgs, qb])
  refine go_dnP [0, 3, 4, 5, 6, 7, 8, 9, 10, 11, 12, 13] (fun a => [(0, .view p 3 (a.1.map twgC)), (3, .int .i64 a.2)]) (fun a => a.1.length) (fun a_ h_ _ => (fun (a : List Twg × Int) _ => ∃ k : Nat, rk a.1 = some k ∧ a.2 + k = r ∧ 0 ≤ a.2) a_ h_) ((h0, 0)) (by simp) ?_ keep_rfl (Nat.le_refl _) ?_
  · exact ⟨r, hr, by simp, by simp⟩
  · intro a tm h' n' hJ hE hn' next hnx
    try dsimp only at hJ
    have hK : KeepB nx h' h := KeepB.sub hE keepA (by omega)
    obtain ⟨l, n⟩ := a
    obtain ⟨k, hk, hn, h0⟩ := hJ
    dsimp only at hk hn h0 ⊢
    rcases rk_cases hk with ⟨rfl, rfl⟩ | ⟨hp, hx0, hx1, b, hb, rfl⟩
    · try simp [-map_take, -map_drop, -map_tail, rgs]
      repeat' first | done | ((first | ((with_reducible show lenS _ _ _ _ _ _); refine lenS_slice rfl fun _ => ?_)) <;> simp [-map_take, -map_drop, -map_tail, rgs]) | ((first | (with_reducible refine condS_split ?_ ?_)) <;> intro qb <;> (have qp := qb; try simp only [psq] at qp) <;> simp [-map_take, -map_drop, -map_tail, rgs, qb])
      all_goals (first | exact ⟨by simpa using hn, hK⟩ | (simp at *; omega))
    · simp at hn h0
      try simp [-map_take, -map_drop, -map_tail, rgs]
      repeat' first | done | ((first | ((with_reducible show lenS _ _ _ _ _ _); refine lenS_slice rfl fun _ => ?_) | ((with_reducible show doCall _ _ _ 370 _ _); refine call_pc (c_parts hp hx0 hx1) ?_)) <;> simp [-map_take, -map_drop, -map_tail, rgs]) | ((first | (with_reducible refine condS_split ?_ ?_)) <;> intro qb <;> (have qp := qb; try simp only [psq] at qp) <;> simp [-map_take, -map_drop, -map_tail, rgs, qb])
      · refine hnx.go (l.drop ((gt l 0).lefts.toNat + 1), n + 1) (by simp; omega) (by simp [i64_ok (x := n + 1) (by omega)]) (by simp) keepA (by first | omega | (simp; omega)) ⟨b, hb, by simp; omega, by simp; omega⟩
      · omega
theorem c_isHeapN {p : Bool} : ∀ (n : Nat) (l : List Twg), l.length ≤ n → PC ctx.P 345 [.view p 3 (l.map twgC)] (.bool (rk l).isSome) := by
  intro n
  induction n with
  | zero =>
    intro l hl
    obtain rfl : l = [] := by simpa using hl
    refine PC.o okC Tryz.func345 rfl (.bool _) fun h nx hnx => ?_
    try simp [-map_take, -map_drop, -map_tail, rgs, rk_nil]
    repeat' first | done | ((first | ((with_reducible show lenS _ _ _ _ _ _); refine lenS_slice rfl fun _ => ?_) | ((with_reducible show iaddrS _ _ _ _ _ _ _); refine iaddr_map rfl omA omA ?_) | (with_reducible refine go_draw (i := 3) [(0, [], []), (1, [], []), (2, [], []), (3, [], []), (4, [], []), (5, [.tmp 10], []), (6, [], []), (7, [], []), (8, [], [])] (by kernel_rfl) ?_) | (with_reducible refine go_draw (i := 8) [(0, [], []), (1, [], []), (2, [], []), (3, [], []), (4, [], []), (5, [], []), (6, [], []), (7, [], []), (8, [], []), (9, [], []), (10, [], []), (11, [], []), (12, [], []), (13, [], []), (14, [], []), (15, [], []), (16, [], []), (17, [], []), (18, [], []), (19, [], []), (20, [], []), (21, [], []), (22, [], []), (23, [], []), (24, [], []), (25, [], []), (26, [], []), (27, [], []), (28, [], [])] (by kernel_rfl) ?_)) <;> simp [-map_take, -map_drop, -map_tail, rgs, rk_nil]) | ((first | (with_reducible refine guardD_split ?_ ?_) | (with_reducible refine guardS_split ?_ ?_) | (with_reducible refine condS_split ?_ ?_)) <;> intro qb <;> (have qp := qb; try simp only [psq] at qp) <;> simp [-map_take, -map_drop, -map_tail, rgs, rk_nil, qb])
  | succ n ih =>
    intro l hl
    refine PC.lim (n := l.length) (x := .view p 3 (l.map twgC)) (by simp) (.here (by simp)) ⟨_, Tryz.func345, by kernel_rfl, by kernel_rfl⟩ fun hlim => ?_
    simp only [LIM] at hlim
    by_cases hp : 0 < l.length
    · have i1 := ih (l.tail.take (gt l 0).lefts.toNat) (by simp; omega)
      have i2 := ih (l.drop ((gt l 0).lefts.toNat + 1)) (by simp; omega)
      rw [rk_tail hp]
      cases ha : rk (l.tail.take (gt l 0).lefts.toNat) with
      | none =>
        rw [ha] at i1
        refine PC.o okC Tryz.func345 rfl (.bool _) fun h nx hnx => ?_
        try simp [-map_take, -map_drop, -map_tail, rgs, twgC, i64_ok (x := (l.length : Int) - 1) (by omega)]
        repeat' first | done | ((first | ((with_reducible show lenS _ _ _ _ _ _); refine lenS_slice rfl fun _ => ?_) | ((with_reducible show iaddrS _ _ _ _ _ _ _); refine iaddr_map rfl omA omA ?_) | ((with_reducible show doCall _ _ _ 376 _ _); refine call_pc (c_size_Twig) ?_) | ((with_reducible show doCall _ _ _ 165 _ _); refine call_pc (c_within) ?_) | ((with_reducible show doCall _ _ _ 370 _ _); refine call_pc (c_parts hp (by omega) (by omega)) ?_) | (refine call_pc (i1) ?_) | (refine call_pc (i2) ?_) | (with_reducible refine go_draw (i := 3) [(0, [], []), (1, [], []), (2, [], []), (3, [], []), (4, [], []), (5, [.tmp 10], []), (6, [], []), (7, [], []), (8, [], [])] (by kernel_rfl) ?_) | (with_reducible refine go_draw (i := 8) [(0, [], []), (1, [], []), (2, [], []), (3, [], []), (4, [], []), (5, [], []), (6, [], []), (7, [], []), (8, [], []), (9, [], []), (10, [], []), (11, [], []), (12, [], []), (13, [], []), (14, [], []), (15, [], []), (16, [], []), (17, [], []), (18, [], []), (19, [], []), (20, [], []), (21, [], []), (22, [], []), (23, [], []), (24, [], []), (25, [], []), (26, [], []), (27, [], []), (28, [], [])] (by kernel_rfl) ?_)) <;> simp [-map_take, -map_drop, -map_tail, rgs, twgC, i64_ok (x := (l.length : Int) - 1) (by omega)]) | ((first | (with_reducible refine guardD_split ?_ ?_) | (with_reducible refine guardS_split ?_ ?_) | (with_reducible refine condS_split ?_ ?_)) <;> intro qb <;> (have qp := qb; try simp only [psq] at qp) <;> simp [-map_take, -map_drop, -map_tail, rgs, twgC, i64_ok (x := (l.length : Int) - 1) (by omega), qb])
        all_goals (clear ih i1 i2 hnx; simp_all)
      | some a =>
        rw [ha] at i1
        cases hb : rk (l.drop ((gt l 0).lefts.toNat + 1)) with
        | none =>
          rw [hb] at i2
          refine PC.o okC Tryz.func345 rfl (.bool _) fun h nx hnx => ?_
          try simp [-map_take, -map_drop, -map_tail, rgs, twgC, i64_ok (x := (l.length : Int) - 1) (by omega)]
          repeat' first | done | ((first | ((with_reducible show lenS _ _ _ _ _ _); refine lenS_slice rfl fun _ => ?_) | ((with_reducible show iaddrS _ _ _ _ _ _ _); refine iaddr_map rfl omA omA ?_) | ((with_reducible show doCall _ _ _ 376 _ _); refine call_pc (c_size_Twig) ?_) | ((with_reducible show doCall _ _ _ 165 _ _); refine call_pc (c_within) ?_) | ((with_reducible show doCall _ _ _ 370 _ _); refine call_pc (c_parts hp (by omega) (by omega)) ?_) | (refine call_pc (i1) ?_) | (refine call_pc (i2) ?_) | (with_reducible refine go_draw (i := 3) [(0, [], []), (1, [], []), (2, [], []), (3, [], []), (4, [], []), (5, [.tmp 10], []), (6, [], []), (7, [], []), (8, [], [])] (by kernel_rfl) ?_) | (with_reducible refine go_draw (i := 8) [(0, [], []), (1, [], []), (2, [], []), (3, [], []), (4, [], []), (5, [], []), (6, [], []), (7, [], []), (8, [], []), (9, [], []), (10, [], []), (11, [], []), (12, [], []), (13, [], []), (14, [], []), (15, [], []), (16, [], []), (17, [], []), (18, [], []), (19, [], []), (20, [], []), (21, [], []), (22, [], []), (23, [], []), (24, [], []), (25, [], []), (26, [], []), (27, [], []), (28, [], [])] (by kernel_rfl) ?_)) <;> simp [-map_take, -map_drop, -map_tail, rgs, twgC, i64_ok (x := (l.length : Int) - 1) (by omega)]) | ((first | (with_reducible refine guardD_split ?_ ?_) | (with_reducible refine guardS_split ?_ ?_) | (with_reducible refine condS_split ?_ ?_)) <;> intro qb <;> (have qp := qb; try simp only [psq] at qp) <;> simp [-map_take, -map_drop, -map_tail, rgs, twgC, i64_ok (x := (l.length : Int) - 1) (by omega), qb])
          all_goals (clear ih i1 i2 hnx; simp_all)
        | some b =>
          rw [hb] at i2
          simp only [head_all]
          refine PC.o okC Tryz.func345 rfl (.bool _) fun h nx hnx => ?_
          try simp [-map_take, -map_drop, -map_tail, rgs, twgC, i64_ok (x := (l.length : Int) - 1) (by omega)]
          repeat' first | done | ((first | ((with_reducible show lenS _ _ _ _ _ _); refine lenS_slice rfl fun _ => ?_) | ((with_reducible show iaddrS _ _ _ _ _ _ _); refine iaddr_map rfl omA omA ?_) | ((with_reducible show doCall _ _ _ 376 _ _); refine call_pc (c_size_Twig) ?_) | ((with_reducible show doCall _ _ _ 165 _ _); refine call_pc (c_within) ?_) | ((with_reducible show doCall _ _ _ 370 _ _); refine call_pc (c_parts hp (by omega) (by omega)) ?_) | (refine call_pc (i1) ?_) | (refine call_pc (i2) ?_) | ((with_reducible show doCall _ _ _ 377 _ _); refine call_pc (c_rank ha) ?_) | ((with_reducible show doCall _ _ _ 377 _ _); refine call_pc (c_rank hb) ?_) | ((with_reducible show doCall _ _ _ 372 _ _); refine call_pc (c_compare (a := gt l 0)) ?_) | (with_reducible refine go_draw (i := 3) [(0, [], []), (1, [], []), (2, [], []), (3, [], []), (4, [], []), (5, [.tmp 10], []), (6, [], []), (7, [], []), (8, [], [])] (by kernel_rfl) ?_) | (with_reducible refine go_draw (i := 8) [(0, [], []), (1, [], []), (2, [], []), (3, [], []), (4, [], []), (5, [], []), (6, [], []), (7, [], []), (8, [], []), (9, [], []), (10, [], []), (11, [], []), (12, [], []), (13, [], []), (14, [], []), (15, [], []), (16, [], []), (17, [], []), (18, [], []), (19, [], []), (20, [], []), (21, [], []), (22, [], []), (23, [], []), (24, [], []), (25, [], []), (26, [], []), (27, [], []), (28, [], [])] (by kernel_rfl) ?_)) <;> simp [-map_take, -map_drop, -map_tail, rgs, twgC, i64_ok (x := (l.length : Int) - 1) (by omega)]) | ((first | (with_reducible refine guardD_split ?_ ?_) | (with_reducible refine guardS_split ?_ ?_) | (with_reducible refine condS_split ?_ ?_)) <;> intro qb <;> (have qp := qb; try simp only [psq] at qp) <;> simp [-map_take, -map_drop, -map_tail, rgs, twgC, i64_ok (x := (l.length : Int) - 1) (by omega), qb])
          all_goals clear ih i1 i2 hnx
          all_goals first | (simp_all; done) | (simp_all; omega) | grind | trace_state
    · obtain rfl : l = [] := by cases l <;> simp at hp ⊢
      refine PC.o okC Tryz.func345 rfl (.bool _) fun h nx hnx => ?_
      try simp [-map_take, -map_drop, -map_tail, rgs, rk_nil]
      repeat' first | done | ((first | ((with_reducible show lenS _ _ _ _ _ _); refine lenS_slice rfl fun _ => ?_) | ((with_reducible show iaddrS _ _ _ _ _ _ _); refine iaddr_map rfl omA omA ?_) | (with_reducible refine go_draw (i := 3) [(0, [], []), (1, [], []), (2, [], []), (3, [], []), (4, [], []), (5, [.tmp 10], []), (6, [], []), (7, [], []), (8, [], [])] (by kernel_rfl) ?_) | (with_reducible refine go_draw (i := 8) [(0, [], []), (1, [], []), (2, [], []), (3, [], []), (4, [], []), (5, [], []), (6, [], []), (7, [], []), (8, [], []), (9, [], []), (10, [], []), (11, [], []), (12, [], []), (13, [], []), (14, [], []), (15, [], []), (16, [], []), (17, [], []), (18, [], []), (19, [], []), (20, [], []), (21, [], []), (22, [], []), (23, [], []), (24, [], []), (25, [], []), (26, [], []), (27, [], []), (28, [], [])] (by kernel_rfl) ?_)) <;> simp [-map_take, -map_drop, -map_tail, rgs, rk_nil]) | ((first | (with_reducible refine guardD_split ?_ ?_) | (with_reducible refine guardS_split ?_ ?_) | (with_reducible refine condS_split ?_ ?_)) <;> intro qb <;> (have qp := qb; try simp only [psq] at qp) <;> simp [-map_take, -map_drop, -map_tail, rgs, rk_nil, qb])
theorem c_isHeap {p : Bool} {l : List Twg} : PC ctx.P 345 [.view p 3 (l.map twgC)] (.bool (rk l).isSome) := c_isHeapN _ _ (Nat.le_refl _)
theorem c_HeapOk {p : Bool} {l : List Twg} : PC ctx.P 270 [.view p 3 (l.map twgC)] (.bool (heapOk l)) := by
  refine PC.lim (n := l.length) (x := .view p 3 (l.map twgC)) (by simp) (.here (by simp)) ⟨_, Tryz.func270, by kernel_rfl, by kernel_rfl⟩ fun hlim => ?_
  refine PC.o okC Tryz.func270 rfl (.bool _) fun h nx hnx => ?_
  try simp [-map_take, -map_drop, -map_tail, rgs]
  repeat' first | done | ((first | ((with_reducible show lenS _ _ _ _ _ _); refine lenS_slice rfl fun _ => ?_) | ((with_reducible show iaddrS _ _ _ _ _ _ _); refine iaddr_map rfl omA omA ?_) | ((with_reducible show sliceS _ _ _ _ _ _ _ _); refine slice_to rfl omA omA ?_) | ((with_reducible show sliceS _ _ _ _ _ _ _ _); refine slice_from rfl omA omA ?_) | ((with_reducible show sliceS _ _ _ _ _ _ _ _); refine slice_mid rfl omA omA omA ?_) | ((with_reducible show sliceI _ _ _ _ _ _ _ _ _ _ _); refine sliceI_to rfl omA omA ?_) | ((with_reducible show sliceI _ _ _ _ _ _ _ _ _ _ _); refine sliceI_from rfl omA omA ?_) | ((with_reducible show sliceI _ _ _ _ _ _ _ _ _ _ _); refine sliceI_mid rfl omA omA omA ?_) | (with_reducible refine go_draw (i := 6) [(0, [], []), (1, [], []), (2, [], []), (3, [], []), (4, [], []), (5, [], []), (6, [], [])] (by kernel_rfl) ?_)) <;> simp [-map_take, -map_drop, -map_tail, rgs]) | ((first | (with_reducible refine condS_split ?_ ?_)) <;> intro qb <;> (have qp := qb; try simp only [psq] at qp) <;> simp [-map_take, -map_drop, -map_tail, rgs, qb])
  · all_goals (try clear hnx)
    all_goals first | (simp_all [heapOk]; done) | (simp_all [heapOk]; omega) | (rw [Bool.eq_iff_iff]; simp_all [heapOk]; done) | (rw [Bool.eq_iff_iff]; simp_all [heapOk]; omega) | omega | (simp only [heapOk]; grind) | grind
  · refine go_upP [2, 3, 4, 10, 11, 12, 13, 14, 15, 16, 17, 18, 19, 20, 21, 22] (l.length) (fun (i : Nat) a => [(10, .int .i64 i)]) (fun i_ a_ h_ _ => (fun i (_ : Unit) _ => allI (fun i x => !(decide (0 ≤ seqAt (l.take i.toNat) x.seq))) (l.drop i) i = allI (fun i x => !(decide (0 ≤ seqAt (l.take i.toNat) x.seq))) l 0) i_ a_ h_) (()) (by simp) ?_ keep_rfl (Nat.le_refl _) ?_
    · simp
    · intro i a tm h' n' hle hJ hE hn' next hnx
      try dsimp only at hJ
      have hK : KeepB nx h' h := KeepB.sub hE keepA (by omega)
      simp [-map_take, -map_drop, -map_tail]
      try simp [-map_take, -map_drop, -map_tail, rgs, twgC]
      repeat' first | done | ((first | ((with_reducible show lenS _ _ _ _ _ _); refine lenS_slice rfl fun _ => ?_) | ((with_reducible show iaddrS _ _ _ _ _ _ _); refine iaddr_map rfl omA omA ?_) | ((with_reducible show sliceS _ _ _ _ _ _ _ _); refine slice_to rfl omA omA ?_) | ((with_reducible show sliceS _ _ _ _ _ _ _ _); refine slice_from rfl omA omA ?_) | ((with_reducible show sliceS _ _ _ _ _ _ _ _); refine slice_mid rfl omA omA omA ?_) | ((with_reducible show sliceI _ _ _ _ _ _ _ _ _ _ _); refine sliceI_to rfl omA omA ?_) | ((with_reducible show sliceI _ _ _ _ _ _ _ _ _ _ _); refine sliceI_from rfl omA omA ?_) | ((with_reducible show sliceI _ _ _ _ _ _ _ _ _ _ _); refine sliceI_mid rfl omA omA omA ?_) | ((with_reducible show doCall _ _ _ 344 _ _); refine call_pc (c_seqAt) ?_) | ((with_reducible show doCall _ _ _ 345 _ _); refine call_pc (c_isHeap) ?_) | (with_reducible refine go_draw (i := 6) [(0, [], []), (1, [], []), (2, [], []), (3, [], []), (4, [], []), (5, [], []), (6, [], [])] (by kernel_rfl) ?_)) <;> simp [-map_take, -map_drop, -map_tail, rgs, twgC]) | ((first | (with_reducible refine condS_split ?_ ?_)) <;> intro qb <;> (have qp := qb; try simp only [psq] at qp) <;> simp [-map_take, -map_drop, -map_tail, rgs, twgC, qb])
      all_goals
        first
        | (have hlt : i < l.length := (by first | omega | (simp at *; omega))
           rw [drop_gt hlt] at hJ
           first
           | (refine hnx.go (()) ?_ ?_ ?_ ?_ ?_ ?_; omega; (simp [wrap_succ hlt hlim]); (simp); exact keepA; (first | omega | (simp; omega)); (try dsimp only); clear hnx; first | ((try simp only [List.drop_length, Int.toNat_natCast, allI, heapOk] at hJ ⊢); grind) | (simp_all [allI, heapOk]; done) | (simp_all; omega))
           | (refine ⟨?_, keepA⟩; clear hnx; first | ((try simp only [List.drop_length, Int.toNat_natCast, allI, heapOk] at hJ ⊢); grind) | (simp_all [allI, heapOk]; done) | (simp_all; omega)))
        | (obtain rfl : i = l.length := (by first | omega | (simp at *; omega))
           refine ⟨?_, keepA⟩; clear hnx; first | ((try simp only [List.drop_length, Int.toNat_natCast, allI, heapOk] at hJ ⊢); grind) | (simp_all [allI, heapOk]; done) | (simp_all; omega))

theorem c_isNode {n : Nod} {i : Int} (h0 : 0 ≤ i) (h1 : i ≤ LIM) : PC ctx.P 245 [.agg (nodC n), .int .i64 i] (.bool (isNode n i)) := by
  simp only [LIM] at h1
  refine PC.o okC Tryz.func245 rfl (.bool _) fun h nx hnx => ?_
  try simp [-map_take, -map_drop, -map_tail, rgs, nodC, i64_ok (x := i) (by omega), i64_ok (x := i - 1) (by omega)]
  repeat' first | done | ((first | ((with_reducible show doCall _ _ _ 165 _ _); refine call_pc (c_within) ?_)) <;> simp [-map_take, -map_drop, -map_tail, rgs, nodC, i64_ok (x := i) (by omega), i64_ok (x := i - 1) (by omega)]) | ((first | (with_reducible refine guardS_split ?_ ?_) | (with_reducible refine condS_split ?_ ?_)) <;> intro qb <;> (have qp := qb; try simp only [psq] at qp) <;> simp [-map_take, -map_drop, -map_tail, rgs, nodC, i64_ok (x := i) (by omega), i64_ok (x := i - 1) (by omega), qb])
  all_goals (try clear hnx)
  all_goals first | (simp_all [isNode, never]; done) | (simp_all [isNode, never]; omega) | (rw [Bool.eq_iff_iff]; simp_all [isNode, never]; done) | (rw [Bool.eq_iff_iff]; simp_all [isNode, never]; omega) | omega | (simp only [isNode, never]; grind) | grind
theorem c_TreeOk {p : Bool} {t : List Nod} : PC ctx.P 266 [.view p 5 (t.map nodC)] (.bool (treeOk t)) := by
  refine PC.lim (n := t.length) (x := .view p 5 (t.map nodC)) (by simp) (.here (by simp)) ⟨_, Tryz.func266, by kernel_rfl, by kernel_rfl⟩ fun hlim => ?_
  refine PC.o okC Tryz.func266 rfl (.bool _) fun h nx hnx => ?_
  try simp [-map_take, -map_drop, -map_tail, rgs]
  repeat' first | done | ((first | ((with_reducible show lenS _ _ _ _ _ _); refine lenS_slice rfl fun _ => ?_) | ((with_reducible show iaddrS _ _ _ _ _ _ _); refine iaddr_map rfl omA omA ?_)) <;> simp [-map_take, -map_drop, -map_tail, rgs]) | ((first | (with_reducible refine guardS_split ?_ ?_) | (with_reducible refine condS_split ?_ ?_)) <;> intro qb <;> (have qp := qb; try simp only [psq] at qp) <;> simp [-map_take, -map_drop, -map_tail, rgs, qb])
  refine go_upP [2, 3, 4, 7, 8, 9, 10, 11, 12, 13, 14, 15, 16, 17, 18, 19, 20] (t.length) (fun (i : Nat) a => [(7, .int .i64 i)]) (fun i_ a_ h_ _ => (fun i (_ : Unit) _ => allI (fun i n => i != 60 && isNode n i) (t.drop i) i = treeOk t) i_ a_ h_) (()) (by simp) ?_ keep_rfl (Nat.le_refl _) ?_
  · simp [treeOk]
  · intro i a tm h' n' hle hJ hE hn' next hnx
    try dsimp only at hJ
    have hK : KeepB nx h' h := KeepB.sub hE keepA (by omega)
    simp [-map_take, -map_drop, -map_tail]
    try simp [-map_take, -map_drop, -map_tail, rgs]
    repeat' first | done | ((first | ((with_reducible show lenS _ _ _ _ _ _); refine lenS_slice rfl fun _ => ?_) | ((with_reducible show iaddrS _ _ _ _ _ _ _); refine iaddr_map rfl omA omA ?_) | ((with_reducible show doCall _ _ _ 245 _ _); refine call_pc (c_isNode (by omega) (by omega)) ?_)) <;> simp [-map_take, -map_drop, -map_tail, rgs]) | ((first | (with_reducible refine guardS_split ?_ ?_) | (with_reducible refine condS_split ?_ ?_)) <;> intro qb <;> (have qp := qb; try simp only [psq] at qp) <;> simp [-map_take, -map_drop, -map_tail, rgs, qb])
    all_goals
      first
      | (have hlt : i < t.length := (by first | omega | (simp at *; omega))
         rw [drop_gt hlt] at hJ
         first
         | (refine hnx.go (()) ?_ ?_ ?_ ?_ ?_ ?_; omega; (simp [wrap_succ hlt hlim]); (simp); exact keepA; (first | omega | (simp; omega)); (try dsimp only); clear hnx; first | ((try simp only [List.drop_length, Int.toNat_natCast, allI] at hJ ⊢); grind) | (simp_all [allI]; done) | (simp_all; omega))
         | (refine ⟨?_, keepA⟩; clear hnx; first | ((try simp only [List.drop_length, Int.toNat_natCast, allI] at hJ ⊢); grind) | (simp_all [allI]; done) | (simp_all; omega)))
      | (obtain rfl : i = t.length := (by first | omega | (simp at *; omega))
         refine ⟨?_, keepA⟩; clear hnx; first | ((try simp only [List.drop_length, Int.toNat_natCast, allI] at hJ ⊢); grind) | (simp_all [allI]; done) | (simp_all; omega))
theorem c_Index {p : Bool} {xs : List Int} {n : Int} : PC ctx.P 201 [.view p 1 (xs.map iv), .int .i64 n] (.int .i64 (idxI (fun x => n == x) xs 0)) := by
  refine PC.lim (n := xs.length) (x := .view p 1 (xs.map iv)) (by simp) (.here (by simp)) ⟨_, Tryz.func201, by kernel_rfl, by kernel_rfl⟩ fun hlim => ?_
  refine PC.o okC Tryz.func201 rfl (.int _ _) fun h nx hnx => ?_
  try simp [-map_take, -map_drop, -map_tail, rgs]
  repeat' first | done | ((first | ((with_reducible show lenS _ _ _ _ _ _); refine lenS_slice rfl fun _ => ?_) | ((with_reducible show iaddrS _ _ _ _ _ _ _); refine iaddr_map rfl omA omA ?_)) <;> simp [-map_take, -map_drop, -map_tail, rgs]) | ((first | (with_reducible refine condS_split ?_ ?_)) <;> intro qb <;> (have qp := qb; try simp only [psq] at qp) <;> simp [-map_take, -map_drop, -map_tail, rgs, qb])
  refine go_upP [4, 5, 8, 9, 10, 11, 12, 13, 14, 15, 16, 17, 18] (xs.length) (fun (i : Nat) a => [(8, .int .i64 i)]) (fun i_ a_ h_ _ => (fun i (_ : Unit) _ => idxI (fun x => n == x) (xs.drop i) i = idxI (fun x => n == x) xs 0) i_ a_ h_) (()) (by simp) ?_ keep_rfl (Nat.le_refl _) ?_
  · simp
  · intro i a tm h' n' hle hJ hE hn' next hnx
    try dsimp only at hJ
    have hK : KeepB nx h' h := KeepB.sub hE keepA (by omega)
    simp [-map_take, -map_drop, -map_tail]
    try simp [-map_take, -map_drop, -map_tail, rgs, iv]
    repeat' first | done | ((first | ((with_reducible show lenS _ _ _ _ _ _); refine lenS_slice rfl fun _ => ?_) | ((with_reducible show iaddrS _ _ _ _ _ _ _); refine iaddr_map rfl omA omA ?_)) <;> simp [-map_take, -map_drop, -map_tail, rgs, iv]) | ((first | (with_reducible refine condS_split ?_ ?_)) <;> intro qb <;> (have qp := qb; try simp only [psq] at qp) <;> simp [-map_take, -map_drop, -map_tail, rgs, iv, qb])
    all_goals
      first
      | (have hlt : i < xs.length := (by first | omega | (simp at *; omega))
         rw [drop_gt hlt] at hJ
         first
         | (refine hnx.go (()) ?_ ?_ ?_ ?_ ?_ ?_; omega; (simp [wrap_succ hlt hlim]); (simp); exact keepA; (first | omega | (simp; omega)); (try dsimp only); clear hnx; first | ((try simp only [List.drop_length, Int.toNat_natCast, idxI] at hJ ⊢); grind) | (simp_all [idxI]; done) | (simp_all; omega))
         | (refine ⟨?_, keepA⟩; clear hnx; first | ((try simp only [List.drop_length, Int.toNat_natCast, idxI] at hJ ⊢); grind) | (simp_all [idxI]; done) | (simp_all; omega)))
      | (obtain rfl : i = xs.length := (by first | omega | (simp at *; omega))
         refine ⟨?_, keepA⟩; clear hnx; first | ((try simp only [List.drop_length, Int.toNat_natCast, idxI] at hJ ⊢); grind) | (simp_all [idxI]; done) | (simp_all; omega))
theorem c_Contains {p : Bool} {xs : List Int} {n : Int} : PC ctx.P 88 [.view p 1 (xs.map iv), .int .i64 n] (.bool (xs.contains n)) := by
  have e : decide (0 ≤ idxI (fun x => n == x) xs 0) = xs.contains n := by rw [idxI_any _ _ 0 (Int.le_refl 0), any_contains]
  refine PC.o okC Tryz.func88 rfl (.bool _) fun h nx hnx => ?_
  try simp [-map_take, -map_drop, -map_tail, rgs, e]
  repeat' first | done | ((first | ((with_reducible show doCall _ _ _ 201 _ _); refine call_pc (c_Index) ?_)) <;> simp [-map_take, -map_drop, -map_tail, rgs, e])
theorem c_isEvent {p : Bool} {t : List Nod} {e : Evt} : PC ctx.P 342 [.agg (evtC e), .view p 5 (t.map nodC)] (.bool (isEvent t e)) := by
  refine PC.o okC Tryz.func342 rfl (.bool _) fun h nx hnx => ?_
  try simp [-map_take, -map_drop, -map_tail, rgs, evtC, nodC]
  repeat' first | done | ((first | ((with_reducible show iaddrS _ _ _ _ _ _ _); refine iaddr_map rfl omA omA ?_) | ((with_reducible show doCall _ _ _ 172 _ _); refine call_pc (c_isIn_Node) ?_) | ((with_reducible show doCall _ _ _ 165 _ _); refine call_pc (c_within) ?_) | ((with_reducible show doCall _ _ _ 84 _ _); refine call_pc (c_IsDue) ?_) | (with_reducible refine go_draw (i := 8) [(0, [], []), (1, [], []), (2, [], []), (3, [], []), (4, [], []), (5, [], []), (6, [], []), (7, [], []), (8, [], []), (9, [], []), (10, [], []), (11, [], []), (12, [], []), (13, [], []), (14, [], []), (15, [], []), (16, [], []), (17, [], []), (18, [], [])] (by kernel_rfl) ?_)) <;> simp [-map_take, -map_drop, -map_tail, rgs, evtC, nodC]) | ((first | (with_reducible refine guardD_split ?_ ?_) | (with_reducible refine guardS_split ?_ ?_) | (with_reducible refine condS_split ?_ ?_)) <;> intro qb <;> (have qp := qb; try simp only [psq] at qp) <;> simp [-map_take, -map_drop, -map_tail, rgs, evtC, nodC, qb])
  all_goals (try clear hnx)
  all_goals first | (simp_all [isEvent]; done) | (simp_all [isEvent]; omega) | (rw [Bool.eq_iff_iff]; simp_all [isEvent]; done) | (rw [Bool.eq_iff_iff]; simp_all [isEvent]; omega) | omega | (simp only [isEvent]; grind) | grind
theorem c_isSpread1 {p : Bool} {t : List Nod} {n : Int} : PC ctx.P 269 [.int .i64 n, .vptr [.view p 5 (t.map nodC)]] (.bool (!isIn n t)) := by
  refine PC.o okC Tryz.func269 rfl (.bool _) fun h nx hnx => ?_
  try simp [-map_take, -map_drop, -map_tail, rgs]
  repeat' first | done | ((first | ((with_reducible show doCall _ _ _ 172 _ _); refine call_pc (c_isIn_Node) ?_)) <;> simp [-map_take, -map_drop, -map_tail, rgs])
theorem c_isSpread {F : Nat → Bool} {p : Bool} {t : List Nod} {s : Spr} : PC ctx.P 163 [.agg (sprV F s), .view p 5 (t.map nodC)] (.bool (isSpread s t)) := by
  refine PC.o okC Tryz.func163 rfl (.bool _) fun h nx hnx => ?_
  try simp [-map_take, -map_drop, -map_tail, rgs, sprV]
  repeat' first | done | ((first | ((with_reducible show lenS _ _ _ _ _ _); refine lenS_slice rfl fun _ => ?_) | ((with_reducible show doCall _ _ _ 268 _ _); refine call_pcB (c_ContainsFunc_int64 (q := fun n => !isIn n t) (fv := .fn 269 [.vptr [.view p 5 (t.map nodC)]]) (fun x _ => c_isSpread1)) (by first | exact .bool _ | exact .int _ _ | exact .str _) (by repeat' first | exact Bors.nil | refine Bors.cons ?_ ?_ | exact Bor.same _ | refine Bor.fn1 ?_ | refine Bor.bnd1 ?_ | refine Bor.agg1 ?_ | refine Bor.ptr0 (by first | (simp; done) | (simp; rfl) | assumption | (simp [*]; done)) ?_ | refine Bor.ref0 (by first | (simp; done) | (simp; rfl) | (simp [iv, bv]; done)) (by simp) (by simp)) ?_)) <;> simp [-map_take, -map_drop, -map_tail, rgs, sprV]) | ((first | (with_reducible refine guardS_split ?_ ?_)) <;> intro qb <;> (have qp := qb; try simp only [psq] at qp) <;> simp [-map_take, -map_drop, -map_tail, rgs, sprV, qb])
  all_goals (try clear hnx)
  all_goals first | (simp_all [isSpread]; done) | (simp_all [isSpread]; omega) | (rw [Bool.eq_iff_iff]; simp_all [isSpread]; done) | (rw [Bool.eq_iff_iff]; simp_all [isSpread]; omega) | omega | (simp only [isSpread]; grind) | grind
end Go.AE.Tryz
end

section
/- Contracts of the program's readers: tasks, groups, worlds. -/
set_option linter.unusedSimpArgs false
set_option linter.unusedVariables false
set_option maxRecDepth 8000
set_option maxHeartbeats 2000000
namespace Go.AE.Tryz
open Go.Proofs
open List (map_take map_drop map_tail)

theorem c_hasNode {n : Int} : PC ctx.P 340 [.int .i64 n] (.bool (hasNode n)) := by
  refine PC.o okC Tryz.func340 rfl (.bool _) fun h nx hnx => ?_
  try simp [-map_take, -map_drop, -map_tail, rgs]
  repeat' first | done | ((first | ((with_reducible show doCall _ _ _ 165 _ _); refine call_pc (c_within) ?_)) <;> simp [-map_take, -map_drop, -map_tail, rgs]) | ((first | (with_reducible refine guardS_split ?_ ?_)) <;> intro qb <;> (have qp := qb; try simp only [psq] at qp) <;> simp [-map_take, -map_drop, -map_tail, rgs, qb])
  all_goals (try clear hnx)
  all_goals first | (simp_all [hasNode]; done) | (simp_all [hasNode]; omega) | (rw [Bool.eq_iff_iff]; simp_all [hasNode]; done) | (rw [Bool.eq_iff_iff]; simp_all [hasNode]; omega) | omega | (simp only [hasNode]; grind) | grind
theorem c_hasB {n : Int} : PC ctx.P 341 [.int .i64 n] (.bool (hasB n)) := by
  refine PC.o okC Tryz.func341 rfl (.bool _) fun h nx hnx => ?_
  try simp [-map_take, -map_drop, -map_tail, rgs]
  repeat' first | done | ((first | (with_reducible refine guardS_split ?_ ?_)) <;> intro qb <;> (have qp := qb; try simp only [psq] at qp) <;> simp [-map_take, -map_drop, -map_tail, rgs, qb])
  all_goals (try clear hnx)
  all_goals first | (simp_all [hasB]; done) | (simp_all [hasB]; omega) | (rw [Bool.eq_iff_iff]; simp_all [hasB]; done) | (rw [Bool.eq_iff_iff]; simp_all [hasB]; omega) | omega | (simp only [hasB]; grind) | grind
theorem c_InsOk {x : Inn} : PC ctx.P 265 [.agg (innC x)] (.bool (innOk x)) := by
  refine PC.o okC Tryz.func265 rfl (.bool _) fun h nx hnx => ?_
  try simp [-map_take, -map_drop, -map_tail, rgs, innC]
  repeat' first | done | ((first | ((with_reducible show doCall _ _ _ 340 _ _); refine call_pc (c_hasNode) ?_) | ((with_reducible show doCall _ _ _ 341 _ _); refine call_pc (c_hasB) ?_) | ((with_reducible show doCall _ _ _ 165 _ _); refine call_pc (c_within) ?_)) <;> simp [-map_take, -map_drop, -map_tail, rgs, innC]) | ((first | (with_reducible refine guardS_split ?_ ?_) | (with_reducible refine condS_split ?_ ?_)) <;> intro qb <;> (have qp := qb; try simp only [psq] at qp) <;> simp [-map_take, -map_drop, -map_tail, rgs, innC, qb])
  all_goals (try clear hnx)
  all_goals first | (simp_all [innOk]; done) | (simp_all [innOk]; omega) | (rw [Bool.eq_iff_iff]; simp_all [innOk]; done) | (rw [Bool.eq_iff_iff]; simp_all [innOk]; omega) | omega | (simp only [innOk]; grind) | grind
theorem c_ProgOk1 {x : Inn} : PC ctx.P 264 [.agg (innC x)] (.bool (!innOk x)) := by
  refine PC.o okC Tryz.func264 rfl (.bool _) fun h nx hnx => ?_
  try simp [-map_take, -map_drop, -map_tail, rgs]
  repeat' first | done | ((first | ((with_reducible show doCall _ _ _ 265 _ _); refine call_pc (c_InsOk) ?_)) <;> simp [-map_take, -map_drop, -map_tail, rgs])
theorem c_ProgOk {p : Bool} {l : List Inn} : PC ctx.P 161 [.view p 3 (l.map innC)] (.bool (progOk l)) := by
  refine PC.o okC Tryz.func161 rfl (.bool _) fun h nx hnx => ?_
  try simp [-map_take, -map_drop, -map_tail, rgs]
  repeat' first | done | ((first | ((with_reducible show lenS _ _ _ _ _ _); refine lenS_slice rfl fun _ => ?_) | ((with_reducible show doCall _ _ _ 263 _ _); refine call_pc (c_ContainsFunc_Ins (q := fun x => !innOk x) (fun x _ => c_ProgOk1)) ?_)) <;> simp [-map_take, -map_drop, -map_tail, rgs]) | ((first | (with_reducible refine guardS_split ?_ ?_)) <;> intro qb <;> (have qp := qb; try simp only [psq] at qp) <;> simp [-map_take, -map_drop, -map_tail, rgs, qb])
  all_goals (try clear hnx)
  all_goals first | (simp_all [progOk]; done) | (simp_all [progOk]; omega) | (rw [Bool.eq_iff_iff]; simp_all [progOk]; done) | (rw [Bool.eq_iff_iff]; simp_all [progOk]; omega) | omega | (simp only [progOk]; grind) | grind
theorem c_TaskOk {t : Tsk} : PC ctx.P 285 [.agg (tskC t)] (.bool (tskOk t)) := by
  refine PC.o okC Tryz.func285 rfl (.bool _) fun h nx hnx => ?_
  try simp [-map_take, -map_drop, -map_tail, rgs, tskC]
  repeat' first | done | ((first | ((with_reducible show doCall _ _ _ 165 _ _); refine call_pc (c_within) ?_) | (with_reducible refine go_draw (i := 3) [(0, [], []), (1, [], []), (2, [], []), (3, [], []), (4, [], []), (5, [.tmp 34], []), (6, [], []), (7, [], []), (8, [], []), (9, [], []), (10, [], []), (11, [], []), (12, [], []), (13, [], []), (14, [], []), (15, [], []), (16, [], [])] (by kernel_rfl) ?_)) <;> simp [-map_take, -map_drop, -map_tail, rgs, tskC]) | ((first | (with_reducible refine guardD_split ?_ ?_) | (with_reducible refine guardS_split ?_ ?_) | (with_reducible refine condS_split ?_ ?_)) <;> intro qb <;> (have qp := qb; try simp only [psq] at qp) <;> simp [-map_take, -map_drop, -map_tail, rgs, tskC, qb])
  all_goals (try clear hnx)
  all_goals first | (simp_all [tskOk]; done) | (simp_all [tskOk]; omega) | (rw [Bool.eq_iff_iff]; simp_all [tskOk]; done) | (rw [Bool.eq_iff_iff]; simp_all [tskOk]; omega) | omega | (simp only [tskOk]; grind) | grind
theorem c_TasksOk1 {t : Tsk} : PC ctx.P 284 [.agg (tskC t)] (.bool (!tskOk t)) := by
  refine PC.o okC Tryz.func284 rfl (.bool _) fun h nx hnx => ?_
  try simp [-map_take, -map_drop, -map_tail, rgs]
  repeat' first | done | ((first | ((with_reducible show doCall _ _ _ 285 _ _); refine call_pc (c_TaskOk) ?_)) <;> simp [-map_take, -map_drop, -map_tail, rgs])
theorem c_TasksOk {p : Bool} {l : List Tsk} : PC ctx.P 173 [.view p 9 (l.map tskC)] (.bool (tasksOk l)) := by
  refine PC.o okC Tryz.func173 rfl (.bool _) fun h nx hnx => ?_
  try simp [-map_take, -map_drop, -map_tail, rgs]
  repeat' first | done | ((first | ((with_reducible show lenS _ _ _ _ _ _); refine lenS_slice rfl fun _ => ?_) | ((with_reducible show doCall _ _ _ 283 _ _); refine call_pc (c_ContainsFunc_Task (q := fun x => !tskOk x) (fun x _ => c_TasksOk1)) ?_)) <;> simp [-map_take, -map_drop, -map_tail, rgs]) | ((first | (with_reducible refine guardS_split ?_ ?_)) <;> intro qb <;> (have qp := qb; try simp only [psq] at qp) <;> simp [-map_take, -map_drop, -map_tail, rgs, qb])
  all_goals (try clear hnx)
  all_goals first | (simp_all [tasksOk]; done) | (simp_all [tasksOk]; omega) | (rw [Bool.eq_iff_iff]; simp_all [tasksOk]; done) | (rw [Bool.eq_iff_iff]; simp_all [tasksOk]; omega) | omega | (simp only [tasksOk]; grind) | grind
theorem c_isAfter {a b : Int} : PC ctx.P 279 [.int .i64 a, .int .i64 b] (.bool (isAfter a b)) := by
  refine PC.o okC Tryz.func279 rfl (.bool _) fun h nx hnx => ?_
  try simp [-map_take, -map_drop, -map_tail, rgs]
  repeat' first | done | ((first | ((with_reducible show doCall _ _ _ 165 _ _); refine call_pc (c_within) ?_)) <;> simp [-map_take, -map_drop, -map_tail, rgs]) | ((first | (with_reducible refine guardS_split ?_ ?_)) <;> intro qb <;> (have qp := qb; try simp only [psq] at qp) <;> simp [-map_take, -map_drop, -map_tail, rgs, qb])
  all_goals (try clear hnx)
  all_goals first | (simp_all [isAfter]; done) | (simp_all [isAfter]; omega) | (rw [Bool.eq_iff_iff]; simp_all [isAfter]; done) | (rw [Bool.eq_iff_iff]; simp_all [isAfter]; omega) | omega | (simp only [isAfter]; grind) | grind
theorem c_afsAt1 {x : Afr} {h : Han} : PC ctx.P 351 [.agg (afrC x), .vptr (hanC h)] (.bool (x.han == h)) := by
  refine PC.o okC Tryz.func351 rfl (.bool _) fun h nx hnx => ?_
  try simp [-map_take, -map_drop, -map_tail, rgs, afrC, hanC, han_eq, lfOf, cellsEq, cellEq]
theorem c_afsAt {F : Nat → Bool} {a : Afs} {x : Han} : PC ctx.P 281 [.agg (afsV F a), .agg (hanC x)] (.int .i64 (afsAt a.list x)) := by
  refine PC.o okC Tryz.func281 rfl (.int _ _) fun h nx hnx => ?_
  try simp [-map_take, -map_drop, -map_tail, rgs, afsV, afsAt]
  repeat' first | done | ((first | ((with_reducible show doCall _ _ _ 305 _ _); refine call_pcB (c_IndexFunc_After (q := fun y => y.han == x) (fv := .fn 351 [.vptr (hanC x)]) (fun x _ => c_afsAt1)) (by first | exact .bool _ | exact .int _ _ | exact .str _) (by repeat' first | exact Bors.nil | refine Bors.cons ?_ ?_ | exact Bor.same _ | refine Bor.fn1 ?_ | refine Bor.bnd1 ?_ | refine Bor.agg1 ?_ | refine Bor.ptr0 (by first | (simp; done) | (simp; rfl) | assumption | (simp [*]; done)) ?_ | refine Bor.ref0 (by first | (simp; done) | (simp; rfl) | (simp [iv, bv]; done)) (by simp) (by simp)) ?_)) <;> simp [-map_take, -map_drop, -map_tail, rgs, afsV, afsAt])
theorem c_isTimer {F : Nat → Bool} {w : Wld} {t : Tmr} : PC ctx.P 168 [.agg (wldV F w), .agg (tmrC t)] (.bool (isTimer w t)) := by
  refine PC.o okC Tryz.func168 rfl (.bool _) fun h nx hnx => ?_
  try simp [-map_take, -map_drop, -map_tail, rgs, wldV, tmrC]
  repeat' first | done | ((first | ((with_reducible show doCall _ _ _ 172 _ _); refine call_pc (c_isIn_Node) ?_) | ((with_reducible show doCall _ _ _ 275 _ _); refine call_pc (c_isIn_Task) ?_)) <;> simp [-map_take, -map_drop, -map_tail, rgs, wldV, tmrC]) | ((first | (with_reducible refine condS_split ?_ ?_)) <;> intro qb <;> (have qp := qb; try simp only [psq] at qp) <;> simp [-map_take, -map_drop, -map_tail, rgs, wldV, tmrC, qb])
  all_goals (try clear hnx)
  all_goals first | (simp_all [isTimer]; done) | (simp_all [isTimer]; omega) | (rw [Bool.eq_iff_iff]; simp_all [isTimer]; done) | (rw [Bool.eq_iff_iff]; simp_all [isTimer]; omega) | omega | (simp only [isTimer]; grind) | grind
theorem c_isSight {F : Nat → Bool} {w : Wld} {s : Sgt} : PC ctx.P 179 [.agg (wldV F w), .agg (sgtC s)] (.bool (isSight w s)) := by
  refine PC.o okC Tryz.func179 rfl (.bool _) fun h nx hnx => ?_
  try simp [-map_take, -map_drop, -map_tail, rgs, wldV, sgtC]
  repeat' first | done | ((first | ((with_reducible show doCall _ _ _ 172 _ _); refine call_pc (c_isIn_Node) ?_) | ((with_reducible show doCall _ _ _ 165 _ _); refine call_pc (c_within) ?_) | ((with_reducible show doCall _ _ _ 296 _ _); refine call_pc (c_size_Event) ?_) | (with_reducible refine go_draw (i := 1) [(0, [], []), (1, [], []), (2, [], []), (3, [], []), (4, [], []), (5, [], []), (6, [], []), (7, [], []), (8, [], []), (9, [], []), (10, [], []), (11, [.tmp 12], []), (12, [], []), (13, [], []), (14, [], [])] (by kernel_rfl) ?_)) <;> simp [-map_take, -map_drop, -map_tail, rgs, wldV, sgtC]) | ((first | (with_reducible refine guardD_split ?_ ?_) | (with_reducible refine guardS_split ?_ ?_) | (with_reducible refine condS_split ?_ ?_)) <;> intro qb <;> (have qp := qb; try simp only [psq] at qp) <;> simp [-map_take, -map_drop, -map_tail, rgs, wldV, sgtC, qb])
  all_goals (try clear hnx)
  all_goals first | (simp_all [isSight]; done) | (simp_all [isSight]; omega) | (rw [Bool.eq_iff_iff]; simp_all [isSight]; done) | (rw [Bool.eq_iff_iff]; simp_all [isSight]; omega) | omega | (simp only [isSight]; grind) | grind
theorem c_isTask {F : Nat → Bool} {w : Wld} {t : Tsk} : PC ctx.P 175 [.agg (wldV F w), .agg (tskC t)] (.bool (isTask w t)) := by
  refine PC.lim (n := w.groups.length) (x := .agg (wldV F w)) (by simp) (.agg (x := .view (F 12) 5 (w.groups.map (grpV (F 13)))) (by simp [wldV]) (.here (by simp))) ⟨_, Tryz.func175, by kernel_rfl, by kernel_rfl⟩ fun hlim => ?_
  refine PC.o okC Tryz.func175 rfl (.bool _) fun h nx hnx => ?_
  try simp [-map_take, -map_drop, -map_tail, rgs, wldV, tskC, prgV, wrap_pred hlim]
  repeat' first | done | ((first | ((with_reducible show iaddrS _ _ _ _ _ _ _); refine iaddr_map rfl omA omA ?_) | ((with_reducible show doCall _ _ _ 287 _ _); refine call_pc (c_isIn_Prog) ?_) | ((with_reducible show doCall _ _ _ 79 _ _); refine call_pc (c_size_Ins) ?_) | ((with_reducible show doCall _ _ _ 288 _ _); refine call_pc (c_size_Group) ?_) | ((with_reducible show doCall _ _ _ 165 _ _); refine call_pc (c_within) ?_) | ((with_reducible show doCall _ _ _ 172 _ _); refine call_pc (c_isIn_Node) ?_) | ((with_reducible show doCall _ _ _ 289 _ _); refine call_pc (c_isIn_Group) ?_) | (with_reducible refine go_draw (i := 1) [(0, [], []), (1, [], []), (2, [], []), (3, [], []), (4, [], []), (5, [], []), (6, [], []), (7, [], []), (8, [], []), (9, [], []), (10, [], []), (11, [], []), (12, [], []), (13, [], []), (14, [], []), (15, [.tmp 12], []), (16, [], []), (17, [], []), (18, [], []), (19, [], []), (20, [], []), (21, [], []), (22, [], []), (23, [.tmp 24], []), (24, [], []), (25, [], []), (26, [], []), (27, [], [])] (by kernel_rfl) ?_)) <;> simp [-map_take, -map_drop, -map_tail, rgs, wldV, tskC, prgV, wrap_pred hlim]) | ((first | (with_reducible refine guardD_split ?_ ?_) | (with_reducible refine condS_split ?_ ?_)) <;> intro qb <;> (have qp := qb; try simp only [psq] at qp) <;> simp [-map_take, -map_drop, -map_tail, rgs, wldV, tskC, prgV, wrap_pred hlim, qb])
  all_goals (try clear hnx)
  all_goals first | (simp_all [isTask]; done) | (simp_all [isTask]; omega) | (rw [Bool.eq_iff_iff]; simp_all [isTask]; done) | (rw [Bool.eq_iff_iff]; simp_all [isTask]; omega) | omega | (simp only [isTask]; grind) | grind
theorem c_isGroup1 {F : Nat → Bool} {w : Wld} {n : Int} : PC ctx.P 293 [.int .i64 n, .vptr (wldV F w)] (.bool (!isIn n w.tasks)) := by
  refine PC.o okC Tryz.func293 rfl (.bool _) fun h nx hnx => ?_
  try simp [-map_take, -map_drop, -map_tail, rgs, wldV]
  repeat' first | done | ((first | ((with_reducible show doCall _ _ _ 275 _ _); refine call_pc (c_isIn_Task) ?_)) <;> simp [-map_take, -map_drop, -map_tail, rgs, wldV])
theorem c_WorldOk1 {F : Nat → Bool} {w : Wld} {e : Evt} : PC ctx.P 164 [.agg (evtC e), .vptr (wldV F w)] (.bool (inR e.time 0 w.now)) := by
  refine PC.o okC Tryz.func164 rfl (.bool _) fun h nx hnx => ?_
  try simp [-map_take, -map_drop, -map_tail, rgs, wldV, evtC]
  repeat' first | done | ((first | ((with_reducible show doCall _ _ _ 165 _ _); refine call_pc (c_within) ?_)) <;> simp [-map_take, -map_drop, -map_tail, rgs, wldV, evtC])
theorem c_WorldOk2 {F : Nat → Bool} {w : Wld} {x : Afr} : PC ctx.P 171 [.agg (afrC x), .vptr (wldV F w)] (.bool (isIn x.node w.tree)) := by
  refine PC.o okC Tryz.func171 rfl (.bool _) fun h nx hnx => ?_
  try simp [-map_take, -map_drop, -map_tail, rgs, wldV, afrC]
  repeat' first | done | ((first | ((with_reducible show doCall _ _ _ 172 _ _); refine call_pc (c_isIn_Node) ?_)) <;> simp [-map_take, -map_drop, -map_tail, rgs, wldV, afrC])
theorem c_WorldOk3 {n : Int} : PC ctx.P 181 [.int .i64 n] (.bool (inR n 0 99)) := by
  refine PC.o okC Tryz.func181 rfl (.bool _) fun h nx hnx => ?_
  try simp [-map_take, -map_drop, -map_tail, rgs]
  repeat' first | done | ((first | ((with_reducible show doCall _ _ _ 165 _ _); refine call_pc (c_within) ?_)) <;> simp [-map_take, -map_drop, -map_tail, rgs])
theorem c_WorldOk4 {n : Int} : PC ctx.P 182 [.int .i64 n] (.bool (inR n 0 99)) := by
  refine PC.o okC Tryz.func182 rfl (.bool _) fun h nx hnx => ?_
  try simp [-map_take, -map_drop, -map_tail, rgs]
  repeat' first | done | ((first | ((with_reducible show doCall _ _ _ 165 _ _); refine call_pc (c_within) ?_)) <;> simp [-map_take, -map_drop, -map_tail, rgs])
end Go.AE.Tryz
end

section
/- Contracts of the program's readers: timers, chains, events. -/
set_option linter.unusedSimpArgs false
set_option linter.unusedVariables false
set_option maxRecDepth 8000
set_option maxHeartbeats 2000000
namespace Go.AE.Tryz
open Go.Proofs
open List (map_take map_drop map_tail)

theorem c_TimersOk {F : Nat → Bool} {t : Tms} : PC ctx.P 166 [.agg (tmsV F t)] (.bool (tmsOk t)) := by
  refine PC.lim (n := t.list.length) (x := .agg (tmsV F t)) (by simp) (.agg (x := .view (F 7) 5 (t.list.map tmrC)) (by simp [tmsV]) (.here (by simp))) ⟨_, Tryz.func166, by kernel_rfl, by kernel_rfl⟩ fun hlim => ?_
  refine PC.o okC Tryz.func166 rfl (.bool _) fun h nx hnx => ?_
  try simp [-map_take, -map_drop, -map_tail, rgs, tmsV]
  repeat' first | done | ((first | ((with_reducible show lenS _ _ _ _ _ _); refine lenS_slice rfl fun _ => ?_) | ((with_reducible show iaddrS _ _ _ _ _ _ _); refine iaddr_map rfl omA omA ?_) | ((with_reducible show doCall _ _ _ 165 _ _); refine call_pc (c_within) ?_) | ((with_reducible show doCall _ _ _ 270 _ _); refine call_pc (c_HeapOk) ?_)) <;> simp [-map_take, -map_drop, -map_tail, rgs, tmsV]) | ((first | (with_reducible refine guardS_split ?_ ?_) | (with_reducible refine condS_split ?_ ?_)) <;> intro qb <;> (have qp := qb; try simp only [psq] at qp) <;> simp [-map_take, -map_drop, -map_tail, rgs, tmsV, qb])
  · all_goals (try clear hnx)
    all_goals first | (simp_all [tmsOk]; done) | (simp_all [tmsOk]; omega) | (rw [Bool.eq_iff_iff]; simp_all [tmsOk]; done) | (rw [Bool.eq_iff_iff]; simp_all [tmsOk]; omega) | omega | (simp only [tmsOk]; grind) | grind
  · all_goals (try clear hnx)
    all_goals first | (simp_all [tmsOk]; done) | (simp_all [tmsOk]; omega) | (rw [Bool.eq_iff_iff]; simp_all [tmsOk]; done) | (rw [Bool.eq_iff_iff]; simp_all [tmsOk]; omega) | omega | (simp only [tmsOk]; grind) | grind
  · all_goals (try clear hnx)
    all_goals first | (simp_all [tmsOk]; done) | (simp_all [tmsOk]; omega) | (rw [Bool.eq_iff_iff]; simp_all [tmsOk]; done) | (rw [Bool.eq_iff_iff]; simp_all [tmsOk]; omega) | omega | (simp only [tmsOk]; grind) | grind
  · refine go_upP [2, 3, 4, 6, 26, 27, 28, 29, 30, 31, 32, 33, 34, 35, 36, 37, 38, 39, 40, 41, 42, 43, 44, 45, 46, 47, 48, 49, 50, 51, 52, 53, 54, 55, 56, 57, 58, 59] (t.list.length) (fun (i : Nat) a => [(26, .int .i64 i), (3, .int .i64 a.1), (4, .int .i64 a.2)]) (fun i_ a_ h_ _ => (fun i (a : Int × Int) _ => tmsRise t.next (t.list.drop i) a.1 = tmsRise t.next t.list (-1) ∧ a.2 + cntB (·.armed) (t.list.drop i) = cntB (·.armed) t.list ∧ 0 ≤ a.2 ∧ a.2 ≤ i) i_ a_ h_) ((-1, 0)) (by simp) ?_ keep_rfl (Nat.le_refl _) ?_
    · simp
    · intro i a tm h' n' hle hJ hE hn' next hnx
      try dsimp only at hJ
      have hK : KeepB nx h' h := KeepB.sub hE keepA (by omega)
      simp [-map_take, -map_drop, -map_tail]
      have e1 : h' (nx) = some (.obj (tmsV F t)) := by have := hE (nx) (by omega); simpa [tmsV] using this
      have e1n : ∀ k, ((nx) = n' + k) = False := fun k => by simp only [eq_iff_iff, iff_false]; omega
      have e1m : ((nx) = n') = False := by simp only [eq_iff_iff, iff_false]; omega
      try simp [-map_take, -map_drop, -map_tail, rgs, tmsV, tmrC, e1, e1n, e1m]
      repeat' first | done | ((first | ((with_reducible show lenS _ _ _ _ _ _); refine lenS_slice rfl fun _ => ?_) | ((with_reducible show iaddrS _ _ _ _ _ _ _); refine iaddr_map rfl omA omA ?_) | ((with_reducible show doCall _ _ _ 165 _ _); refine call_pc (c_within) ?_) | ((with_reducible show doCall _ _ _ 271 _ _); refine call_pcB (c_ContainsFunc_Twig (q := fun h => decide (tmsAt t.list h.seq < 0) || (!(gt t.list (tmsAt t.list h.seq)).armed || (gt t.list (tmsAt t.list h.seq)).due != h.due)) (fv := .fn 272 [.vptr (tmsV F t)]) (fun x _ => c_TimersOk1)) (by first | exact .bool _ | exact .int _ _ | exact .str _) (by repeat' first | exact Bors.nil | refine Bors.cons ?_ ?_ | exact Bor.same _ | refine Bor.fn1 ?_ | refine Bor.bnd1 ?_ | refine Bor.agg1 ?_ | refine Bor.ptr0 (by first | (simp; done) | (simp; rfl) | assumption | (simp [*]; done)) ?_ | refine Bor.ref0 (by first | (simp; done) | (simp; rfl) | (simp [iv, bv]; done)) (by simp) (by simp)) ?_)) <;> simp [-map_take, -map_drop, -map_tail, rgs, tmsV, tmrC, e1, e1n, e1m]) | ((first | (with_reducible refine guardS_split ?_ ?_) | (with_reducible refine condS_split ?_ ?_)) <;> intro qb <;> (have qp := qb; try simp only [psq] at qp) <;> simp [-map_take, -map_drop, -map_tail, rgs, tmsV, tmrC, e1, e1n, e1m, qb])
      all_goals
        first
        | (have hlt : i < t.list.length := (by omega)
           rw [drop_gt hlt] at hJ
           first
           | (refine ⟨?_, keepA⟩; clear hnx; (try simp only [tmsRise, tmsOk, cntB_cons, cntB_nil] at hJ ⊢); grind)
           | skip)
        | skip
      · simp only [LIM] at hlim
        refine hnx.go ((gt t.list (i : Int)).seq, a.2 + 1) ?_ ?_ ?_ ?_ ?_ ?_
        · omega
        · simp [i64_ok (x := (i : Int) + 1) (by omega), i64_ok (x := a.2 + 1) (by omega)]
        · simp
        · exact keepA
        · first | omega | (simp; omega)
        dsimp only
        simp only [tmsRise, cntB_cons] at hJ
        grind
      · simp only [LIM] at hlim
        refine hnx.go ((gt t.list (i : Int)).seq, a.2) ?_ ?_ ?_ ?_ ?_ ?_
        · omega
        · simp [i64_ok (x := (i : Int) + 1) (by omega)]
        · simp
        · exact keepA
        · first | omega | (simp; omega)
        dsimp only
        simp only [tmsRise, cntB_cons] at hJ
        grind
      all_goals
        obtain rfl : i = t.list.length := (by omega)
        refine ⟨?_, keepA⟩
        simp only [List.drop_length, tmsRise, tmsOk, cntB_nil] at hJ ⊢
        grind
theorem c_chain {p : Bool} {t : List Nod} {n : Int} (ht : treeOk t = true) (h0 : 0 ≤ n) (h1 : n < t.length) : PC ctx.P 198 [.view p 5 (t.map nodC), .int .i64 n] (.view true 1 ((chain t n).map iv)) := by
  have hl60 := treeOk_len ht
  refine PC.o okC Tryz.func198 rfl (.vmap iv_fz) fun h nx hnx => ?_
  try simp [-map_take, -map_drop, -map_tail, rgs]
  repeat' first | done | ((first | ((with_reducible show iaddrS _ _ _ _ _ _ _); refine iaddr_map rfl omA omA ?_) | ((with_reducible show appS _ _ _ _ _ _ _ _); refine app_end rfl rfl (by decide) (by decide) (by first | (simp [-map_take, -map_drop, -map_tail, rgs]; done) | (simp [-map_take, -map_drop, -map_tail, rgs]; rfl)) (by first | (simp [-map_take, -map_drop, -map_tail, rgs]; done) | (simp [-map_take, -map_drop, -map_tail, rgs]; rfl)) (by first | (simp; done) | (simp; omega)) (by first | (simp only [MLIM, LIM] at *; simp; omega) | (simp only [MLIM]; simp; omega)) (by simp [iv, bv]) ?_)) <;> simp [-map_take, -map_drop, -map_tail, rgs]) | ((first | (with_reducible refine guardS_split ?_ ?_) | (with_reducible refine condS_split ?_ ?_)) <;> intro qb <;> (have qp := qb; try simp only [psq] at qp) <;> simp [-map_take, -map_drop, -map_tail, rgs, qb])
  refine go_dnP (h0 := h) (nx0 := nx) [1, 5, 8, 9, 10, 11, 12, 13, 14, 15, 16, 17, 18, 19, 20, 21, 22, 23, 24, 25, 26, 27, 28, 29, 30] (fun a => [(1, .int .i64 a.1), (5, .ref a.2.2 1 0 (a.2.1.length + 1))]) (fun a => a.1.toNat) (fun (a : Int × List Int × Nat) h' n' => 0 ≤ a.1 ∧ a.1 < t.length ∧ nx ≤ a.2.2 ∧ h' a.2.2 = some (.row 1 ((a.2.1 ++ [a.1]).map iv)) ∧ a.2.1 ++ chain t a.1 = chain t n ∧ (a.2.1.length : Int) + a.1 ≤ n ∧ a.2.2 < n') ((n, [], nx + 2)) (by simp) ?_ keepA (by omega) ?_
  · simp [h0, h1, iv]
  · intro a tm h' n' hJ hE hn' next hnx
    try dsimp only at hJ
    have hK : KeepB nx h' h := KeepB.sub hE keepA (by omega)
    obtain ⟨m, pre, id⟩ := a
    obtain ⟨g0, g1, g2, g3, g4, g5, g6⟩ := hJ
    dsimp only at g0 g1 g2 g3 g4 g5 g6 ⊢
    have hs := chain_step ht g0 g1
    have hu := treeOk_up ht g0 g1
    have k1 : ∀ k, (id = n' + k) = False := fun k => by simp only [eq_iff_iff, iff_false]; omega
    try simp [-map_take, -map_drop, -map_tail, rgs, nodC, g3, k1, iv]
    repeat' first | done | ((first | ((with_reducible show iaddrS _ _ _ _ _ _ _); refine iaddr_map rfl omA omA ?_) | ((with_reducible show appS _ _ _ _ _ _ _ _); refine app_end rfl rfl (by decide) (by decide) (by first | (simp [-map_take, -map_drop, -map_tail, rgs, nodC, g3, k1, iv]; done) | (simp [-map_take, -map_drop, -map_tail, rgs, nodC, g3, k1, iv]; rfl)) (by first | (simp [-map_take, -map_drop, -map_tail, rgs, nodC, g3, k1, iv]; done) | (simp [-map_take, -map_drop, -map_tail, rgs, nodC, g3, k1, iv]; rfl)) (by first | (simp; done) | (simp; omega)) (by first | (simp only [MLIM, LIM] at *; simp; omega) | (simp only [MLIM]; simp; omega)) (by simp [iv, bv]) ?_)) <;> simp [-map_take, -map_drop, -map_tail, rgs, nodC, g3, k1, iv]) | ((first | (with_reducible refine guardS_split ?_ ?_) | (with_reducible refine condS_split ?_ ?_)) <;> intro qb <;> (have qp := qb; try simp only [psq] at qp) <;> simp [-map_take, -map_drop, -map_tail, rgs, nodC, g3, k1, iv, qb])
    · have hk : (gt t m).kind ≠ 0 := by omega
      have hu' := hu hk
      refine hnx.go ((gt t m).up, pre ++ [m], n' + 23) ?_ ?_ ?_ ?_ ?_ ?_
      · simp; omega
      · simp
      · simp
      · exact keepA
      · first | omega | (simp; omega)
      dsimp only
      refine ⟨by omega, by omega, by omega, by simp [iv], ?_, by simp; omega, by simp⟩
      rw [if_neg (by simp; omega)] at hs
      rw [← g4, hs]; simp
    all_goals
      refine ⟨?_, keepA⟩
      rw [if_pos (by simp; omega)] at hs
      rw [← g4, hs, List.take_of_length_le (by simp)]; simp [iv]

theorem c_firstOf {p q : Bool} {t : List Nod} {l : List Evt} {n : Int} (ht : treeOk t = true) (h0 : 0 ≤ n) (h1 : n < t.length) :
    PC ctx.P 91 [.view p 5 (t.map nodC), .view q 4 (l.map evtC), .int .i64 n] (.tup [.agg (evtC ((firstOf t l n).getD ⟨0, 0, 0, 0⟩)), .bool (firstOf t l n).isSome]) := by
  refine PC.lim (n := l.length) (x := .view q 4 (l.map evtC)) (by simp) (.here (by simp)) ⟨_, Tryz.func91, by kernel_rfl, by kernel_rfl⟩ fun hlim => ?_
  refine PC.o okC Tryz.func91 rfl (.tup _ (by simp; exact .agg _ (evtC_fz _))) fun h nx hnx => ?_
  try simp [-map_take, -map_drop, -map_tail, rgs]
  repeat' first | done | ((first | ((with_reducible show lenS _ _ _ _ _ _); refine lenS_slice rfl fun _ => ?_) | ((with_reducible show iaddrS _ _ _ _ _ _ _); refine iaddr_map rfl omA omA ?_) | ((with_reducible show doCall _ _ _ 198 _ _); refine call_pc (c_chain ht h0 h1) ?_)) <;> simp [-map_take, -map_drop, -map_tail, rgs]) | ((first | (with_reducible refine condS_split ?_ ?_)) <;> intro qb <;> (have qp := qb; try simp only [psq] at qp) <;> simp [-map_take, -map_drop, -map_tail, rgs, qb])
  refine go_upP [7, 10, 16, 17, 18, 19, 20, 21, 22, 23, 24, 25] (l.length) (fun (i : Nat) a => [(16, .int .i64 i)]) (fun i_ a_ h_ _ => (fun i (_ : Unit) _ => (l.drop i).find? (fun e => (chain t n).contains e.node) = firstOf t l n) i_ a_ h_) (()) (by simp) ?_ keep_rfl (Nat.le_refl _) ?_
  · simp [firstOf]
  · intro i a tm h' n' hle hJ hE hn' next hnx
    try dsimp only at hJ
    have hK : KeepB nx h' h := KeepB.sub hE keepA (by omega)
    simp [-map_take, -map_drop, -map_tail]
    have e1 : h' (nx) = some (.obj [.int .i64 0, .int .i64 0, .int .i64 0, .int .i64 0]) := by have := hE (nx) (by omega); simpa using this
    have e1n : ∀ k, ((nx) = n' + k) = False := fun k => by simp only [eq_iff_iff, iff_false]; omega
    have e1m : ((nx) = n') = False := by simp only [eq_iff_iff, iff_false]; omega
    try simp [-map_take, -map_drop, -map_tail, rgs, evtC, e1, e1n, e1m]
    repeat' first | done | ((first | ((with_reducible show lenS _ _ _ _ _ _); refine lenS_slice rfl fun _ => ?_) | ((with_reducible show iaddrS _ _ _ _ _ _ _); refine iaddr_map rfl omA omA ?_) | ((with_reducible show doCall _ _ _ 88 _ _); refine call_pc (c_Contains) ?_)) <;> simp [-map_take, -map_drop, -map_tail, rgs, evtC, e1, e1n, e1m]) | ((first | (with_reducible refine condS_split ?_ ?_)) <;> intro qb <;> (have qp := qb; try simp only [psq] at qp) <;> simp [-map_take, -map_drop, -map_tail, rgs, evtC, e1, e1n, e1m, qb])
    · have hf : firstOf t l n = some (gt l i) := by rw [drop_gt (xs := l) (i := i) (by omega), List.find?_cons] at hJ; simpa [qp] using hJ.symm
      refine ⟨by simp [hf], keepA⟩
    · have hf : (l.drop (i + 1)).find? (fun e => (chain t n).contains e.node) = firstOf t l n := by rw [drop_gt (xs := l) (i := i) (by omega), List.find?_cons] at hJ; simpa [qp] using hJ
      refine hnx.go () ?_ ?_ ?_ ?_ ?_ ?_
      · omega
      · simp [wrap_succ (show i < l.length by omega) hlim]
      · simp
      · exact keepA
      · first | omega | (simp; omega)
      exact hf
    · have hf : firstOf t l n = none := by rw [← hJ, List.drop_eq_nil_of_le (by omega)]; rfl
      refine ⟨by simp [hf], keepA⟩

theorem c_fits {p q : Bool} {t : List Nod} {l : List Evt} {e : Evt} (ht : treeOk t = true) : PC ctx.P 267 [.agg (evtC e), .view p 5 (t.map nodC), .view q 4 (l.map evtC)] (.bool (fits t l e)) := by
  refine PC.lim (n := l.length) (x := .view q 4 (l.map evtC)) (by simp) (.here (by simp)) ⟨_, Tryz.func267, by kernel_rfl, by kernel_rfl⟩ fun hlim => ?_
  by_cases hev : isEvent t e = true
  · have hb : 0 ≤ e.node ∧ e.node < t.length := by
      unfold isEvent at hev; split at hev
      · cases hev
      · rename_i h2; simpa [isIn_true] using h2
    refine PC.o okC Tryz.func267 rfl (.bool _) fun h nx hnx => ?_
    try simp [-map_take, -map_drop, -map_tail, rgs, evtC, wrap_pred hlim, hev]
    repeat' first | done | ((first | ((with_reducible show lenS _ _ _ _ _ _); refine lenS_slice rfl fun _ => ?_) | ((with_reducible show iaddrS _ _ _ _ _ _ _); refine iaddr_map rfl omA omA ?_) | ((with_reducible show doCall _ _ _ 342 _ _); refine call_pc (c_isEvent (e := e)) ?_) | ((with_reducible show doCall _ _ _ 91 _ _); refine call_pc (c_firstOf ht hb.1 hb.2) ?_) | (with_reducible refine go_draw (i := 1) [(0, [], []), (1, [], []), (2, [], []), (3, [], []), (4, [], []), (5, [], []), (6, [], []), (7, [], []), (8, [], []), (9, [], []), (10, [], []), (11, [], []), (12, [], []), (13, [], []), (14, [], []), (15, [], []), (16, [], []), (17, [], []), (18, [], []), (19, [], []), (20, [], [])] (by kernel_rfl) ?_)) <;> simp [-map_take, -map_drop, -map_tail, rgs, evtC, wrap_pred hlim, hev]) | ((first | (with_reducible refine guardD_split ?_ ?_) | (with_reducible refine condS_split ?_ ?_)) <;> intro qb <;> (have qp := qb; try simp only [psq] at qp) <;> simp [-map_take, -map_drop, -map_tail, rgs, evtC, wrap_pred hlim, hev, qb])
    all_goals (try clear hnx)
    all_goals first | (simp_all [fits]; done) | (simp_all [fits]; omega) | (rw [Bool.eq_iff_iff]; simp_all [fits]; done) | (rw [Bool.eq_iff_iff]; simp_all [fits]; omega) | omega | (simp only [fits]; grind) | grind
  · refine PC.o okC Tryz.func267 rfl (.bool _) fun h nx hnx => ?_
    try simp [-map_take, -map_drop, -map_tail, rgs, evtC, hev]
    repeat' first | done | ((first | ((with_reducible show lenS _ _ _ _ _ _); refine lenS_slice rfl fun _ => ?_) | ((with_reducible show iaddrS _ _ _ _ _ _ _); refine iaddr_map rfl omA omA ?_) | ((with_reducible show doCall _ _ _ 342 _ _); refine call_pc (c_isEvent (e := e)) ?_) | (with_reducible refine go_draw (i := 1) [(0, [], []), (1, [], []), (2, [], []), (3, [], []), (4, [], []), (5, [], []), (6, [], []), (7, [], []), (8, [], []), (9, [], []), (10, [], []), (11, [], []), (12, [], []), (13, [], []), (14, [], []), (15, [], []), (16, [], []), (17, [], []), (18, [], []), (19, [], []), (20, [], [])] (by kernel_rfl) ?_)) <;> simp [-map_take, -map_drop, -map_tail, rgs, evtC, hev]) | ((first | (with_reducible refine guardD_split ?_ ?_) | (with_reducible refine condS_split ?_ ?_)) <;> intro qb <;> (have qp := qb; try simp only [psq] at qp) <;> simp [-map_take, -map_drop, -map_tail, rgs, evtC, hev, qb])
    all_goals (try clear hnx)
    all_goals first | (simp_all [fits]; done) | (simp_all [fits]; omega) | (rw [Bool.eq_iff_iff]; simp_all [fits]; done) | (rw [Bool.eq_iff_iff]; simp_all [fits]; omega) | omega | (simp only [fits]; grind) | grind
end Go.AE.Tryz
end

section
/- Contracts of the program's readers: events, worlds. -/
set_option linter.unusedSimpArgs false
set_option linter.unusedVariables false
set_option maxRecDepth 8000
set_option maxHeartbeats 2000000
namespace Go.AE.Tryz
open Go.Proofs
open List (map_take map_drop map_tail)

theorem c_EventsOk {p q : Bool} {t : List Nod} {l : List Evt} : PC ctx.P 162 [.view p 5 (t.map nodC), .view q 4 (l.map evtC)] (.bool (eventsOk t l)) := by
  refine PC.lim (n := l.length) (x := .view q 4 (l.map evtC)) (by simp) (.here (by simp)) ⟨_, Tryz.func162, by kernel_rfl, by kernel_rfl⟩ fun hlim => ?_
  by_cases ht : treeOk t = true
  · refine PC.o okC Tryz.func162 rfl (.bool _) fun h nx hnx => ?_
    try simp [-map_take, -map_drop, -map_tail, rgs, ht]
    repeat' first | done | ((first | ((with_reducible show lenS _ _ _ _ _ _); refine lenS_slice rfl fun _ => ?_) | ((with_reducible show iaddrS _ _ _ _ _ _ _); refine iaddr_map rfl omA omA ?_) | ((with_reducible show sliceS _ _ _ _ _ _ _ _); refine slice_to rfl omA omA ?_) | ((with_reducible show sliceS _ _ _ _ _ _ _ _); refine slice_from rfl omA omA ?_) | ((with_reducible show sliceS _ _ _ _ _ _ _ _); refine slice_mid rfl omA omA omA ?_) | ((with_reducible show sliceI _ _ _ _ _ _ _ _ _ _ _); refine sliceI_to rfl omA omA ?_) | ((with_reducible show sliceI _ _ _ _ _ _ _ _ _ _ _); refine sliceI_from rfl omA omA ?_) | ((with_reducible show sliceI _ _ _ _ _ _ _ _ _ _ _); refine sliceI_mid rfl omA omA omA ?_) | ((with_reducible show doCall _ _ _ 266 _ _); refine call_pc (c_TreeOk) ?_) | (with_reducible refine go_draw (i := 6) [(0, [], []), (1, [], []), (2, [], []), (3, [], []), (4, [], []), (5, [], []), (6, [], [])] (by kernel_rfl) ?_)) <;> simp [-map_take, -map_drop, -map_tail, rgs, ht]) | ((first | (with_reducible refine condS_split ?_ ?_)) <;> intro qb <;> (have qp := qb; try simp only [psq] at qp) <;> simp [-map_take, -map_drop, -map_tail, rgs, ht, qb])
    refine go_upP [4, 5, 6, 12, 13, 14, 15, 16, 17, 18, 19, 20, 21, 22, 23, 24] (l.length) (fun (i : Nat) a => [(12, .int .i64 i)]) (fun i_ a_ h_ _ => (fun i (_ : Unit) _ => allI (fun i e => fits t (l.take i.toNat) e) (l.drop i) i = allI (fun i e => fits t (l.take i.toNat) e) l 0) i_ a_ h_) (()) (by simp) ?_ keep_rfl (Nat.le_refl _) ?_
    · simp
    · intro i a tm h' n' hle hJ hE hn' next hnx
      try dsimp only at hJ
      have hK : KeepB nx h' h := KeepB.sub hE keepA (by omega)
      simp [-map_take, -map_drop, -map_tail]
      try simp [-map_take, -map_drop, -map_tail, rgs]
      repeat' first | done | ((first | ((with_reducible show lenS _ _ _ _ _ _); refine lenS_slice rfl fun _ => ?_) | ((with_reducible show iaddrS _ _ _ _ _ _ _); refine iaddr_map rfl omA omA ?_) | ((with_reducible show sliceS _ _ _ _ _ _ _ _); refine slice_to rfl omA omA ?_) | ((with_reducible show sliceS _ _ _ _ _ _ _ _); refine slice_from rfl omA omA ?_) | ((with_reducible show sliceS _ _ _ _ _ _ _ _); refine slice_mid rfl omA omA omA ?_) | ((with_reducible show sliceI _ _ _ _ _ _ _ _ _ _ _); refine sliceI_to rfl omA omA ?_) | ((with_reducible show sliceI _ _ _ _ _ _ _ _ _ _ _); refine sliceI_from rfl omA omA ?_) | ((with_reducible show sliceI _ _ _ _ _ _ _ _ _ _ _); refine sliceI_mid rfl omA omA omA ?_) | ((with_reducible show doCall _ _ _ 267 _ _); refine call_pc (c_fits ht) ?_) | (with_reducible refine go_draw (i := 6) [(0, [], []), (1, [], []), (2, [], []), (3, [], []), (4, [], []), (5, [], []), (6, [], [])] (by kernel_rfl) ?_)) <;> simp [-map_take, -map_drop, -map_tail, rgs]) | ((first | (with_reducible refine condS_split ?_ ?_)) <;> intro qb <;> (have qp := qb; try simp only [psq] at qp) <;> simp [-map_take, -map_drop, -map_tail, rgs, qb])
      all_goals
        first
        | (have hlt : i < l.length := (by first | omega | (simp at *; omega))
           rw [drop_gt hlt] at hJ
           first
           | (refine hnx.go (()) ?_ ?_ ?_ ?_ ?_ ?_; omega; (simp [wrap_succ hlt hlim]); (simp); exact keepA; (first | omega | (simp; omega)); (try dsimp only); clear hnx; first | ((try simp only [List.drop_length, Int.toNat_natCast, allI, eventsOk] at hJ ⊢); grind) | (simp_all [allI, eventsOk]; done) | (simp_all; omega))
           | (refine ⟨?_, keepA⟩; clear hnx; first | ((try simp only [List.drop_length, Int.toNat_natCast, allI, eventsOk] at hJ ⊢); grind) | (simp_all [allI, eventsOk]; done) | (simp_all; omega)))
        | (obtain rfl : i = l.length := (by first | omega | (simp at *; omega))
           refine ⟨?_, keepA⟩; clear hnx; first | ((try simp only [List.drop_length, Int.toNat_natCast, allI, eventsOk] at hJ ⊢); grind) | (simp_all [allI, eventsOk]; done) | (simp_all; omega))
  · refine PC.o okC Tryz.func162 rfl (.bool _) fun h nx hnx => ?_
    try simp [-map_take, -map_drop, -map_tail, rgs, ht]
    repeat' first | done | ((first | ((with_reducible show lenS _ _ _ _ _ _); refine lenS_slice rfl fun _ => ?_) | ((with_reducible show iaddrS _ _ _ _ _ _ _); refine iaddr_map rfl omA omA ?_) | ((with_reducible show sliceS _ _ _ _ _ _ _ _); refine slice_to rfl omA omA ?_) | ((with_reducible show sliceS _ _ _ _ _ _ _ _); refine slice_from rfl omA omA ?_) | ((with_reducible show sliceS _ _ _ _ _ _ _ _); refine slice_mid rfl omA omA omA ?_) | ((with_reducible show sliceI _ _ _ _ _ _ _ _ _ _ _); refine sliceI_to rfl omA omA ?_) | ((with_reducible show sliceI _ _ _ _ _ _ _ _ _ _ _); refine sliceI_from rfl omA omA ?_) | ((with_reducible show sliceI _ _ _ _ _ _ _ _ _ _ _); refine sliceI_mid rfl omA omA omA ?_) | ((with_reducible show doCall _ _ _ 266 _ _); refine call_pc (c_TreeOk) ?_) | (with_reducible refine go_draw (i := 6) [(0, [], []), (1, [], []), (2, [], []), (3, [], []), (4, [], []), (5, [], []), (6, [], [])] (by kernel_rfl) ?_)) <;> simp [-map_take, -map_drop, -map_tail, rgs, ht]) | ((first | (with_reducible refine condS_split ?_ ?_)) <;> intro qb <;> (have qp := qb; try simp only [psq] at qp) <;> simp [-map_take, -map_drop, -map_tail, rgs, ht, qb])
    all_goals (try clear hnx)
    all_goals first | (simp_all [eventsOk]; done) | (simp_all [eventsOk]; omega) | (rw [Bool.eq_iff_iff]; simp_all [eventsOk]; done) | (rw [Bool.eq_iff_iff]; simp_all [eventsOk]; omega) | omega | (simp only [eventsOk]; grind) | grind
theorem c_AftersOk {F : Nat → Bool} {x : Afs} : PC ctx.P 169 [.agg (afsV F x)] (.bool (afsOk x)) := by
  refine PC.lim (n := x.list.length) (x := .agg (afsV F x)) (by simp) (.agg (x := .view (F 10) 5 (x.list.map afrC)) (by simp [afsV]) (.here (by simp))) ⟨_, Tryz.func169, by kernel_rfl, by kernel_rfl⟩ fun hlim => ?_
  by_cases hs : sltOk x.slots = true
  · have hl : x.slots.used.length = x.slots.ages.length := by simp [sltOk] at hs; omega
    refine PC.o okC Tryz.func169 rfl (.bool _) fun h nx hnx => ?_
    try simp [-map_take, -map_drop, -map_tail, rgs, afsV, hs]
    repeat' first | done | ((first | ((with_reducible show lenS _ _ _ _ _ _); refine lenS_slice rfl fun _ => ?_) | ((with_reducible show iaddrS _ _ _ _ _ _ _); refine iaddr_map rfl omA omA ?_) | ((with_reducible show doCall _ _ _ 276 _ _); refine call_pc (c_SlotsOk (s := x.slots) (F := F)) ?_) | ((with_reducible show doCall _ _ _ 277 _ _); refine call_pc (c_size_After) ?_) | ((with_reducible show doCall _ _ _ 278 _ _); refine call_pc (c_used (s := x.slots) (F := F)) ?_) | (with_reducible refine go_draw (i := 1) [(0, [], []), (1, [], []), (2, [], []), (3, [], []), (4, [], []), (5, [], []), (6, [], []), (8, [], []), (9, [], []), (7, [.tmp 13], []), (10, [], []), (11, [], []), (12, [], [])] (by kernel_rfl) ?_)) <;> simp [-map_take, -map_drop, -map_tail, rgs, afsV, hs]) | ((first | (with_reducible refine guardD_split ?_ ?_) | (with_reducible refine guardS_split ?_ ?_) | (with_reducible refine condS_split ?_ ?_)) <;> intro qb <;> (have qp := qb; try simp only [psq] at qp) <;> simp [-map_take, -map_drop, -map_tail, rgs, afsV, hs, qb])
    · simp only [afsOk]; grind
    · refine go_upP [2, 3, 4, 21, 22, 23, 24, 25, 26, 27, 28, 29, 30, 31, 32, 33, 34, 35, 36, 37, 38, 39, 40, 41, 42, 43, 44, 45, 46, 47, 48] (x.list.length) (fun (i : Nat) a => [(21, .int .i64 i)]) (fun i_ a_ h_ _ => (fun i (_ : Unit) _ => allI (fun i y => isAfter y.node y.fn && (sltHolds x.slots y.han && afsAt x.list y.han == i)) (x.list.drop i) i = allI (fun i y => isAfter y.node y.fn && (sltHolds x.slots y.han && afsAt x.list y.han == i)) x.list 0) i_ a_ h_) (()) (by simp) ?_ keep_rfl (Nat.le_refl _) ?_
      · simp
      · intro i a tm h' n' hle hJ hE hn' next hnx
        try dsimp only at hJ
        have hK : KeepB nx h' h := KeepB.sub hE keepA (by omega)
        simp [-map_take, -map_drop, -map_tail]
        have e1 : h' (nx) = some (.obj (afsV F x)) := by have := hE (nx) (by omega); simpa [afsV] using this
        have e1n : ∀ k, ((nx) = n' + k) = False := fun k => by simp only [eq_iff_iff, iff_false]; omega
        have e1m : ((nx) = n') = False := by simp only [eq_iff_iff, iff_false]; omega
        try simp [-map_take, -map_drop, -map_tail, rgs, afsV, afrC, e1, e1n, e1m]
        repeat' first | done | ((first | ((with_reducible show lenS _ _ _ _ _ _); refine lenS_slice rfl fun _ => ?_) | ((with_reducible show iaddrS _ _ _ _ _ _ _); refine iaddr_map rfl omA omA ?_) | ((with_reducible show doCall _ _ _ 279 _ _); refine call_pc (c_isAfter) ?_) | ((with_reducible show doCall _ _ _ 280 _ _); refine call_pc (c_holds (s := x.slots) (F := F) (x := (gt x.list (i : Int)).han) hl) ?_) | ((with_reducible show doCall _ _ _ 281 _ _); refine call_pc (c_afsAt (a := x) (F := F) (x := (gt x.list (i : Int)).han)) ?_) | (with_reducible refine go_draw (i := 1) [(0, [], []), (1, [], []), (2, [], []), (3, [], []), (4, [], []), (5, [], []), (6, [], []), (8, [], []), (9, [], []), (7, [.tmp 13], []), (10, [], []), (11, [], []), (12, [], [])] (by kernel_rfl) ?_)) <;> simp [-map_take, -map_drop, -map_tail, rgs, afsV, afrC, e1, e1n, e1m]) | ((first | (with_reducible refine guardD_split ?_ ?_) | (with_reducible refine guardS_split ?_ ?_) | (with_reducible refine condS_split ?_ ?_)) <;> intro qb <;> (have qp := qb; try simp only [psq] at qp) <;> simp [-map_take, -map_drop, -map_tail, rgs, afsV, afrC, e1, e1n, e1m, qb])
        all_goals
          first
          | (have hlt : i < x.list.length := (by first | omega | (simp at *; omega))
             rw [drop_gt hlt] at hJ
             first
             | (refine hnx.go (()) ?_ ?_ ?_ ?_ ?_ ?_; omega; (simp [wrap_succ hlt hlim]); (simp); exact keepA; (first | omega | (simp; omega)); (try dsimp only); clear hnx; first | ((try simp only [List.drop_length, Int.toNat_natCast, allI, afsOk] at hJ ⊢); grind) | (simp_all [allI, afsOk]; done) | (simp_all; omega))
             | (refine ⟨?_, keepA⟩; clear hnx; first | ((try simp only [List.drop_length, Int.toNat_natCast, allI, afsOk] at hJ ⊢); grind) | (simp_all [allI, afsOk]; done) | (simp_all; omega)))
          | (obtain rfl : i = x.list.length := (by first | omega | (simp at *; omega))
             refine ⟨?_, keepA⟩; clear hnx; first | ((try simp only [List.drop_length, Int.toNat_natCast, allI, afsOk] at hJ ⊢); grind) | (simp_all [allI, afsOk]; done) | (simp_all; omega))
  · refine PC.o okC Tryz.func169 rfl (.bool _) fun h nx hnx => ?_
    try simp [-map_take, -map_drop, -map_tail, rgs, afsV, hs]
    repeat' first | done | ((first | ((with_reducible show lenS _ _ _ _ _ _); refine lenS_slice rfl fun _ => ?_) | ((with_reducible show iaddrS _ _ _ _ _ _ _); refine iaddr_map rfl omA omA ?_) | ((with_reducible show doCall _ _ _ 276 _ _); refine call_pc (c_SlotsOk (s := x.slots) (F := F)) ?_) | (with_reducible refine go_draw (i := 1) [(0, [], []), (1, [], []), (2, [], []), (3, [], []), (4, [], []), (5, [], []), (6, [], []), (8, [], []), (9, [], []), (7, [.tmp 13], []), (10, [], []), (11, [], []), (12, [], [])] (by kernel_rfl) ?_)) <;> simp [-map_take, -map_drop, -map_tail, rgs, afsV, hs]) | ((first | (with_reducible refine guardD_split ?_ ?_) | (with_reducible refine guardS_split ?_ ?_) | (with_reducible refine condS_split ?_ ?_)) <;> intro qb <;> (have qp := qb; try simp only [psq] at qp) <;> simp [-map_take, -map_drop, -map_tail, rgs, afsV, hs, qb])
    all_goals (try clear hnx)
    all_goals first | (simp_all [afsOk]; done) | (simp_all [afsOk]; omega) | (rw [Bool.eq_iff_iff]; simp_all [afsOk]; done) | (rw [Bool.eq_iff_iff]; simp_all [afsOk]; omega) | omega | (simp only [afsOk]; grind) | grind
theorem c_GroupOk {p : Bool} {g : Grp} : PC ctx.P 292 [.agg (grpV p g)] (.bool (grpOk g)) := by
  refine PC.lim (n := g.waits.length) (x := .agg (grpV p g)) (by simp) (.agg (x := .view p 1 (g.waits.map iv)) (by simp [grpV]) (.here (by simp))) ⟨_, Tryz.func292, by kernel_rfl, by kernel_rfl⟩ fun hlim => ?_
  refine PC.o okC Tryz.func292 rfl (.bool _) fun h nx hnx => ?_
  try simp [-map_take, -map_drop, -map_tail, rgs, grpV]
  repeat' first | done | ((first | ((with_reducible show lenS _ _ _ _ _ _); refine lenS_slice rfl fun _ => ?_) | ((with_reducible show iaddrS _ _ _ _ _ _ _); refine iaddr_map rfl omA omA ?_) | ((with_reducible show sliceS _ _ _ _ _ _ _ _); refine slice_to rfl omA omA ?_) | ((with_reducible show sliceS _ _ _ _ _ _ _ _); refine slice_from rfl omA omA ?_) | ((with_reducible show sliceS _ _ _ _ _ _ _ _); refine slice_mid rfl omA omA omA ?_) | ((with_reducible show doCall _ _ _ 165 _ _); refine call_pc (c_within) ?_)) <;> simp [-map_take, -map_drop, -map_tail, rgs, grpV]) | ((first | (with_reducible refine guardS_split ?_ ?_) | (with_reducible refine condS_split ?_ ?_)) <;> intro qb <;> (have qp := qb; try simp only [psq] at qp) <;> simp [-map_take, -map_drop, -map_tail, rgs, grpV, qb])
  all_goals first | (clear hnx; simp only [grpOk]; grind) | skip
  all_goals
    refine go_upP [2, 3, 4, 58, 59, 60, 61, 62, 63, 64, 65, 66, 67, 68, 69, 70, 71, 72, 73, 74] (g.waits.length) (fun (i : Nat) a => [(58, .int .i64 i)]) (fun i_ a_ h_ _ => (fun i (_ : Unit) _ => allI (fun i n => inR n 0 59 && !(g.waits.take i.toNat).contains n) (g.waits.drop i) i = allI (fun i n => inR n 0 59 && !(g.waits.take i.toNat).contains n) g.waits 0) i_ a_ h_) (()) (by simp) ?_ keep_rfl (Nat.le_refl _) ?_
    · simp
    · intro i a tm h' n' hle hJ hE hn' next hnx
      try dsimp only at hJ
      have hK : KeepB nx h' h := KeepB.sub hE keepA (by omega)
      simp [-map_take, -map_drop, -map_tail]
      have e1 : h' (nx) = some (.obj (grpV p g)) := by have := hE (nx) (by omega); simpa [grpV] using this
      have e1n : ∀ k, ((nx) = n' + k) = False := fun k => by simp only [eq_iff_iff, iff_false]; omega
      have e1m : ((nx) = n') = False := by simp only [eq_iff_iff, iff_false]; omega
      try simp [-map_take, -map_drop, -map_tail, rgs, grpV, iv, e1, e1n, e1m]
      repeat' first | done | ((first | ((with_reducible show lenS _ _ _ _ _ _); refine lenS_slice rfl fun _ => ?_) | ((with_reducible show iaddrS _ _ _ _ _ _ _); refine iaddr_map rfl omA omA ?_) | ((with_reducible show sliceS _ _ _ _ _ _ _ _); refine slice_to rfl omA omA ?_) | ((with_reducible show sliceS _ _ _ _ _ _ _ _); refine slice_from rfl omA omA ?_) | ((with_reducible show sliceS _ _ _ _ _ _ _ _); refine slice_mid rfl omA omA omA ?_) | ((with_reducible show doCall _ _ _ 165 _ _); refine call_pc (c_within) ?_) | ((with_reducible show doCall _ _ _ 88 _ _); refine call_pc (c_Contains) ?_)) <;> simp [-map_take, -map_drop, -map_tail, rgs, grpV, iv, e1, e1n, e1m]) | ((first | (with_reducible refine guardS_split ?_ ?_) | (with_reducible refine condS_split ?_ ?_)) <;> intro qb <;> (have qp := qb; try simp only [psq] at qp) <;> simp [-map_take, -map_drop, -map_tail, rgs, grpV, iv, e1, e1n, e1m, qb])
      all_goals
        first
        | (have hlt : i < g.waits.length := (by first | omega | (simp at *; omega))
           rw [drop_gt hlt] at hJ
           first
           | (refine hnx.go (()) ?_ ?_ ?_ ?_ ?_ ?_; omega; (simp [wrap_succ hlt hlim]); (simp); exact keepA; (first | omega | (simp; omega)); (try dsimp only); clear hnx; first | ((try simp only [List.drop_length, Int.toNat_natCast, allI, grpOk] at hJ ⊢); grind) | (simp_all [allI, grpOk]; done) | (simp_all; omega))
           | (refine ⟨?_, keepA⟩; clear hnx; first | ((try simp only [List.drop_length, Int.toNat_natCast, allI, grpOk] at hJ ⊢); grind) | (simp_all [allI, grpOk]; done) | (simp_all; omega)))
        | (obtain rfl : i = g.waits.length := (by first | omega | (simp at *; omega))
           refine ⟨?_, keepA⟩; clear hnx; first | ((try simp only [List.drop_length, Int.toNat_natCast, allI, grpOk] at hJ ⊢); grind) | (simp_all [allI, grpOk]; done) | (simp_all; omega))
end Go.AE.Tryz
end

section
/- Contracts of the program's readers: worlds. -/
set_option linter.unusedSimpArgs false
set_option linter.unusedVariables false
set_option maxRecDepth 8000
set_option maxHeartbeats 4000000
namespace Go.AE.Tryz
open Go.Proofs
open List (map_take map_drop map_tail)

theorem c_isGroup {F : Nat → Bool} {p : Bool} {w : Wld} {g : Grp} : PC ctx.P 177 [.agg (wldV F w), .agg (grpV p g)] (.bool (isGroup w g)) := by
  refine PC.o okC Tryz.func177 rfl (.bool _) fun h nx hnx => ?_
  try simp [-map_take, -map_drop, -map_tail, rgs, wldV, nodC]
  repeat' first | done | ((first | ((with_reducible show iaddrS _ _ _ _ _ _ _); refine iaddr_map rfl omA omA ?_) | ((with_reducible show doCall _ _ _ 292 _ _); refine call_pc (c_GroupOk (g := g) (p := p)) ?_) | ((with_reducible show doCall _ _ _ 172 _ _); refine call_pc (c_isIn_Node) ?_) | ((with_reducible show doCall _ _ _ 268 _ _); refine call_pcB (c_ContainsFunc_int64 (q := fun i => !isIn i w.tasks) (fv := .fn 293 [.vptr (wldV F w)]) (fun x _ => c_isGroup1)) (by first | exact .bool _ | exact .int _ _ | exact .str _) (by repeat' first | exact Bors.nil | refine Bors.cons ?_ ?_ | exact Bor.same _ | refine Bor.fn1 ?_ | refine Bor.bnd1 ?_ | refine Bor.agg1 ?_ | refine Bor.ptr0 (by first | (simp; done) | (simp; rfl) | assumption | (simp [*]; done)) ?_ | refine Bor.ref0 (by first | (simp; done) | (simp; rfl) | (simp [iv, bv]; done)) (by simp) (by simp)) ?_)) <;> simp [-map_take, -map_drop, -map_tail, rgs, wldV, nodC]) | ((first | (with_reducible refine guardS_split ?_ ?_)) <;> intro qb <;> (have qp := qb; try simp only [psq] at qp) <;> simp [-map_take, -map_drop, -map_tail, rgs, wldV, nodC, qb])
  all_goals (try clear hnx)
  all_goals first | (simp_all [isGroup]; done) | (simp_all [isGroup]; omega) | (rw [Bool.eq_iff_iff]; simp_all [isGroup]; done) | (rw [Bool.eq_iff_iff]; simp_all [isGroup]; omega) | omega | (simp only [isGroup]; grind) | grind
theorem c_WorldOk {F : Nat → Bool} {w : Wld} : PC ctx.P 68 [.agg (wldV F w)] (.bool (wldOk w)) := by
  refine PC.o okC Tryz.func68 rfl (.bool _) fun h nx hnx => ?_
  try simp [-map_take, -map_drop, -map_tail, rgs, wldV]
  repeat' first | done | ((first | ((with_reducible show lenS _ _ _ _ _ _); refine lenS_slice rfl fun _ => ?_) | ((with_reducible show doCall _ _ _ 160 _ _); refine call_pc (c_all_Prog (q := progOk) (.fn _ _) (fun x _ => c_ProgOk)) ?_) | ((with_reducible show doCall _ _ _ 162 _ _); refine call_pc (c_EventsOk) ?_) | ((with_reducible show doCall _ _ _ 163 _ _); refine call_pc (c_isSpread (s := w.spread) (F := F)) ?_) | ((with_reducible show doCall _ _ _ 82 _ _); refine call_pcB (c_all_Event (q := fun e => inR e.time 0 w.now) (fv := .fn 164 [.vptr (wldV F w)]) (.fn _ _) (fun x _ => c_WorldOk1)) (by first | exact .bool _ | exact .int _ _ | exact .str _) (by repeat' first | exact Bors.nil | refine Bors.cons ?_ ?_ | exact Bor.same _ | refine Bor.fn1 ?_ | refine Bor.bnd1 ?_ | refine Bor.agg1 ?_ | refine Bor.ptr0 (by first | (simp; done) | (simp; rfl) | assumption | (simp [*]; done)) ?_ | refine Bor.ref0 (by first | (simp; done) | (simp; rfl) | (simp [iv, bv]; done)) (by simp) (by simp)) ?_) | ((with_reducible show doCall _ _ _ 166 _ _); refine call_pc (c_TimersOk (t := w.timers) (F := F)) ?_) | ((with_reducible show doCall _ _ _ 167 _ _); refine call_pc (c_all_Timer (q := isTimer w) (.bnd _ _) (fun x _ => c_isTimer (F := F))) ?_) | ((with_reducible show doCall _ _ _ 169 _ _); refine call_pc (c_AftersOk (x := w.afters) (F := F)) ?_) | ((with_reducible show doCall _ _ _ 170 _ _); refine call_pcB (c_all_After (q := fun a => isIn a.node w.tree) (fv := .fn 171 [.vptr (wldV F w)]) (.fn _ _) (fun x _ => c_WorldOk2)) (by first | exact .bool _ | exact .int _ _ | exact .str _) (by repeat' first | exact Bors.nil | refine Bors.cons ?_ ?_ | exact Bor.same _ | refine Bor.fn1 ?_ | refine Bor.bnd1 ?_ | refine Bor.agg1 ?_ | refine Bor.ptr0 (by first | (simp; done) | (simp; rfl) | assumption | (simp [*]; done)) ?_ | refine Bor.ref0 (by first | (simp; done) | (simp; rfl) | (simp [iv, bv]; done)) (by simp) (by simp)) ?_) | ((with_reducible show doCall _ _ _ 173 _ _); refine call_pc (c_TasksOk) ?_) | ((with_reducible show doCall _ _ _ 174 _ _); refine call_pc (c_all_Task (q := isTask w) (.bnd _ _) (fun x _ => c_isTask (F := F))) ?_) | ((with_reducible show doCall _ _ _ 176 _ _); refine call_pc (c_all_Group (q := isGroup w) (.bnd _ _) (fun x _ => c_isGroup (F := F))) ?_) | ((with_reducible show doCall _ _ _ 178 _ _); refine call_pc (c_all_Sight (q := isSight w) (.bnd _ _) (fun x _ => c_isSight (F := F))) ?_) | ((with_reducible show doCall _ _ _ 180 _ _); refine call_pc (c_all_int64 (q := fun n => inR n 0 99) (.fn _ _) (fun x _ => c_WorldOk3)) ?_) | ((with_reducible show doCall _ _ _ 180 _ _); refine call_pc (c_all_int64 (q := fun n => inR n 0 99) (.fn _ _) (fun x _ => c_WorldOk4)) ?_)) <;> simp [-map_take, -map_drop, -map_tail, rgs, wldV]) | ((first | (with_reducible refine guardS_split ?_ ?_) | (with_reducible refine condS_split ?_ ?_)) <;> intro qb <;> (have qp := qb; try simp only [psq] at qp) <;> simp [-map_take, -map_drop, -map_tail, rgs, wldV, qb])
  all_goals (try clear hnx)
  all_goals first | (simp_all [wldOk]; done) | (simp_all [wldOk]; omega) | (rw [Bool.eq_iff_iff]; simp_all [wldOk]; done) | (rw [Bool.eq_iff_iff]; simp_all [wldOk]; omega) | omega | (simp only [wldOk]; grind) | grind
end Go.AE.Tryz
end

section
/- Contracts of the program's requests: what is asked of a world, and what it makes of a copy. -/
set_option linter.unusedSimpArgs false
set_option linter.unusedVariables false
set_option maxRecDepth 8000
set_option maxHeartbeats 4000000
namespace Go.AE.Tryz
open Go.Proofs
open List (map_take map_drop map_tail)
theorem wldR_ones (X : WI) (w : Wld) : (∀ x ∈ wldR X w, x.one = true) = True := by simp [wldR]
theorem wldR_len (X : WI) (w : Wld) : (wldR X w).length = 17 := rfl
theorem wldR_take (X : WI) (w : Wld) : (wldR X w).take 17 = wldR X w := rfl
theorem wldV_ones {F : Nat → Bool} {w : Wld} : (∀ x ∈ wldV F w, x.one = true) = True := by simp [wldV]
theorem wldV_len (F : Nat → Bool) (w : Wld) : (wldV F w).length = 17 := rfl
theorem wldV_take (F : Nat → Bool) (w : Wld) : (wldV F w).take 17 = wldV F w := rfl
theorem w_cloned {F : Nat → Bool} {w : Wld} (hs : wldsz w ≤ 1048576) : WC ctx.P 224 [.agg (wldV F w)] (fun X => .agg (wldR X w)) w := WC.of (w_clonedA hs)
theorem w_asked {F : Nat → Bool} {w w' : Wld} {b : Bool} {g : FuncId} {qs : List (Nat × List AV × List AV)} (hs : wldsz w ≤ 1048576) (hd : wldOk w = true → DoOk ctx.P g qs w w' b) :
    AC ctx.P 109 [.agg (wldV F w), .fn g (qs.map fun q => .ptr q.1 0)] (fun h _ => ∀ q ∈ qs, h q.1 = some (.obj q.2.1))
    (AskQ qs w w' b) := by
  refine AC.ghostT ?_
  refine AC.o okC Tryz.func109 rfl fun h nx hfr hnx hpre => ?_
  have hqn : ∀ q ∈ qs, q.1 < nx := fun q hq => hnx q.1 (by rw [hpre q hq]; simp)
  by_cases hw : wldOk w = true
  · try simp [-map_take, -map_drop, -map_tail, rgs, hw, wldV_ones, wldV_len, wldV_take]
    repeat' first | done | ((first | ((with_reducible show doCall _ _ _ 68 _ _); refine call_pc (c_WorldOk (w := w) (F := F)) ?_)) <;> simp [-map_take, -map_drop, -map_tail, rgs, hw, wldV_ones, wldV_len, wldV_take]) | ((first | (with_reducible refine guardS_split ?_ ?_) | (with_reducible refine condS_split ?_ ?_)) <;> intro qb <;> (have qp := qb; try simp only [psq] at qp) <;> simp [-map_take, -map_drop, -map_tail, rgs, hw, wldV_ones, wldV_len, wldV_take, qb])
    refine call_wc (w_cloned (F := F) hs) ?_
    intro X1 h1 n1 V1 hid1 hle1 hfr1
    dsimp only at hid1 hle1 hfr1
    have nX : ∀ j, j < nx + 9 → j ∉ X1.ids := fun j hj hm => by have := hid1 j hm; omega
    try simp [-map_take, -map_drop, -map_tail, rgs, hw, wldR_ones X1 w, wldR_len, wldR_take]
    repeat' first | done | ((first | (with_reducible refine guardS_split ?_ ?_) | (with_reducible refine condS_split ?_ ?_)) <;> intro qb <;> (have qp := qb; try simp only [psq] at qp) <;> simp [-map_take, -map_drop, -map_tail, rgs, hw, wldR_ones X1 w, wldR_len, wldR_take, qb])
    generalize hH : upd (upd h1 (nx + 8) _) (nx + 8) (some (Ent.obj (wldR X1 w))) = H2
    have V2 : WV H2 X1 w := hH ▸ (V1.keep fun id hid => by have := hid1 id hid; repeat rw [upd_ne _ _ _ _ (by omega)])
    have o2 : H2 (nx + 8) = some (.obj (wldR X1 w)) := by rw [← hH, upd_same]
    have a2 : H2 nx = some (.obj (wldV F w)) := by
      rw [← hH]
      repeat rw [upd_ne _ _ _ _ (by omega)]
      rw [hfr1 nx (nX _ (by omega))]
      repeat (first | exact upd_same .. | rw [upd_ne _ _ _ _ (by omega)])
    have z2 : H2 (nx + 1) = some (.obj [AV.int IntKind.i64 0, AV.nil, AV.nil, AV.nil, AV.nil, AV.nil, AV.nil, AV.nil, AV.int IntKind.i64 0, AV.nil, AV.nil, AV.nil, AV.nil, AV.nil, AV.nil, AV.nil, AV.nil]) := by
      rw [← hH]
      repeat rw [upd_ne _ _ _ _ (by omega)]
      rw [hfr1 (nx + 1) (nX _ (by omega))]
      exact upd_same ..
    have K2 : ∀ j, j < nx → H2 j = h j := fun j hj => by
      rw [← hH]
      repeat rw [upd_ne _ _ _ _ (by omega)]
      rw [hfr1 j (nX _ (by omega))]
      repeat rw [upd_ne _ _ _ _ (by omega)]
    clear hH
    have qn : ∀ j, nx ≤ j → ∀ q ∈ qs, j ≠ q.1 := fun j hj q hq => by have := hqn q hq; omega
    refine call_ac (hd hw (nx + 8) X1) ⟨o2, V2, fun q hq => ⟨by dsimp only; rw [K2 _ (hqn q hq)]; exact hpre q hq, by have := hqn q hq; omega⟩⟩ ?_
    rintro r h3 n3 ⟨rfl, hb, hq3, hf3⟩ hle3 hfr3
    dsimp only at hb hf3 hle3
    have a3 := hf3 nx (by omega) (by omega) (nX _ (by omega)) (qn _ (by omega))
    have z3 := hf3 (nx + 1) (by omega) (by omega) (nX _ (by omega)) (qn _ (by omega))
    rw [a2] at a3
    rw [z2] at z3
    have K3 : ∀ j, j < nx → (∀ q ∈ qs, j ≠ q.1) → h3 j = h j := fun j hj hq => by rw [hf3 j (by omega) (by omega) (nX _ (by omega)) hq, K2 j hj]
    cases b with
    | false =>
      try simp [-map_take, -map_drop, -map_tail, rgs, a3, z3, wldV_ones, wldV_len, wldV_take]
      repeat' first | done | ((first | (with_reducible refine guardS_split ?_ ?_) | (with_reducible refine condS_split ?_ ?_)) <;> intro qb <;> (have qp := qb; try simp only [psq] at qp) <;> simp [-map_take, -map_drop, -map_tail, rgs, a3, z3, wldV_ones, wldV_len, wldV_take, qb])
      refine call_wc (w_cloned (F := F) hs) ?_
      intro X4 h4 n4 V4 hid4 hle4 hfr4
      dsimp only at hid4 hle4 hfr4
      have z4 := hfr4 (nx + 1) (fun hm => by have := hid4 _ hm; omega)
      rw [z3] at z4
      try simp [-map_take, -map_drop, -map_tail, rgs, z4, wldR_ones X4 w, wldR_len, wldR_take]
      repeat' first | done | ((first | (with_reducible refine guardS_split ?_ ?_) | (with_reducible refine condS_split ?_ ?_)) <;> intro qb <;> (have qp := qb; try simp only [psq] at qp) <;> simp [-map_take, -map_drop, -map_tail, rgs, z4, wldR_ones X4 w, wldR_len, wldR_take, qb])
      have e1 : askW w w' false = w := by simp [askW, hw]
      have e2 : askB w w' false = false := by simp [askB]
      refine .done ⟨⟨X4, by rw [e1, e2], by rw [e1]; exact V4.keep fun id hid => (by have := hid4 id hid; repeat rw [upd_ne _ _ _ _ (by omega)]), fun id hid => by have := hid4 id hid; omega⟩, fun q hq => ?_, fun j hj hq => ?_⟩
      · have := hqn q hq
        rw [if_pos hw, upd_ne _ _ _ _ (by omega), hfr4 _ (fun hm => by have := hid4 _ hm; omega)]
        exact hq3 q hq
      · rw [upd_ne _ _ _ _ (by omega), hfr4 _ (fun hm => by have := hid4 _ hm; omega)]
        exact K3 j hj hq
    | true =>
      obtain ⟨X3, o3, V3, hid3⟩ := hb rfl
      try simp [-map_take, -map_drop, -map_tail, rgs, a3, z3, o3, wldR_ones X3 w', wldR_len, wldR_take]
      repeat' first | done | ((first | (with_reducible refine guardS_split ?_ ?_) | (with_reducible refine condS_split ?_ ?_)) <;> intro qb <;> (have qp := qb; try simp only [psq] at qp) <;> simp [-map_take, -map_drop, -map_tail, rgs, a3, z3, o3, wldR_ones X3 w', wldR_len, wldR_take, qb])
      refine call_pcB (c_WorldOk (w := w') (F := FF)) (.bool _) ?hb2 ?_
      case hb2 => exact .cons (.agg1 V3.bors) .nil
      by_cases hw2 : wldOk w' = true
      · try simp [-map_take, -map_drop, -map_tail, rgs, a3, z3, o3, hw2, wldR_ones X3 w', wldR_len, wldR_take]
        repeat' first | done | ((first | (with_reducible refine guardS_split ?_ ?_) | (with_reducible refine condS_split ?_ ?_)) <;> intro qb <;> (have qp := qb; try simp only [psq] at qp) <;> simp [-map_take, -map_drop, -map_tail, rgs, a3, z3, o3, hw2, wldR_ones X3 w', wldR_len, wldR_take, qb])
        have e1 : askW w w' true = w' := by simp [askW, hw, hw2]
        have e2 : askB w w' true = true := by simp [askB, hw, hw2]
        have hb3 : ∀ id ∈ X3.ids, nx + 9 ≤ id ∧ id < n3 := fun id hid => by
          rcases hid3 id hid with q | q
          · have := hid1 id q; omega
          · omega
        refine .done ⟨⟨X3, by rw [e1, e2], by rw [e1]; exact V3.keep fun id hid => (by have := hb3 id hid; rw [upd_ne _ _ _ _ (by omega)]), fun id hid => by have := hb3 id hid; omega⟩, fun q hq => ?_, fun j hj hq => ?_⟩
        · have := hqn q hq
          rw [if_pos hw, upd_ne _ _ _ _ (by omega)]
          exact hq3 q hq
        · rw [upd_ne _ _ _ _ (by omega)]
          exact K3 j hj hq
      · try simp [-map_take, -map_drop, -map_tail, rgs, a3, z3, o3, hw2, wldV_ones, wldV_len, wldV_take]
        repeat' first | done | ((first | (with_reducible refine guardS_split ?_ ?_) | (with_reducible refine condS_split ?_ ?_)) <;> intro qb <;> (have qp := qb; try simp only [psq] at qp) <;> simp [-map_take, -map_drop, -map_tail, rgs, a3, z3, o3, hw2, wldV_ones, wldV_len, wldV_take, qb])
        refine call_wc (w_cloned (F := F) hs) ?_
        intro X4 h4 n4 V4 hid4 hle4 hfr4
        dsimp only at hid4 hle4 hfr4
        have z4 := hfr4 (nx + 1) (fun hm => by have := hid4 _ hm; omega)
        rw [z3] at z4
        try simp [-map_take, -map_drop, -map_tail, rgs, z4, wldR_ones X4 w, wldR_len, wldR_take]
        repeat' first | done | ((first | (with_reducible refine guardS_split ?_ ?_) | (with_reducible refine condS_split ?_ ?_)) <;> intro qb <;> (have qp := qb; try simp only [psq] at qp) <;> simp [-map_take, -map_drop, -map_tail, rgs, z4, wldR_ones X4 w, wldR_len, wldR_take, qb])
        have e1 : askW w w' true = w := by simp [askW, hw, hw2]
        have e2 : askB w w' true = false := by simp [askB, hw2]
        refine .done ⟨⟨X4, by rw [e1, e2], by rw [e1]; exact V4.keep fun id hid => (by have := hid4 id hid; repeat rw [upd_ne _ _ _ _ (by omega)]), fun id hid => by have := hid4 id hid; omega⟩, fun q hq => ?_, fun j hj hq => ?_⟩
        · have := hqn q hq
          rw [if_pos hw, upd_ne _ _ _ _ (by omega), hfr4 _ (fun hm => by have := hid4 _ hm; omega)]
          exact hq3 q hq
        · rw [upd_ne _ _ _ _ (by omega), hfr4 _ (fun hm => by have := hid4 _ hm; omega)]
          exact K3 j hj hq
  · try simp [-map_take, -map_drop, -map_tail, rgs, hw, wldV_ones, wldV_len, wldV_take]
    repeat' first | done | ((first | ((with_reducible show doCall _ _ _ 68 _ _); refine call_pc (c_WorldOk (w := w) (F := F)) ?_)) <;> simp [-map_take, -map_drop, -map_tail, rgs, hw, wldV_ones, wldV_len, wldV_take]) | ((first | (with_reducible refine guardS_split ?_ ?_) | (with_reducible refine condS_split ?_ ?_)) <;> intro qb <;> (have qp := qb; try simp only [psq] at qp) <;> simp [-map_take, -map_drop, -map_tail, rgs, hw, wldV_ones, wldV_len, wldV_take, qb])
    exact AskQ.bad hw hpre hqn (fun j hj => by repeat rw [upd_ne _ _ _ _ (by omega)]) (by omega)
theorem c_Later {t d : Int} (ht : -9223372036854775808 ≤ t ∧ t ≤ 9223372036854775807) (hd : -9223372036854775808 ≤ d ∧ d ≤ 9223372036854775807) : PC ctx.P 111 [.int .i64 t, .int .i64 d] (.int .i64 (later t d)) := by
  by_cases h0 : 0 < d
  · obtain ⟨m1, hm1⟩ : ∃ m1 : Int, m1 = 9223372036854775807 - d := ⟨_, rfl⟩
    have e1w : IntKind.i64.wrap (9223372036854775807 - d) = m1 := by rw [hm1]; exact i64_ok (by omega)
    have h1 : ¬ d < 0 := by omega
    refine PC.o okC Tryz.func111 rfl (.int _ _) fun h nx hnx => ?_
    try simp [-map_take, -map_drop, -map_tail, rgs, e1w, h0, h1]
    repeat' first | done | ((first | (with_reducible refine guardS_split ?_ ?_) | (with_reducible refine condS_split ?_ ?_)) <;> intro qb <;> (have qp := qb; try simp only [psq] at qp) <;> simp [-map_take, -map_drop, -map_tail, rgs, e1w, h0, h1, qb])
    all_goals (clear hnx; (try rw [i64_ok (by omega)]); simp only [later]; repeat (first | rw [if_pos (by omega)] | rw [if_neg (by omega)]))
  · by_cases h1 : d < 0
    · obtain ⟨m1, hm1⟩ : ∃ m1 : Int, m1 = -9223372036854775808 - d := ⟨_, rfl⟩
      have e1w : IntKind.i64.wrap (-9223372036854775808 - d) = m1 := by rw [hm1]; exact i64_ok (by omega)
      refine PC.o okC Tryz.func111 rfl (.int _ _) fun h nx hnx => ?_
      try simp [-map_take, -map_drop, -map_tail, rgs, e1w, h0, h1]
      repeat' first | done | ((first | (with_reducible refine guardS_split ?_ ?_) | (with_reducible refine condS_split ?_ ?_)) <;> intro qb <;> (have qp := qb; try simp only [psq] at qp) <;> simp [-map_take, -map_drop, -map_tail, rgs, e1w, h0, h1, qb])
      all_goals (clear hnx; (try rw [i64_ok (by omega)]); simp only [later]; repeat (first | rw [if_pos (by omega)] | rw [if_neg (by omega)]))
    · refine PC.o okC Tryz.func111 rfl (.int _ _) fun h nx hnx => ?_
      try simp [-map_take, -map_drop, -map_tail, rgs, h0, h1]
      repeat' first | done | ((first | (with_reducible refine guardS_split ?_ ?_) | (with_reducible refine condS_split ?_ ?_)) <;> intro qb <;> (have qp := qb; try simp only [psq] at qp) <;> simp [-map_take, -map_drop, -map_tail, rgs, h0, h1, qb])
      all_goals (clear hnx; (try rw [i64_ok (by omega)]); simp only [later]; repeat (first | rw [if_pos (by omega)] | rw [if_neg (by omega)]))
theorem d_Tick {w : Wld} {d : Int} {q : Nat} (ht : -9223372036854775808 ≤ w.now ∧ w.now ≤ 9223372036854775807) (hd : -9223372036854775808 ≤ d ∧ d ≤ 9223372036854775807) : DoOk ctx.P 110 [(q, [.int .i64 d], [.int .i64 d])] w { w with now := later w.now d } (decide (0 ≤ d)) := by
  intro p X
  generalize hw' : ({ w with now := later w.now d } : Wld) = w'
  refine AC.o okC Tryz.func110 rfl fun h nx hfr hnx hpre => ?_
  obtain ⟨o1, V1, hq⟩ := hpre
  obtain ⟨hq1, hq2⟩ := hq _ (List.mem_cons_self ..)
  dsimp only at hq1 hq2
  have hp : p < nx := hnx p (by rw [o1]; simp)
  have hqn : q < nx := hnx q (by rw [hq1]; simp)
  have hpX := V1.obj o1
  simp only [wldR] at o1
  try simp [-map_take, -map_drop, -map_tail, rgs, o1, hq1, hq2]
  repeat' first | done | ((first | ((with_reducible show doCall _ _ _ 111 _ _); refine call_pc (c_Later ht hd) ?_) | (with_reducible refine go_draw (i := 1) [(0, [], []), (1, [], []), (2, [], []), (3, [], []), (4, [], []), (5, [], []), (6, [], []), (7, [], []), (8, [], []), (9, [], [])] (by kernel_rfl) ?_)) <;> simp [-map_take, -map_drop, -map_tail, rgs, o1, hq1, hq2])
  refine ⟨rfl, fun _ => ⟨X, ?_, ?_, fun id hid => .inl hid⟩, fun q' hm => ?_, fun j hj hjp _ _ => ?_⟩
  · subst hw'; rw [upd_same]; rfl
  · subst hw'
    exact (V1.setNow _).keep fun id hid => upd_ne _ _ _ _ (fun e => hpX (e ▸ hid))
  · simp at hm; subst hm
    rw [upd_ne _ _ _ _ hq2]; exact hq1
  · rw [upd_ne _ _ _ _ hjp]
theorem w_TickIn {F : Nat → Bool} {w : Wld} {d : Int} (hs : wldsz w ≤ 1048576) (ht : -9223372036854775808 ≤ w.now ∧ w.now ≤ 9223372036854775807) (hd : -9223372036854775808 ≤ d ∧ d ≤ 9223372036854775807) : WC ctx.P 39 [.agg (wldV F w), .int .i64 d]
    (fun X => .tup [.agg (wldR X (askW w { w with now := later w.now d } (decide (0 ≤ d)))), .bool (askB w { w with now := later w.now d } (decide (0 ≤ d)))]) (askW w { w with now := later w.now d } (decide (0 ≤ d))) := by
  refine WC.of ?_
  have hdo : ∀ q, DoOk ctx.P 110 [(q, [.int .i64 d], [.int .i64 d])] w { w with now := later w.now d } (decide (0 ≤ d)) := fun q => d_Tick ht hd
  generalize ({ w with now := later w.now d } : Wld) = w' at *
  generalize decide (0 ≤ d) = b at *
  refine AC.o okC Tryz.func39 rfl fun h nx hfr hnx hpre => ?_
  try simp [-map_take, -map_drop, -map_tail, rgs, wldV_ones, wldV_len, wldV_take]
  refine call_ac (w_asked (F := F) (qs := [(nx + 1, [.int .i64 d], [.int .i64 d])]) hs (fun _ => hdo _)) ?_ ?_
  · intro q hm
    simp at hm; subst hm
    dsimp only
    rw [upd_ne _ _ _ _ (by omega), upd_same]
  · rintro r h1 n1 ⟨⟨X, rfl, V1, hid1⟩, _, hf1⟩ hle1 hfr1
    dsimp only at hid1 hf1 hle1
    have K1 : ∀ j, j < nx + 11 → j ≠ nx + 1 → h1 j = upd (upd (upd h nx (some (Ent.obj (wldV F w)))) (nx + 1) (some (Ent.obj [AV.int IntKind.i64 d]))) (nx + 2) (some (Ent.obj [AV.int IntKind.i64 0, AV.nil, AV.nil, AV.nil, AV.nil, AV.nil, AV.nil, AV.nil, AV.int IntKind.i64 0, AV.nil, AV.nil, AV.nil, AV.nil, AV.nil, AV.nil, AV.nil, AV.nil])) j := fun j hj hj2 => hf1 j hj (fun q hm => by simp at hm; subst hm; exact hj2)
    have z1 := K1 (nx + 2) (by omega) (by omega)
    rw [upd_same] at z1
    try simp [-map_take, -map_drop, -map_tail, rgs, z1, wldR_ones X _, wldR_len, wldR_take]
    refine ⟨fun j hj => ?_, X, rfl, V1.keep fun id hid => ?_, fun id hid => by have := hid1 id hid; omega⟩
    · rw [upd_ne _ _ _ _ (by omega), K1 j (by omega) (by omega)]
      repeat rw [upd_ne _ _ _ _ (by omega)]
    · have := hid1 id hid
      rw [upd_ne _ _ _ _ (by omega)]
end Go.AE.Tryz
end

section
/- Contracts of the reference's readers: slots, heaps, timers. -/
set_option linter.unusedSimpArgs false
set_option linter.unusedVariables false
set_option maxRecDepth 8000
set_option maxHeartbeats 2000000
namespace Go.AE.Tryz
open Go.Proofs
open List (map_take map_drop map_tail)

theorem s_l1In {x lo hi : Int} : PC ctx.P 252 [.int .i64 x, .int .i64 lo, .int .i64 hi] (.bool (inR x lo hi)) := by
  refine PC.o okC Tryz.func252 rfl (.bool _) fun h nx hnx => ?_
  try simp [-map_take, -map_drop, -map_tail, rgs, inR]
  repeat' first | done | ((first | (with_reducible refine guardS_split ?_ ?_)) <;> intro qb <;> (have qp := qb; try simp only [psq] at qp) <;> simp [-map_take, -map_drop, -map_tail, rgs, inR, qb])
theorem s_SlotsOk {F : Nat → Bool} {s : Slt} : PC ctx.P 321 [.agg (sltV F s)] (.bool (sltOk s)) := by
  refine PC.lim (n := s.ages.length) (x := .agg (sltV F s)) (by simp) (.agg (x := .view (F 8) 1 (s.ages.map iv)) (by simp [sltV]) (.here (by simp))) ⟨_, Tryz.func321, by kernel_rfl, by kernel_rfl⟩ fun hlim => ?_
  refine PC.o okC Tryz.func321 rfl (.bool _) fun h nx hnx => ?_
  try simp [-map_take, -map_drop, -map_tail, rgs, sltV]
  repeat' first | done | ((first | ((with_reducible show lenS _ _ _ _ _ _); refine lenS_slice rfl fun _ => ?_) | ((with_reducible show iaddrS _ _ _ _ _ _ _); refine iaddr_map rfl omA omA ?_) | ((with_reducible show doCall _ _ _ 252 _ _); refine call_pc (s_l1In) ?_)) <;> simp [-map_take, -map_drop, -map_tail, rgs, sltV]) | ((first | (with_reducible refine guardS_split ?_ ?_) | (with_reducible refine condS_split ?_ ?_)) <;> intro qb <;> (have qp := qb; try simp only [psq] at qp) <;> simp [-map_take, -map_drop, -map_tail, rgs, sltV, qb])
  all_goals first | (clear hnx; simp [sltOk]; grind) | skip
  refine go_upP [2, 3, 18, 19, 20, 21, 22, 23, 24, 25, 26, 27, 28, 29, 30, 31] (s.ages.length) (fun (i : Nat) a => [(3, .int .i64 i)]) (fun i_ a_ h_ _ => (fun i (_ : Unit) _ => ((s.ages.drop i).any fun a => !inR a 0 1000000) = s.ages.any fun a => !inR a 0 1000000) i_ a_ h_) (()) (by simp) ?_ keep_rfl (Nat.le_refl _) ?_
  · simp
  · intro i a tm h' n' hle hJ hE hn' next hnx
    try dsimp only at hJ
    have hK : KeepB nx h' h := KeepB.sub hE keepA (by omega)
    simp [-map_take, -map_drop, -map_tail]
    have e1 : h' (nx) = some (.obj (sltV F s)) := by have := hE (nx) (by omega); simpa [sltV] using this
    have e1n : ∀ k, ((nx) = n' + k) = False := fun k => by simp only [eq_iff_iff, iff_false]; omega
    have e1m : ((nx) = n') = False := by simp only [eq_iff_iff, iff_false]; omega
    try simp [-map_take, -map_drop, -map_tail, rgs, sltV, iv, e1, e1n, e1m]
    repeat' first | done | ((first | ((with_reducible show lenS _ _ _ _ _ _); refine lenS_slice rfl fun _ => ?_) | ((with_reducible show iaddrS _ _ _ _ _ _ _); refine iaddr_map rfl omA omA ?_) | ((with_reducible show doCall _ _ _ 252 _ _); refine call_pc (s_l1In) ?_)) <;> simp [-map_take, -map_drop, -map_tail, rgs, sltV, iv, e1, e1n, e1m]) | ((first | (with_reducible refine guardS_split ?_ ?_) | (with_reducible refine condS_split ?_ ?_)) <;> intro qb <;> (have qp := qb; try simp only [psq] at qp) <;> simp [-map_take, -map_drop, -map_tail, rgs, sltV, iv, e1, e1n, e1m, qb])
    all_goals
      first
      | (have hlt : i < s.ages.length := (by first | omega | (simp at *; omega))
         rw [drop_gt hlt] at hJ
         first
         | (refine hnx.go (()) ?_ ?_ ?_ ?_ ?_ ?_; omega; (simp [wrap_succ hlt hlim]); (simp); exact keepA; (first | omega | (simp; omega)); (try dsimp only); clear hnx; first | ((try simp only [List.drop_length, Int.toNat_natCast, List.any_cons, List.any_nil, sltOk] at hJ ⊢); grind) | (simp_all [List.any_cons, List.any_nil, sltOk]; done) | (simp_all; omega))
         | (refine ⟨?_, keepA⟩; clear hnx; first | ((try simp only [List.drop_length, Int.toNat_natCast, List.any_cons, List.any_nil, sltOk] at hJ ⊢); grind) | (simp_all [List.any_cons, List.any_nil, sltOk]; done) | (simp_all; omega)))
      | (obtain rfl : i = s.ages.length := (by first | omega | (simp at *; omega))
         refine ⟨?_, keepA⟩; clear hnx; first | ((try simp only [List.drop_length, Int.toNat_natCast, List.any_cons, List.any_nil, sltOk] at hJ ⊢); grind) | (simp_all [List.any_cons, List.any_nil, sltOk]; done) | (simp_all; omega))
theorem s_UsedIn {F : Nat → Bool} {s : Slt} : PC ctx.P 322 [.agg (sltV F s)] (.int .i64 (if sltOk s then cntB id s.used else -1)) := by
  refine PC.lim (n := s.used.length) (x := .agg (sltV F s)) (by simp) (.agg (x := .view (F 9) 1 (s.used.map bv)) (by simp [sltV]) (.here (by simp))) ⟨_, Tryz.func322, by kernel_rfl, by kernel_rfl⟩ fun hlim => ?_
  refine PC.o okC Tryz.func322 rfl (.int _ _) fun h nx hnx => ?_
  try simp [-map_take, -map_drop, -map_tail, rgs, sltV]
  repeat' first | done | ((first | ((with_reducible show lenS _ _ _ _ _ _); refine lenS_slice rfl fun _ => ?_) | ((with_reducible show iaddrS _ _ _ _ _ _ _); refine iaddr_map rfl omA omA ?_) | ((with_reducible show doCall _ _ _ 321 _ _); refine call_pc (s_SlotsOk (s := s) (F := F)) ?_)) <;> simp [-map_take, -map_drop, -map_tail, rgs, sltV]) | ((first | (with_reducible refine condS_split ?_ ?_)) <;> intro qb <;> (have qp := qb; try simp only [psq] at qp) <;> simp [-map_take, -map_drop, -map_tail, rgs, sltV, qb])
  all_goals first | (clear hnx; simp_all; done) | skip
  refine go_upP [3, 4, 8, 9, 10, 11, 12, 13, 14, 15, 16, 17, 18, 19, 20, 21] (s.used.length) (fun (i : Nat) a => [(4, .int .i64 i), (3, .int .i64 a)]) (fun i_ a_ h_ _ => (fun i (a : Int) _ => a + cntB id (s.used.drop i) = cntB id s.used ∧ 0 ≤ a ∧ a ≤ i) i_ a_ h_) (0) (by simp) ?_ keep_rfl (Nat.le_refl _) ?_
  · simp
  · intro i a tm h' n' hle hJ hE hn' next hnx
    try dsimp only at hJ
    have hK : KeepB nx h' h := KeepB.sub hE keepA (by omega)
    simp [-map_take, -map_drop, -map_tail]
    have e1 : h' (nx) = some (.obj (sltV F s)) := by have := hE (nx) (by omega); simpa [sltV] using this
    have e1n : ∀ k, ((nx) = n' + k) = False := fun k => by simp only [eq_iff_iff, iff_false]; omega
    have e1m : ((nx) = n') = False := by simp only [eq_iff_iff, iff_false]; omega
    try simp [-map_take, -map_drop, -map_tail, rgs, sltV, bv, e1, e1n, e1m]
    repeat' first | done | ((first | ((with_reducible show lenS _ _ _ _ _ _); refine lenS_slice rfl fun _ => ?_) | ((with_reducible show iaddrS _ _ _ _ _ _ _); refine iaddr_map rfl omA omA ?_)) <;> simp [-map_take, -map_drop, -map_tail, rgs, sltV, bv, e1, e1n, e1m]) | ((first | (with_reducible refine condS_split ?_ ?_)) <;> intro qb <;> (have qp := qb; try simp only [psq] at qp) <;> simp [-map_take, -map_drop, -map_tail, rgs, sltV, bv, e1, e1n, e1m, qb])
    · rw [drop_gt (by omega)] at hJ
      refine hnx.go (a + 1) (by omega) (by simp [wrap_succ (i := i) (n := s.used.length) (by omega) hlim, i64_ok (x := a + 1) (by simp only [LIM] at hlim; omega)]) (by simp) keepA (by first | omega | (simp; omega)) ?_
      try dsimp only
      simp [cntB, qb] at hJ ⊢
      omega
    · rw [drop_gt (by omega)] at hJ
      refine hnx.go (a) (by omega) (by simp [wrap_succ (i := i) (n := s.used.length) (by omega) hlim]) (by simp) keepA (by first | omega | (simp; omega)) ?_
      try dsimp only
      simp [cntB, qb] at hJ ⊢
      omega
    · refine ⟨?_, keepA⟩
      rw [List.drop_eq_nil_of_le (by omega)] at hJ
      simp [cntB, *] at hJ ⊢
      omega
theorem s_Holds {F : Nat → Bool} {s : Slt} {x : Han} : PC ctx.P 323 [.agg (sltV F s), .agg (hanC x)] (.bool (sltOk s && sltHolds s x)) := by
  refine PC.lim (n := s.ages.length) (x := .agg (sltV F s)) (by simp) (.agg (x := .view (F 8) 1 (s.ages.map iv)) (by simp [sltV]) (.here (by simp))) ⟨_, Tryz.func323, by kernel_rfl, by kernel_rfl⟩ fun hlim => ?_
  by_cases hs : sltOk s = true
  · have hl := sltOk_len hs
    refine PC.o okC Tryz.func323 rfl (.bool _) fun h nx hnx => ?_
    try simp [-map_take, -map_drop, -map_tail, rgs, sltV, hanC, iv, bv, hs, wrap_pred hlim]
    repeat' first | done | ((first | ((with_reducible show lenS _ _ _ _ _ _); refine lenS_slice rfl fun _ => ?_) | ((with_reducible show iaddrS _ _ _ _ _ _ _); refine iaddr_map rfl omA omA ?_) | ((with_reducible show doCall _ _ _ 321 _ _); refine call_pc (s_SlotsOk (s := s) (F := F)) ?_) | ((with_reducible show doCall _ _ _ 252 _ _); refine call_pc (s_l1In) ?_) | (with_reducible refine go_draw (i := 1) [(0, [], []), (1, [], []), (2, [], []), (3, [], []), (4, [], []), (5, [], []), (6, [], []), (7, [], []), (8, [], []), (9, [], []), (10, [], []), (11, [], []), (12, [], []), (13, [], []), (14, [], []), (15, [], []), (16, [], []), (17, [], []), (18, [], []), (19, [], []), (20, [], []), (21, [], []), (22, [], []), (23, [], []), (24, [], []), (25, [], []), (26, [], []), (27, [], []), (28, [], []), (29, [], []), (30, [], [])] (by kernel_rfl) ?_)) <;> simp [-map_take, -map_drop, -map_tail, rgs, sltV, hanC, iv, bv, hs, wrap_pred hlim]) | ((first | (with_reducible refine guardD_split ?_ ?_)) <;> intro qb <;> (have qp := qb; try simp only [psq] at qp) <;> simp [-map_take, -map_drop, -map_tail, rgs, sltV, hanC, iv, bv, hs, wrap_pred hlim, qb])
    all_goals (try clear hnx)
    all_goals first | (simp_all [sltHolds, isIn]; done) | (simp_all [sltHolds, isIn]; omega) | (rw [Bool.eq_iff_iff]; simp_all [sltHolds, isIn]; done) | (rw [Bool.eq_iff_iff]; simp_all [sltHolds, isIn]; omega) | omega | (simp only [sltHolds, isIn]; grind) | grind
  · refine PC.o okC Tryz.func323 rfl (.bool _) fun h nx hnx => ?_
    try simp [-map_take, -map_drop, -map_tail, rgs, hs]
    repeat' first | done | ((first | ((with_reducible show lenS _ _ _ _ _ _); refine lenS_slice rfl fun _ => ?_) | ((with_reducible show iaddrS _ _ _ _ _ _ _); refine iaddr_map rfl omA omA ?_) | ((with_reducible show doCall _ _ _ 321 _ _); refine call_pc (s_SlotsOk (s := s) (F := F)) ?_) | (with_reducible refine go_draw (i := 1) [(0, [], []), (1, [], []), (2, [], []), (3, [], []), (4, [], []), (5, [], []), (6, [], []), (7, [], []), (8, [], []), (9, [], []), (10, [], []), (11, [], []), (12, [], []), (13, [], []), (14, [], []), (15, [], []), (16, [], []), (17, [], []), (18, [], []), (19, [], []), (20, [], []), (21, [], []), (22, [], []), (23, [], []), (24, [], []), (25, [], []), (26, [], []), (27, [], []), (28, [], []), (29, [], []), (30, [], [])] (by kernel_rfl) ?_)) <;> simp [-map_take, -map_drop, -map_tail, rgs, hs]) | ((first | (with_reducible refine guardD_split ?_ ?_)) <;> intro qb <;> (have qp := qb; try simp only [psq] at qp) <;> simp [-map_take, -map_drop, -map_tail, rgs, hs, qb])
    all_goals (try clear hnx)
    all_goals first | (simp_all [sltHolds]; done) | (simp_all [sltHolds]; omega) | (rw [Bool.eq_iff_iff]; simp_all [sltHolds]; done) | (rw [Bool.eq_iff_iff]; simp_all [sltHolds]; omega) | omega | (simp only [sltHolds]; grind) | grind
end Go.AE.Tryz
end

section
/- Contracts of the reference's readers: heaps, timers, trees, events. -/
set_option linter.unusedSimpArgs false
set_option linter.unusedVariables false
set_option maxRecDepth 8000
set_option maxHeartbeats 4000000
namespace Go.AE.Tryz
open Go.Proofs
open List (map_take map_drop map_tail)

theorem s_l3Ahead {a b : Twg} : PC ctx.P 379 [.agg (twgC a), .agg (twgC b)] (.bool (decide (twgCmp a b < 0))) := by
  rw [twgCmp_lt]
  refine PC.o okC Tryz.func379 rfl (.bool _) fun h nx hnx => ?_
  try simp [-map_take, -map_drop, -map_tail, rgs, twgC]
  repeat' first | done | ((first | (with_reducible refine guardS_split ?_ ?_)) <;> intro qb <;> (have qp := qb; try simp only [psq] at qp) <;> simp [-map_take, -map_drop, -map_tail, rgs, twgC, qb])
  all_goals (try clear hnx)
  all_goals first | (simp_all []; done) | (simp_all []; omega) | (rw [Bool.eq_iff_iff]; simp_all []; done) | (rw [Bool.eq_iff_iff]; simp_all []; omega) | omega | (simp only []; grind) | grind
theorem s_l3Parts {p : Bool} {l : List Twg} (hp : 0 < l.length) (h0 : 0 ≤ (gt l 0).lefts) (h1 : (gt l 0).lefts < l.length) :
    PC ctx.P 378 [.view p 3 (l.map twgC)] (.tup [.view p 3 ((l.tail.take (gt l 0).lefts.toNat).map twgC), .view p 3 ((l.drop ((gt l 0).lefts.toNat + 1)).map twgC), .bool true]) := by
  refine PC.lim (n := l.length) (x := .view p 3 (l.map twgC)) (by simp) (.here (by simp)) ⟨_, Tryz.func378, by kernel_rfl, by kernel_rfl⟩ fun hlim => ?_
  simp only [LIM] at hlim
  have q1 : (1 + (gt l 0).lefts).toNat = (gt l 0).lefts.toNat + 1 := by omega
  have q2 : inR (gt l 0).lefts 0 ((l.length : Int) - 1) = true := by rw [inR_true]; omega
  refine PC.o okC Tryz.func378 rfl (.tup _ (by simp [-List.map_take, -List.map_drop]; exact ⟨.vmap twgC_fz, .vmap twgC_fz⟩)) fun h nx hnx => ?_
  try simp [-map_take, -map_drop, -map_tail, rgs, twgC, i64_ok (x := 1 + (gt l 0).lefts) (by omega), i64_ok (x := (l.length : Int) - 1) (by omega), q1, q2]
  repeat' first | done | ((first | ((with_reducible show lenS _ _ _ _ _ _); refine lenS_slice rfl fun _ => ?_) | ((with_reducible show iaddrS _ _ _ _ _ _ _); refine iaddr_map rfl omA omA ?_) | ((with_reducible show sliceS _ _ _ _ _ _ _ _); refine slice_to rfl omA omA ?_) | ((with_reducible show sliceS _ _ _ _ _ _ _ _); refine slice_from rfl omA omA ?_) | ((with_reducible show sliceS _ _ _ _ _ _ _ _); refine slice_mid rfl omA omA omA ?_) | ((with_reducible show sliceI _ _ _ _ _ _ _ _ _ _ _); refine sliceI_to rfl omA omA ?_) | ((with_reducible show sliceI _ _ _ _ _ _ _ _ _ _ _); refine sliceI_from rfl omA omA ?_) | ((with_reducible show sliceI _ _ _ _ _ _ _ _ _ _ _); refine sliceI_mid rfl omA omA omA ?_) | ((with_reducible show doCall _ _ _ 252 _ _); refine call_pc (s_l1In) ?_) | (with_reducible refine go_draw (i := 4) [(0, [], []), (1, [], []), (2, [], []), (3, [], []), (4, [], []), (5, [], []), (6, [], []), (7, [], []), (8, [], []), (9, [], []), (10, [], [])] (by kernel_rfl) ?_)) <;> simp [-map_take, -map_drop, -map_tail, rgs, twgC, i64_ok (x := 1 + (gt l 0).lefts) (by omega), i64_ok (x := (l.length : Int) - 1) (by omega), q1, q2]) | ((first | (with_reducible refine condS_split ?_ ?_)) <;> intro qb <;> (have qp := qb; try simp only [psq] at qp) <;> simp [-map_take, -map_drop, -map_tail, rgs, twgC, i64_ok (x := 1 + (gt l 0).lefts) (by omega), i64_ok (x := (l.length : Int) - 1) (by omega), q1, q2, qb])
theorem s_l3PartsN {p : Bool} {l : List Twg} (hp : 0 < l.length) (h0 : ¬ (0 ≤ (gt l 0).lefts ∧ (gt l 0).lefts < l.length)) :
    PC ctx.P 378 [.view p 3 (l.map twgC)] (.tup [.view true 3 [], .view true 3 [], .bool false]) := by
  refine PC.lim (n := l.length) (x := .view p 3 (l.map twgC)) (by simp) (.here (by simp)) ⟨_, Tryz.func378, by kernel_rfl, by kernel_rfl⟩ fun hlim => ?_
  simp only [LIM] at hlim
  have q2 : inR (gt l 0).lefts 0 ((l.length : Int) - 1) = false := by rw [inR_false]; omega
  refine PC.o okC Tryz.func378 rfl (.tup _ (by simp; exact .view' (by simp))) fun h nx hnx => ?_
  try simp [-map_take, -map_drop, -map_tail, rgs, twgC, i64_ok (x := (l.length : Int) - 1) (by omega), q2]
  repeat' first | done | ((first | ((with_reducible show lenS _ _ _ _ _ _); refine lenS_slice rfl fun _ => ?_) | ((with_reducible show iaddrS _ _ _ _ _ _ _); refine iaddr_map rfl omA omA ?_) | ((with_reducible show sliceS _ _ _ _ _ _ _ _); refine slice_to rfl omA omA ?_) | ((with_reducible show sliceS _ _ _ _ _ _ _ _); refine slice_from rfl omA omA ?_) | ((with_reducible show sliceS _ _ _ _ _ _ _ _); refine slice_mid rfl omA omA omA ?_) | ((with_reducible show sliceI _ _ _ _ _ _ _ _ _ _ _); refine sliceI_to rfl omA omA ?_) | ((with_reducible show sliceI _ _ _ _ _ _ _ _ _ _ _); refine sliceI_from rfl omA omA ?_) | ((with_reducible show sliceI _ _ _ _ _ _ _ _ _ _ _); refine sliceI_mid rfl omA omA omA ?_) | ((with_reducible show doCall _ _ _ 252 _ _); refine call_pc (s_l1In) ?_) | (with_reducible refine go_draw (i := 4) [(0, [], []), (1, [], []), (2, [], []), (3, [], []), (4, [], []), (5, [], []), (6, [], []), (7, [], []), (8, [], []), (9, [], []), (10, [], [])] (by kernel_rfl) ?_)) <;> simp [-map_take, -map_drop, -map_tail, rgs, twgC, i64_ok (x := (l.length : Int) - 1) (by omega), q2]) | ((first | (with_reducible refine condS_split ?_ ?_)) <;> intro qb <;> (have qp := qb; try simp only [psq] at qp) <;> simp [-map_take, -map_drop, -map_tail, rgs, twgC, i64_ok (x := (l.length : Int) - 1) (by omega), q2, qb])
theorem s_l3RankN {p : Bool} : ∀ (n : Nat) (l : List Twg), l.length ≤ n → PC ctx.P 359 [.view p 3 (l.map twgC)] (.int .i64 (rkI l)) := by
  intro n
  induction n with
  | zero =>
    intro l hl
    obtain rfl : l = [] := by simpa using hl
    refine PC.o okC Tryz.func359 rfl (.int _ _) fun h nx hnx => ?_
    try simp [-map_take, -map_drop, -map_tail, rgs, rkI_nil]
    repeat' first | done | ((first | ((with_reducible show lenS _ _ _ _ _ _); refine lenS_slice rfl fun _ => ?_) | ((with_reducible show iaddrS _ _ _ _ _ _ _); refine iaddr_map rfl omA omA ?_) | (with_reducible refine go_draw (i := 4) [(0, [], []), (1, [], []), (2, [], []), (3, [], []), (4, [], []), (5, [], []), (6, [], []), (7, [], []), (8, [], []), (9, [], []), (10, [], []), (11, [], []), (12, [], []), (13, [], []), (14, [], []), (15, [], []), (16, [], []), (17, [], []), (18, [], []), (19, [], []), (20, [], []), (21, [], []), (22, [], []), (23, [], []), (24, [], []), (25, [], []), (26, [], []), (27, [], []), (28, [], []), (29, [], []), (30, [], []), (31, [], [])] (by kernel_rfl) ?_)) <;> simp [-map_take, -map_drop, -map_tail, rgs, rkI_nil]) | ((first | (with_reducible refine guardD_split ?_ ?_) | (with_reducible refine guardS_split ?_ ?_) | (with_reducible refine condS_split ?_ ?_)) <;> intro qb <;> (have qp := qb; try simp only [psq] at qp) <;> simp [-map_take, -map_drop, -map_tail, rgs, rkI_nil, qb])
  | succ n ih =>
    intro l hl
    refine PC.lim (n := l.length) (x := .view p 3 (l.map twgC)) (by simp) (.here (by simp)) ⟨_, Tryz.func359, by kernel_rfl, by kernel_rfl⟩ fun hlim => ?_
    by_cases hp : 0 < l.length
    · by_cases hb : 0 ≤ (gt l 0).lefts ∧ (gt l 0).lefts < l.length
      · have i1 := ih (l.tail.take (gt l 0).lefts.toNat) (by simp; omega)
        have i2 := ih (l.drop ((gt l 0).lefts.toNat + 1)) (by simp; omega)
        have e := rkI_step hp hb.1 hb.2
        have hr := rkI_le (l.drop ((gt l 0).lefts.toNat + 1))
        simp only [LIM] at hlim
        simp only [List.length_drop] at hr
        refine PC.o okC Tryz.func359 rfl (.int _ _) fun h nx hnx => ?_
        try simp [-map_take, -map_drop, -map_tail, rgs, twgC, i64_ok (x := rkI (l.drop ((gt l 0).lefts.toNat + 1)) + 1) (by omega)]
        repeat' first | done | ((first | ((with_reducible show lenS _ _ _ _ _ _); refine lenS_slice rfl fun _ => ?_) | ((with_reducible show iaddrS _ _ _ _ _ _ _); refine iaddr_map rfl omA omA ?_) | ((with_reducible show doCall _ _ _ 378 _ _); refine call_pc (s_l3Parts hp hb.1 hb.2) ?_) | ((with_reducible show doCall _ _ _ 379 _ _); refine call_pc (s_l3Ahead (a := gt l 0)) ?_) | (refine call_pc (i1) ?_) | (refine call_pc (i2) ?_) | (with_reducible refine go_draw (i := 4) [(0, [], []), (1, [], []), (2, [], []), (3, [], []), (4, [], []), (5, [], []), (6, [], []), (7, [], []), (8, [], []), (9, [], []), (10, [], []), (11, [], []), (12, [], []), (13, [], []), (14, [], []), (15, [], []), (16, [], []), (17, [], []), (18, [], []), (19, [], []), (20, [], []), (21, [], []), (22, [], []), (23, [], []), (24, [], []), (25, [], []), (26, [], []), (27, [], []), (28, [], []), (29, [], []), (30, [], []), (31, [], [])] (by kernel_rfl) ?_)) <;> simp [-map_take, -map_drop, -map_tail, rgs, twgC, i64_ok (x := rkI (l.drop ((gt l 0).lefts.toNat + 1)) + 1) (by omega)]) | ((first | (with_reducible refine guardD_split ?_ ?_) | (with_reducible refine guardS_split ?_ ?_) | (with_reducible refine condS_split ?_ ?_)) <;> intro qb <;> (have qp := qb; try simp only [psq] at qp) <;> simp [-map_take, -map_drop, -map_tail, rgs, twgC, i64_ok (x := rkI (l.drop ((gt l 0).lefts.toNat + 1)) + 1) (by omega), qb])
        all_goals (clear ih i1 i2 hnx; rw [e]; grind)
      · have e := rkI_bad hp hb
        refine PC.o okC Tryz.func359 rfl (.int _ _) fun h nx hnx => ?_
        try simp [-map_take, -map_drop, -map_tail, rgs, e]
        repeat' first | done | ((first | ((with_reducible show lenS _ _ _ _ _ _); refine lenS_slice rfl fun _ => ?_) | ((with_reducible show iaddrS _ _ _ _ _ _ _); refine iaddr_map rfl omA omA ?_) | ((with_reducible show doCall _ _ _ 378 _ _); refine call_pc (s_l3PartsN hp hb) ?_) | (with_reducible refine go_draw (i := 4) [(0, [], []), (1, [], []), (2, [], []), (3, [], []), (4, [], []), (5, [], []), (6, [], []), (7, [], []), (8, [], []), (9, [], []), (10, [], []), (11, [], []), (12, [], []), (13, [], []), (14, [], []), (15, [], []), (16, [], []), (17, [], []), (18, [], []), (19, [], []), (20, [], []), (21, [], []), (22, [], []), (23, [], []), (24, [], []), (25, [], []), (26, [], []), (27, [], []), (28, [], []), (29, [], []), (30, [], []), (31, [], [])] (by kernel_rfl) ?_)) <;> simp [-map_take, -map_drop, -map_tail, rgs, e]) | ((first | (with_reducible refine guardD_split ?_ ?_) | (with_reducible refine guardS_split ?_ ?_) | (with_reducible refine condS_split ?_ ?_)) <;> intro qb <;> (have qp := qb; try simp only [psq] at qp) <;> simp [-map_take, -map_drop, -map_tail, rgs, e, qb])
        all_goals omega
    · obtain rfl : l = [] := by cases l <;> simp at hp ⊢
      refine PC.o okC Tryz.func359 rfl (.int _ _) fun h nx hnx => ?_
      try simp [-map_take, -map_drop, -map_tail, rgs, rkI_nil]
      repeat' first | done | ((first | ((with_reducible show lenS _ _ _ _ _ _); refine lenS_slice rfl fun _ => ?_) | ((with_reducible show iaddrS _ _ _ _ _ _ _); refine iaddr_map rfl omA omA ?_) | (with_reducible refine go_draw (i := 4) [(0, [], []), (1, [], []), (2, [], []), (3, [], []), (4, [], []), (5, [], []), (6, [], []), (7, [], []), (8, [], []), (9, [], []), (10, [], []), (11, [], []), (12, [], []), (13, [], []), (14, [], []), (15, [], []), (16, [], []), (17, [], []), (18, [], []), (19, [], []), (20, [], []), (21, [], []), (22, [], []), (23, [], []), (24, [], []), (25, [], []), (26, [], []), (27, [], []), (28, [], []), (29, [], []), (30, [], []), (31, [], [])] (by kernel_rfl) ?_)) <;> simp [-map_take, -map_drop, -map_tail, rgs, rkI_nil]) | ((first | (with_reducible refine guardD_split ?_ ?_) | (with_reducible refine guardS_split ?_ ?_) | (with_reducible refine condS_split ?_ ?_)) <;> intro qb <;> (have qp := qb; try simp only [psq] at qp) <;> simp [-map_take, -map_drop, -map_tail, rgs, rkI_nil, qb])
theorem s_l3Rank {p : Bool} {l : List Twg} : PC ctx.P 359 [.view p 3 (l.map twgC)] (.int .i64 (rkI l)) := s_l3RankN _ _ (Nat.le_refl _)
theorem s_l3Twice {p : Bool} {l : List Twg} : PC ctx.P 358 [.view p 3 (l.map twgC)] (.bool (!seqsOk l)) := by
  refine PC.lim (n := l.length) (x := .view p 3 (l.map twgC)) (by simp) (.here (by simp)) ⟨_, Tryz.func358, by kernel_rfl, by kernel_rfl⟩ fun hlim => ?_
  refine PC.o okC Tryz.func358 rfl (.bool _) fun h nx hnx => ?_
  try simp [-map_take, -map_drop, -map_tail, rgs]
  repeat' first | done | ((first | ((with_reducible show lenS _ _ _ _ _ _); refine lenS_slice rfl fun _ => ?_) | ((with_reducible show iaddrS _ _ _ _ _ _ _); refine iaddr_map rfl omA omA ?_) | (with_reducible refine go_draw (i := 7) [(0, [], []), (1, [], []), (2, [], []), (3, [], []), (4, [], []), (5, [], []), (6, [], []), (7, [], []), (8, [], []), (9, [], []), (10, [], [])] (by kernel_rfl) ?_)) <;> simp [-map_take, -map_drop, -map_tail, rgs]) | ((first | (with_reducible refine condS_split ?_ ?_)) <;> intro qb <;> (have qp := qb; try simp only [psq] at qp) <;> simp [-map_take, -map_drop, -map_tail, rgs, qb])
  refine go_upP [2, 3, 4, 5, 6, 7, 8, 9, 10, 11, 12, 13, 14, 15, 16, 17, 18, 19, 20, 21, 22, 23, 24, 25, 26] (l.length) (fun (i : Nat) a => [(3, .int .i64 i)]) (fun i_ a_ h_ _ => (fun i (_ : Unit) _ => allI (fun i x => !(decide (0 ≤ seqAt (l.take i.toNat) x.seq))) (l.drop i) i = seqsOk l) i_ a_ h_) (()) (by simp) ?_ keep_rfl (Nat.le_refl _) ?_
  · simp [seqsOk]
  · intro i a tm h' n' hle hJ hE hn' next hnx
    try dsimp only at hJ
    have hK : KeepB nx h' h := KeepB.sub hE keepA (by omega)
    simp [-map_take, -map_drop, -map_tail]
    try simp [-map_take, -map_drop, -map_tail, rgs]
    repeat' first | done | ((first | ((with_reducible show lenS _ _ _ _ _ _); refine lenS_slice rfl fun _ => ?_) | ((with_reducible show iaddrS _ _ _ _ _ _ _); refine iaddr_map rfl omA omA ?_) | (with_reducible refine go_draw (i := 7) [(0, [], []), (1, [], []), (2, [], []), (3, [], []), (4, [], []), (5, [], []), (6, [], []), (7, [], []), (8, [], []), (9, [], []), (10, [], [])] (by kernel_rfl) ?_)) <;> simp [-map_take, -map_drop, -map_tail, rgs]) | ((first | (with_reducible refine condS_split ?_ ?_)) <;> intro qb <;> (have qp := qb; try simp only [psq] at qp) <;> simp [-map_take, -map_drop, -map_tail, rgs, qb])
    · refine go_upP [2, 4, 11, 12, 13, 14, 15, 16, 17, 18, 19, 20, 21, 22, 23, 24, 25, 26] (i) (fun (i : Nat) a => [(4, .int .i64 i)]) (fun i_ a_ h_ _ => (fun j (_ : Unit) _ => idxI (fun y => y.seq == (gt l (i : Int)).seq) ((l.take i).drop j) j = seqAt (l.take i) (gt l (i : Int)).seq) i_ a_ h_) (()) (by simp) ?_ keep_rfl (Nat.le_refl _) ?_
      · simp [seqAt]
      · intro j b tm2 h2 n2 hle2 hJ2 hE2 hn2 next2 hnx2
        try dsimp only at hJ2
        have hK2 : KeepB nx h2 h := KeepB.sub hE2 keepA (by omega)
        simp [-map_take, -map_drop, -map_tail]
        try simp [-map_take, -map_drop, -map_tail, rgs, twgC]
        repeat' first | done | ((first | ((with_reducible show lenS _ _ _ _ _ _); refine lenS_slice rfl fun _ => ?_) | ((with_reducible show iaddrS _ _ _ _ _ _ _); refine iaddr_map rfl omA omA ?_) | (with_reducible refine go_draw (i := 7) [(0, [], []), (1, [], []), (2, [], []), (3, [], []), (4, [], []), (5, [], []), (6, [], []), (7, [], []), (8, [], []), (9, [], []), (10, [], [])] (by kernel_rfl) ?_)) <;> simp [-map_take, -map_drop, -map_tail, rgs, twgC]) | ((first | (with_reducible refine condS_split ?_ ?_)) <;> intro qb <;> (have qp := qb; try simp only [psq] at qp) <;> simp [-map_take, -map_drop, -map_tail, rgs, twgC, qb])
        · have r := idx_here (by omega) (by omega) hJ2 (by simp; omega)
          exact ⟨seqs_false (by omega) hJ (by omega), keepA⟩
        · refine hnx2.go () (by omega) (by simp [wrap_succ (show j < l.length by omega) hlim]) (by simp) keepA (by first | omega | (simp; omega)) ?_
          exact idx_on (by omega) (by omega) hJ2 (by simp; omega)
        · have r := idx_end (by omega) hJ2
          refine hnx.go () (by omega) (by simp [wrap_succ (show i < l.length by omega) hlim]) (by simp) keepA (by first | omega | (simp; omega)) ?_
          exact seqs_next (by omega) hJ (by omega)
    · refine ⟨?_, keepA⟩
      rw [List.drop_eq_nil_of_le (by omega)] at hJ
      exact hJ.symm
theorem s_HeapOk {p : Bool} {l : List Twg} : PC ctx.P 307 [.view p 3 (l.map twgC)] (.bool (heapOk l)) := by
  rw [heapOk_eq]
  refine PC.o okC Tryz.func307 rfl (.bool _) fun h nx hnx => ?_
  try simp [-map_take, -map_drop, -map_tail, rgs]
  repeat' first | done | ((first | ((with_reducible show lenS _ _ _ _ _ _); refine lenS_slice rfl fun _ => ?_) | ((with_reducible show doCall _ _ _ 358 _ _); refine call_pc (s_l3Twice) ?_) | ((with_reducible show doCall _ _ _ 359 _ _); refine call_pc (s_l3Rank) ?_)) <;> simp [-map_take, -map_drop, -map_tail, rgs]) | ((first | (with_reducible refine guardS_split ?_ ?_)) <;> intro qb <;> (have qp := qb; try simp only [psq] at qp) <;> simp [-map_take, -map_drop, -map_tail, rgs, qb])
  all_goals (try clear hnx)
  all_goals first | (simp_all []; done) | (simp_all []; omega) | (rw [Bool.eq_iff_iff]; simp_all []; done) | (rw [Bool.eq_iff_iff]; simp_all []; omega) | omega | (simp only []; grind) | grind
theorem s_l4At {F : Nat → Bool} {t : Tms} {s : Int} : PC ctx.P 234 [.agg (tmsV F t), .int .i64 s] (.int .i64 (tmsAt t.list s)) := by
  refine PC.lim (n := t.list.length) (x := .agg (tmsV F t)) (by simp) (.agg (x := .view (F 7) 5 (t.list.map tmrC)) (by simp [tmsV]) (.here (by simp))) ⟨_, Tryz.func234, by kernel_rfl, by kernel_rfl⟩ fun hlim => ?_
  refine PC.o okC Tryz.func234 rfl (.int _ _) fun h nx hnx => ?_
  try simp [-map_take, -map_drop, -map_tail, rgs, tmsV]
  repeat' first | done | ((first | ((with_reducible show lenS _ _ _ _ _ _); refine lenS_slice rfl fun _ => ?_) | ((with_reducible show iaddrS _ _ _ _ _ _ _); refine iaddr_map rfl omA omA ?_)) <;> simp [-map_take, -map_drop, -map_tail, rgs, tmsV]) | ((first | (with_reducible refine condS_split ?_ ?_)) <;> intro qb <;> (have qp := qb; try simp only [psq] at qp) <;> simp [-map_take, -map_drop, -map_tail, rgs, tmsV, qb])
  refine go_upP [4, 5, 6, 7, 8, 9, 10, 11, 12, 13, 14, 15, 16, 17, 18, 19, 20, 21] (t.list.length) (fun (i : Nat) a => [(5, .int .i64 i)]) (fun i_ a_ h_ _ => (fun i (_ : Unit) _ => idxI (fun x => x.seq == s) (t.list.drop i) i = tmsAt t.list s) i_ a_ h_) (()) (by simp) ?_ keep_rfl (Nat.le_refl _) ?_
  · simp [tmsAt]
  · intro i a tm h' n' hle hJ hE hn' next hnx
    try dsimp only at hJ
    have hK : KeepB nx h' h := KeepB.sub hE keepA (by omega)
    simp [-map_take, -map_drop, -map_tail]
    have e1 : h' (nx) = some (.obj (tmsV F t)) := by have := hE (nx) (by omega); simpa [tmsV] using this
    have e1n : ∀ k, ((nx) = n' + k) = False := fun k => by simp only [eq_iff_iff, iff_false]; omega
    have e1m : ((nx) = n') = False := by simp only [eq_iff_iff, iff_false]; omega
    try simp [-map_take, -map_drop, -map_tail, rgs, tmsV, tmrC, e1, e1n, e1m]
    repeat' first | done | ((first | ((with_reducible show lenS _ _ _ _ _ _); refine lenS_slice rfl fun _ => ?_) | ((with_reducible show iaddrS _ _ _ _ _ _ _); refine iaddr_map rfl omA omA ?_)) <;> simp [-map_take, -map_drop, -map_tail, rgs, tmsV, tmrC, e1, e1n, e1m]) | ((first | (with_reducible refine condS_split ?_ ?_)) <;> intro qb <;> (have qp := qb; try simp only [psq] at qp) <;> simp [-map_take, -map_drop, -map_tail, rgs, tmsV, tmrC, e1, e1n, e1m, qb])
    all_goals
      first
      | (have hlt : i < t.list.length := (by first | omega | (simp at *; omega))
         rw [drop_gt hlt] at hJ
         first
         | (refine hnx.go (()) ?_ ?_ ?_ ?_ ?_ ?_; omega; (simp [wrap_succ hlt hlim]); (simp); exact keepA; (first | omega | (simp; omega)); (try dsimp only); clear hnx; first | ((try simp only [List.drop_length, Int.toNat_natCast, idxI] at hJ ⊢); grind) | (simp_all [idxI]; done) | (simp_all; omega))
         | (refine ⟨?_, keepA⟩; clear hnx; first | ((try simp only [List.drop_length, Int.toNat_natCast, idxI] at hJ ⊢); grind) | (simp_all [idxI]; done) | (simp_all; omega)))
      | (obtain rfl : i = t.list.length := (by first | omega | (simp at *; omega))
         refine ⟨?_, keepA⟩; clear hnx; first | ((try simp only [List.drop_length, Int.toNat_natCast, idxI] at hJ ⊢); grind) | (simp_all [idxI]; done) | (simp_all; omega))
theorem s_l4Timer {x : Tmr} {n : Int} (h : -9223372036854775808 < n ∧ n < 9223372036854775808) : PC ctx.P 308 [.agg (tmrC x), .int .i64 n] (.bool (tmr1 x n)) := by
  refine PC.o okC Tryz.func308 rfl (.bool _) fun h nx hnx => ?_
  try simp [-map_take, -map_drop, -map_tail, rgs, tmrC, i64_ok (x := n - 1) (by omega)]
  repeat' first | done | ((first | ((with_reducible show doCall _ _ _ 252 _ _); refine call_pc (s_l1In) ?_)) <;> simp [-map_take, -map_drop, -map_tail, rgs, tmrC, i64_ok (x := n - 1) (by omega)]) | ((first | (with_reducible refine guardS_split ?_ ?_)) <;> intro qb <;> (have qp := qb; try simp only [psq] at qp) <;> simp [-map_take, -map_drop, -map_tail, rgs, tmrC, i64_ok (x := n - 1) (by omega), qb])
  all_goals (try clear hnx)
  all_goals first | (simp_all [tmr1]; done) | (simp_all [tmr1]; omega) | (rw [Bool.eq_iff_iff]; simp_all [tmr1]; done) | (rw [Bool.eq_iff_iff]; simp_all [tmr1]; omega) | omega | (simp only [tmr1]; grind) | grind
theorem s_TimersOk {F : Nat → Bool} {t : Tms} : PC ctx.P 208 [.agg (tmsV F t)] (.bool (tmsOk t)) := by
  refine PC.lim (n := t.list.length) (x := .agg (tmsV F t)) (by simp) (.agg (x := .view (F 7) 5 (t.list.map tmrC)) (by simp [tmsV]) (.here (by simp))) ⟨_, Tryz.func208, by kernel_rfl, by kernel_rfl⟩ fun hlim => ?_
  refine PC.lim (n := t.heap.length) (x := .agg (tmsV F t)) (by simp) (.agg (x := .view (F 6) 3 (t.heap.map twgC)) (by simp [tmsV]) (.here (by simp))) ⟨_, Tryz.func208, by kernel_rfl, by kernel_rfl⟩ fun hlim2 => ?_
  refine PC.o okC Tryz.func208 rfl (.bool _) fun h nx hnx => ?_
  try simp [-map_take, -map_drop, -map_tail, rgs, tmsV]
  repeat' first | done | ((first | ((with_reducible show lenS _ _ _ _ _ _); refine lenS_slice rfl fun _ => ?_) | ((with_reducible show iaddrS _ _ _ _ _ _ _); refine iaddr_map rfl omA omA ?_) | ((with_reducible show doCall _ _ _ 252 _ _); refine call_pc (s_l1In) ?_) | ((with_reducible show doCall _ _ _ 307 _ _); refine call_pc (s_HeapOk) ?_) | (with_reducible refine go_draw (i := 7) [(0, [], []), (1, [], []), (2, [], []), (3, [], []), (4, [], []), (5, [], []), (6, [], []), (7, [], []), (8, [], []), (9, [], []), (10, [], []), (11, [], []), (12, [], []), (13, [], []), (14, [], []), (15, [], []), (16, [], []), (17, [], []), (18, [], []), (19, [], []), (20, [], []), (21, [], []), (22, [], []), (23, [], []), (24, [], []), (25, [], []), (26, [], []), (27, [], []), (28, [], [])] (by kernel_rfl) ?_) | (with_reducible refine go_draw (i := 14) [(0, [], []), (1, [], []), (2, [], []), (3, [], []), (4, [], []), (5, [], []), (6, [], []), (7, [], []), (8, [], [])] (by kernel_rfl) ?_) | (with_reducible refine go_draw (i := 15) [(0, [], []), (1, [], []), (2, [], []), (3, [], []), (4, [], []), (5, [], []), (6, [], []), (7, [], []), (8, [], []), (9, [], []), (10, [], []), (11, [], []), (12, [], []), (13, [], []), (14, [], []), (15, [], []), (16, [], []), (17, [], []), (18, [], []), (19, [], []), (20, [], []), (21, [], []), (22, [], []), (23, [], []), (24, [], []), (25, [], [])] (by kernel_rfl) ?_)) <;> simp [-map_take, -map_drop, -map_tail, rgs, tmsV]) | ((first | (with_reducible refine guardD_split ?_ ?_) | (with_reducible refine guardS_split ?_ ?_) | (with_reducible refine condS_split ?_ ?_)) <;> intro qb <;> (have qp := qb; try simp only [psq] at qp) <;> simp [-map_take, -map_drop, -map_tail, rgs, tmsV, qb])
  · all_goals (try clear hnx)
    all_goals first | (simp_all [tmsOk]; done) | (simp_all [tmsOk]; omega) | (rw [Bool.eq_iff_iff]; simp_all [tmsOk]; done) | (rw [Bool.eq_iff_iff]; simp_all [tmsOk]; omega) | omega | (simp only [tmsOk]; grind) | grind
  · simp [tmsOk]; omega
  · all_goals (try clear hnx)
    all_goals first | (simp_all [tmsOk]; done) | (simp_all [tmsOk]; omega) | (rw [Bool.eq_iff_iff]; simp_all [tmsOk]; done) | (rw [Bool.eq_iff_iff]; simp_all [tmsOk]; omega) | omega | (simp only [tmsOk]; grind) | grind
  · have hnl : -9223372036854775808 < t.next ∧ t.next < 9223372036854775808 := by omega
    refine go_upP [2, 3, 4, 23, 24, 25, 26, 27, 28, 29, 30, 31, 32, 33, 34, 35, 36, 37, 38, 39, 40, 41, 42, 43, 44, 45, 46, 47, 48, 49, 50, 51, 52, 53, 54, 55, 56, 57, 58, 59, 60, 61, 62, 63, 64, 65, 66] (t.list.length) (fun (i : Nat) a => [(4, .int .i64 i), (3, .int .i64 a.2)]) (fun i_ a_ h_ _ => (fun (i : Nat) (a : Int × Int) _ => a.1 = (if i = 0 then -1 else (gt t.list ((i : Int) - 1)).seq) ∧ -1 ≤ a.1 ∧ tmsRise t.next (t.list.drop i) a.1 = tmsRise t.next t.list (-1) ∧ a.2 + cntB (·.armed) (t.list.drop i) = cntB (·.armed) t.list ∧ 0 ≤ a.2 ∧ a.2 ≤ i) i_ a_ h_) ((-1, 0)) (by simp) ?_ keep_rfl (Nat.le_refl _) ?_
    · simp
    · intro i a tm h' n' hle hJ hE hn' next hnx
      try dsimp only at hJ
      have hK : KeepB nx h' h := KeepB.sub hE keepA (by omega)
      simp [-map_take, -map_drop, -map_tail]
      have e1 : h' (nx) = some (.obj (tmsV F t)) := by have := hE (nx) (by omega); simpa [tmsV] using this
      have e1n : ∀ k, ((nx) = n' + k) = False := fun k => by simp only [eq_iff_iff, iff_false]; omega
      have e1m : ((nx) = n') = False := by simp only [eq_iff_iff, iff_false]; omega
      simp only [LIM] at hlim
      try simp [-map_take, -map_drop, -map_tail, rgs, tmsV, tmrC, e1, e1n, e1m, i64_ok (x := (i : Int) - 1) (by omega)]
      repeat' first | done | ((first | ((with_reducible show lenS _ _ _ _ _ _); refine lenS_slice rfl fun _ => ?_) | ((with_reducible show iaddrS _ _ _ _ _ _ _); refine iaddr_map rfl omA omA ?_) | ((with_reducible show doCall _ _ _ 308 _ _); refine call_pc (s_l4Timer hnl) ?_) | (with_reducible refine go_draw (i := 7) [(0, [], []), (1, [], []), (2, [], []), (3, [], []), (4, [], []), (5, [], []), (6, [], []), (7, [], []), (8, [], []), (9, [], []), (10, [], []), (11, [], []), (12, [], []), (13, [], []), (14, [], []), (15, [], []), (16, [], []), (17, [], []), (18, [], []), (19, [], []), (20, [], []), (21, [], []), (22, [], []), (23, [], []), (24, [], []), (25, [], []), (26, [], []), (27, [], []), (28, [], [])] (by kernel_rfl) ?_) | (with_reducible refine go_draw (i := 14) [(0, [], []), (1, [], []), (2, [], []), (3, [], []), (4, [], []), (5, [], []), (6, [], []), (7, [], []), (8, [], [])] (by kernel_rfl) ?_) | (with_reducible refine go_draw (i := 15) [(0, [], []), (1, [], []), (2, [], []), (3, [], []), (4, [], []), (5, [], []), (6, [], []), (7, [], []), (8, [], []), (9, [], []), (10, [], []), (11, [], []), (12, [], []), (13, [], []), (14, [], []), (15, [], []), (16, [], []), (17, [], []), (18, [], []), (19, [], []), (20, [], []), (21, [], []), (22, [], []), (23, [], []), (24, [], []), (25, [], [])] (by kernel_rfl) ?_)) <;> simp [-map_take, -map_drop, -map_tail, rgs, tmsV, tmrC, e1, e1n, e1m, i64_ok (x := (i : Int) - 1) (by omega)]) | ((first | (with_reducible refine guardD_split ?_ ?_) | (with_reducible refine guardS_split ?_ ?_) | (with_reducible refine condS_split ?_ ?_)) <;> intro qb <;> (have qp := qb; try simp only [psq] at qp) <;> simp [-map_take, -map_drop, -map_tail, rgs, tmsV, tmrC, e1, e1n, e1m, i64_ok (x := (i : Int) - 1) (by omega), qb])
      all_goals
        first
        | (have hlt : i < t.list.length := (by omega)
           obtain ⟨j0, j1, j2, j3, j4, j5⟩ := hJ
           rw [drop_gt hlt] at j2 j3
           simp only [tmsRise, cntB_cons] at j2 j3
           first
           | (refine ⟨?_, keepA⟩; clear hnx; simp only [tmsOk, tmr1, inR] at *; grind)
           | (refine hnx.go ((gt t.list (i : Int)).seq, a.2 + 1) ?_ ?_ ?_ ?_ ?_ ?_; omega; (simp [i64_ok (x := (i : Int) + 1) (by omega), i64_ok (x := a.2 + 1) (by omega)]); simp; exact keepA; (first | omega | (simp; omega)); (clear hnx; dsimp only; simp only [tmr1, inR] at *; grind))
           | (refine hnx.go ((gt t.list (i : Int)).seq, a.2) ?_ ?_ ?_ ?_ ?_ ?_; omega; (simp [i64_ok (x := (i : Int) + 1) (by omega)]); simp; exact keepA; (first | omega | (simp; omega)); (clear hnx; dsimp only; simp only [tmr1, inR] at *; grind)))
        | skip
      · have hfin : tmsRise t.next t.list (-1) = true ∧ a.2 = cntB (·.armed) t.list := by
          obtain ⟨j0, j1, j2, j3, j4, j5⟩ := hJ
          rw [List.drop_eq_nil_of_le (by omega)] at j2 j3
          simp only [tmsRise, cntB_nil] at j2 j3
          exact ⟨j2.symm, by omega⟩
        refine go_upP [2, 5, 6, 67, 68, 69, 70, 71, 72, 73, 74, 75, 76, 77, 78, 79, 80, 81, 82, 83, 84, 85, 86, 87, 88, 89, 90, 91, 92, 93, 94, 95, 96, 97, 98, 99, 100, 101, 102, 103, 104, 105, 106, 107] (t.heap.length) (fun (i : Nat) a => [(5, .int .i64 i)]) (fun i_ a_ h_ _ => (fun j (_ : Unit) _ => (t.heap.drop j).any (fun h => decide (tmsAt t.list h.seq < 0) || (!(gt t.list (tmsAt t.list h.seq)).armed || (gt t.list (tmsAt t.list h.seq)).due != h.due)) = t.heap.any (fun h => decide (tmsAt t.list h.seq < 0) || (!(gt t.list (tmsAt t.list h.seq)).armed || (gt t.list (tmsAt t.list h.seq)).due != h.due))) i_ a_ h_) (()) (by simp) ?_ keep_rfl (Nat.le_refl _) ?_
        · simp
        · intro j b tm2 h2 n2 hle2 hJ2 hE2 hn2 next2 hnx2
          try dsimp only at hJ2
          have hK2 : KeepB nx h2 h := KeepB.sub hE2 keepA (by omega)
          simp [-map_take, -map_drop, -map_tail]
          have hat := tmsAt_lt t.list (gt t.heap (j : Int)).seq
          have e2 := (hE2 (nx) (by omega)).trans e1
          have e2n : ∀ k, ((nx) = n2 + k) = False := fun k => by simp only [eq_iff_iff, iff_false]; omega
          have e2m : ((nx) = n2) = False := by simp only [eq_iff_iff, iff_false]; omega
          try simp [-map_take, -map_drop, -map_tail, rgs, tmsV, tmrC, twgC, e2, e2n, e2m]
          repeat' first | done | ((first | ((with_reducible show lenS _ _ _ _ _ _); refine lenS_slice rfl fun _ => ?_) | ((with_reducible show iaddrS _ _ _ _ _ _ _); refine iaddr_map rfl omA omA ?_) | ((with_reducible show doCall _ _ _ 234 _ _); refine call_pc (s_l4At (t := t) (F := F)) ?_) | (with_reducible refine go_draw (i := 7) [(0, [], []), (1, [], []), (2, [], []), (3, [], []), (4, [], []), (5, [], []), (6, [], []), (7, [], []), (8, [], []), (9, [], []), (10, [], []), (11, [], []), (12, [], []), (13, [], []), (14, [], []), (15, [], []), (16, [], []), (17, [], []), (18, [], []), (19, [], []), (20, [], []), (21, [], []), (22, [], []), (23, [], []), (24, [], []), (25, [], []), (26, [], []), (27, [], []), (28, [], [])] (by kernel_rfl) ?_) | (with_reducible refine go_draw (i := 14) [(0, [], []), (1, [], []), (2, [], []), (3, [], []), (4, [], []), (5, [], []), (6, [], []), (7, [], []), (8, [], [])] (by kernel_rfl) ?_) | (with_reducible refine go_draw (i := 15) [(0, [], []), (1, [], []), (2, [], []), (3, [], []), (4, [], []), (5, [], []), (6, [], []), (7, [], []), (8, [], []), (9, [], []), (10, [], []), (11, [], []), (12, [], []), (13, [], []), (14, [], []), (15, [], []), (16, [], []), (17, [], []), (18, [], []), (19, [], []), (20, [], []), (21, [], []), (22, [], []), (23, [], []), (24, [], []), (25, [], [])] (by kernel_rfl) ?_)) <;> simp [-map_take, -map_drop, -map_tail, rgs, tmsV, tmrC, twgC, e2, e2n, e2m]) | ((first | (with_reducible refine guardD_split ?_ ?_) | (with_reducible refine guardS_split ?_ ?_) | (with_reducible refine condS_split ?_ ?_)) <;> intro qb <;> (have qp := qb; try simp only [psq] at qp) <;> simp [-map_take, -map_drop, -map_tail, rgs, tmsV, tmrC, twgC, e2, e2n, e2m, qb])
          all_goals clear hJ hnx
          all_goals
            first
            | (have hlt : j < t.heap.length := (by first | omega | (simp at *; omega))
               rw [drop_gt hlt] at hJ2
               first
               | (refine hnx2.go (()) ?_ ?_ ?_ ?_ ?_ ?_; omega; (simp [wrap_succ hlt hlim2]); (simp); exact keepA; (first | omega | (simp; omega)); (try dsimp only); clear hnx2; first | ((try simp only [List.drop_length, Int.toNat_natCast, List.any_cons, List.any_nil, tmsOk] at hJ2 ⊢); grind) | (simp_all [List.any_cons, List.any_nil, tmsOk]; done) | (simp_all; omega))
               | (refine ⟨?_, keepA⟩; clear hnx2; first | ((try simp only [List.drop_length, Int.toNat_natCast, List.any_cons, List.any_nil, tmsOk] at hJ2 ⊢); grind) | (simp_all [List.any_cons, List.any_nil, tmsOk]; done) | (simp_all; omega)))
            | (obtain rfl : j = t.heap.length := (by first | omega | (simp at *; omega))
               refine ⟨?_, keepA⟩; clear hnx2; first | ((try simp only [List.drop_length, Int.toNat_natCast, List.any_cons, List.any_nil, tmsOk] at hJ2 ⊢); grind) | (simp_all [List.any_cons, List.any_nil, tmsOk]; done) | (simp_all; omega))

theorem s_l5Node {n : Nod} : PC ctx.P 336 [.agg (nodC n)] (.bool (nod1 n)) := by
  refine PC.o okC Tryz.func336 rfl (.bool _) fun h nx hnx => ?_
  try simp [-map_take, -map_drop, -map_tail, rgs, nodC]
  repeat' first | done | ((first | ((with_reducible show doCall _ _ _ 252 _ _); refine call_pc (s_l1In) ?_)) <;> simp [-map_take, -map_drop, -map_tail, rgs, nodC]) | ((first | (with_reducible refine guardS_split ?_ ?_) | (with_reducible refine condS_split ?_ ?_)) <;> intro qb <;> (have qp := qb; try simp only [psq] at qp) <;> simp [-map_take, -map_drop, -map_tail, rgs, nodC, qb])
  all_goals (try clear hnx)
  all_goals first | (simp_all [nod1, never]; done) | (simp_all [nod1, never]; omega) | (rw [Bool.eq_iff_iff]; simp_all [nod1, never]; done) | (rw [Bool.eq_iff_iff]; simp_all [nod1, never]; omega) | omega | (simp only [nod1, never]; grind) | grind
theorem s_TreeOk {p : Bool} {t : List Nod} : PC ctx.P 251 [.view p 5 (t.map nodC)] (.bool (treeOk t)) := by
  rw [treeOk_eq]
  refine PC.lim (n := t.length) (x := .view p 5 (t.map nodC)) (by simp) (.here (by simp)) ⟨_, Tryz.func251, by kernel_rfl, by kernel_rfl⟩ fun hlim => ?_
  have hlim2 := hlim
  simp only [LIM] at hlim2
  refine PC.o okC Tryz.func251 rfl (.bool _) fun h nx hnx => ?_
  try simp [-map_take, -map_drop, -map_tail, rgs]
  repeat' first | done | ((first | ((with_reducible show lenS _ _ _ _ _ _); refine lenS_slice rfl fun _ => ?_) | ((with_reducible show iaddrS _ _ _ _ _ _ _); refine iaddr_map rfl omA omA ?_)) <;> simp [-map_take, -map_drop, -map_tail, rgs]) | ((first | (with_reducible refine condS_split ?_ ?_)) <;> intro qb <;> (have qp := qb; try simp only [psq] at qp) <;> simp [-map_take, -map_drop, -map_tail, rgs, qb])
  · simp_all; omega
  · refine go_upP [2, 3, 7, 8, 9, 10, 11, 12, 13, 14, 15, 16, 17, 18, 19, 20, 21, 22, 23, 24, 25, 26, 27, 28, 29, 30, 31, 32, 33, 34, 35, 36, 37, 38, 39] (t.length) (fun (i : Nat) a => [(3, .int .i64 i)]) (fun i_ a_ h_ _ => (fun i (_ : Unit) _ => allI (fun i n => isNode n i) (t.drop i) i = allI (fun i n => isNode n i) t 0) i_ a_ h_) (()) (by simp) ?_ keep_rfl (Nat.le_refl _) ?_
    · simp
    · intro i a tm h' n' hle hJ hE hn' next hnx
      try dsimp only at hJ
      have hK : KeepB nx h' h := KeepB.sub hE keepA (by omega)
      simp [-map_take, -map_drop, -map_tail]
      try simp [-map_take, -map_drop, -map_tail, rgs, nodC, i64_ok (x := (i : Int)) (by omega), i64_ok (x := (i : Int) - 1) (by omega)]
      repeat' first | done | ((first | ((with_reducible show lenS _ _ _ _ _ _); refine lenS_slice rfl fun _ => ?_) | ((with_reducible show iaddrS _ _ _ _ _ _ _); refine iaddr_map rfl omA omA ?_) | ((with_reducible show doCall _ _ _ 336 _ _); refine call_pc (s_l5Node) ?_) | ((with_reducible show doCall _ _ _ 252 _ _); refine call_pc (s_l1In) ?_)) <;> simp [-map_take, -map_drop, -map_tail, rgs, nodC, i64_ok (x := (i : Int)) (by omega), i64_ok (x := (i : Int) - 1) (by omega)]) | ((first | (with_reducible refine condS_split ?_ ?_)) <;> intro qb <;> (have qp := qb; try simp only [psq] at qp) <;> simp [-map_take, -map_drop, -map_tail, rgs, nodC, i64_ok (x := (i : Int)) (by omega), i64_ok (x := (i : Int) - 1) (by omega), qb])
      all_goals
        first
        | (have hlt : i < t.length := (by first | omega | (simp at *; omega))
           rw [drop_gt hlt] at hJ
           first
           | (refine hnx.go (()) ?_ ?_ ?_ ?_ ?_ ?_; omega; (simp [wrap_succ hlt hlim]); (simp); exact keepA; (first | omega | (simp; omega)); (try dsimp only); clear hnx; first | ((try simp only [List.drop_length, Int.toNat_natCast, allI, isNode_eq] at hJ ⊢); grind) | (simp_all [allI, isNode_eq]; done) | (simp_all; omega))
           | (refine ⟨?_, keepA⟩; clear hnx; first | ((try simp only [List.drop_length, Int.toNat_natCast, allI, isNode_eq] at hJ ⊢); grind) | (simp_all [allI, isNode_eq]; done) | (simp_all; omega)))
        | (obtain rfl : i = t.length := (by first | omega | (simp at *; omega))
           refine ⟨?_, keepA⟩; clear hnx; first | ((try simp only [List.drop_length, Int.toNat_natCast, allI, isNode_eq] at hJ ⊢); grind) | (simp_all [allI, isNode_eq]; done) | (simp_all; omega))
theorem s_l5Has {p : Bool} {t : List Nod} {n : Int} : PC ctx.P 302 [.view p 5 (t.map nodC), .int .i64 n] (.bool (treeOk t && isIn n t)) := by
  refine PC.lim (n := t.length) (x := .view p 5 (t.map nodC)) (by simp) (.here (by simp)) ⟨_, Tryz.func302, by kernel_rfl, by kernel_rfl⟩ fun hlim => ?_
  refine PC.o okC Tryz.func302 rfl (.bool _) fun h nx hnx => ?_
  try simp [-map_take, -map_drop, -map_tail, rgs, wrap_pred hlim]
  repeat' first | done | ((first | ((with_reducible show lenS _ _ _ _ _ _); refine lenS_slice rfl fun _ => ?_) | ((with_reducible show doCall _ _ _ 251 _ _); refine call_pc (s_TreeOk) ?_) | ((with_reducible show doCall _ _ _ 252 _ _); refine call_pc (s_l1In) ?_)) <;> simp [-map_take, -map_drop, -map_tail, rgs, wrap_pred hlim]) | ((first | (with_reducible refine guardS_split ?_ ?_)) <;> intro qb <;> (have qp := qb; try simp only [psq] at qp) <;> simp [-map_take, -map_drop, -map_tail, rgs, wrap_pred hlim, qb])
  all_goals (try clear hnx)
  all_goals first | (simp_all [isIn]; done) | (simp_all [isIn]; omega) | (rw [Bool.eq_iff_iff]; simp_all [isIn]; done) | (rw [Bool.eq_iff_iff]; simp_all [isIn]; omega) | omega | (simp only [isIn]; grind) | grind
theorem s_l6In {p : Bool} {xs : List Int} {n : Int} : PC ctx.P 304 [.view p 1 (xs.map iv), .int .i64 n] (.bool (xs.contains n)) := by
  refine PC.lim (n := xs.length) (x := .view p 1 (xs.map iv)) (by simp) (.here (by simp)) ⟨_, Tryz.func304, by kernel_rfl, by kernel_rfl⟩ fun hlim => ?_
  refine PC.o okC Tryz.func304 rfl (.bool _) fun h nx hnx => ?_
  try simp [-map_take, -map_drop, -map_tail, rgs]
  repeat' first | done | ((first | ((with_reducible show lenS _ _ _ _ _ _); refine lenS_slice rfl fun _ => ?_) | ((with_reducible show iaddrS _ _ _ _ _ _ _); refine iaddr_map rfl omA omA ?_)) <;> simp [-map_take, -map_drop, -map_tail, rgs]) | ((first | (with_reducible refine condS_split ?_ ?_)) <;> intro qb <;> (have qp := qb; try simp only [psq] at qp) <;> simp [-map_take, -map_drop, -map_tail, rgs, qb])
  refine go_upP [4, 5, 6, 7, 8, 9, 10, 11, 12, 13, 14, 15, 16, 17] (xs.length) (fun (i : Nat) a => [(5, .int .i64 i)]) (fun i_ a_ h_ _ => (fun i (_ : Unit) _ => ((xs.drop i).any fun x => x == n) = xs.contains n) i_ a_ h_) (()) (by simp) ?_ keep_rfl (Nat.le_refl _) ?_
  · simp [any_contains']
  · intro i a tm h' n' hle hJ hE hn' next hnx
    try dsimp only at hJ
    have hK : KeepB nx h' h := KeepB.sub hE keepA (by omega)
    simp [-map_take, -map_drop, -map_tail]
    try simp [-map_take, -map_drop, -map_tail, rgs, iv]
    repeat' first | done | ((first | ((with_reducible show lenS _ _ _ _ _ _); refine lenS_slice rfl fun _ => ?_) | ((with_reducible show iaddrS _ _ _ _ _ _ _); refine iaddr_map rfl omA omA ?_)) <;> simp [-map_take, -map_drop, -map_tail, rgs, iv]) | ((first | (with_reducible refine condS_split ?_ ?_)) <;> intro qb <;> (have qp := qb; try simp only [psq] at qp) <;> simp [-map_take, -map_drop, -map_tail, rgs, iv, qb])
    all_goals
      first
      | (have hlt : i < xs.length := (by first | omega | (simp at *; omega))
         rw [drop_gt hlt] at hJ
         first
         | (refine hnx.go (()) ?_ ?_ ?_ ?_ ?_ ?_; omega; (simp [wrap_succ hlt hlim]); (simp); exact keepA; (first | omega | (simp; omega)); (try dsimp only); clear hnx; first | ((try simp only [List.drop_length, Int.toNat_natCast, List.any_cons, List.any_nil] at hJ ⊢); grind) | (simp_all [List.any_cons, List.any_nil]; done) | (simp_all; omega))
         | (refine ⟨?_, keepA⟩; clear hnx; first | ((try simp only [List.drop_length, Int.toNat_natCast, List.any_cons, List.any_nil] at hJ ⊢); grind) | (simp_all [List.any_cons, List.any_nil]; done) | (simp_all; omega)))
      | (obtain rfl : i = xs.length := (by first | omega | (simp at *; omega))
         refine ⟨?_, keepA⟩; clear hnx; first | ((try simp only [List.drop_length, Int.toNat_natCast, List.any_cons, List.any_nil] at hJ ⊢); grind) | (simp_all [List.any_cons, List.any_nil]; done) | (simp_all; omega))
end Go.AE.Tryz
end

section
/- Contracts of the reference's readers: chains, events, functions, tasks, groups. -/
set_option linter.unusedSimpArgs false
set_option linter.unusedVariables false
set_option maxRecDepth 8000
set_option maxHeartbeats 4000000
namespace Go.AE.Tryz
open Go.Proofs
open List (map_take map_drop map_tail)

theorem s_ChainOf {p : Bool} {t : List Nod} {n : Int} (ht : treeOk t = true) (h0 : 0 ≤ n) (h1 : n < t.length) : PC ctx.P 194 [.view p 5 (t.map nodC), .int .i64 n] (.view true 1 ((chain t n).map iv)) := by
  have hl60 := treeOk_len ht
  have hin : isIn n t = true := by rw [isIn_true]; omega
  refine PC.o okC Tryz.func194 rfl (.vmap iv_fz) fun h nx hnx => ?_
  try simp [-map_take, -map_drop, -map_tail, rgs, ht, hin]
  repeat' first | done | ((first | ((with_reducible show iaddrS _ _ _ _ _ _ _); refine iaddr_map rfl omA omA ?_) | ((with_reducible show doCall _ _ _ 302 _ _); refine call_pc (s_l5Has) ?_) | ((with_reducible show appS _ _ _ _ _ _ _ _); refine app_end rfl rfl (by decide) (by decide) (by first | (simp [-map_take, -map_drop, -map_tail, rgs, ht, hin]; done) | (simp [-map_take, -map_drop, -map_tail, rgs, ht, hin]; rfl)) (by first | (simp [-map_take, -map_drop, -map_tail, rgs, ht, hin]; done) | (simp [-map_take, -map_drop, -map_tail, rgs, ht, hin]; rfl)) (by first | (simp; done) | (simp; omega)) (by first | (simp only [MLIM, LIM] at *; simp; omega) | (simp only [MLIM]; simp; omega)) (by simp [iv, bv]) ?_)) <;> simp [-map_take, -map_drop, -map_tail, rgs, ht, hin]) | ((first | (with_reducible refine guardS_split ?_ ?_) | (with_reducible refine condS_split ?_ ?_)) <;> intro qb <;> (have qp := qb; try simp only [psq] at qp) <;> simp [-map_take, -map_drop, -map_tail, rgs, ht, hin, qb])
  refine go_dnP (h0 := h) (nx0 := nx) [4, 5, 6, 14, 15, 16, 17, 18, 19, 20, 21, 22, 23, 24, 25, 26, 27, 28, 29, 30, 31, 32, 33, 34, 35, 36, 37] (fun a => [(6, .int .i64 a.1), (5, .ref a.2.2 1 0 a.2.1.length)]) (fun a => a.1.toNat) (fun (a : Int × List Int × Nat) h' n' => 0 ≤ a.1 ∧ a.1 < t.length ∧ nx ≤ a.2.2 ∧ h' a.2.2 = some (.row 1 (a.2.1.map iv)) ∧ a.2.1 ++ chain t a.1 = chain t n ∧ (a.2.1.length : Int) + a.1 ≤ n ∧ a.2.2 < n') ((n, [], nx + 1)) (by simp) ?_ keepA (by omega) ?_
  · simp [h0, h1, iv]
  · intro a tm h' n' hJ hE hn' next hnx
    try dsimp only at hJ
    have hK : KeepB nx h' h := KeepB.sub hE keepA (by omega)
    obtain ⟨m, pre, id⟩ := a
    obtain ⟨g0, g1, g2, g3, g4, g5, g6⟩ := hJ
    dsimp only at g0 g1 g2 g3 g4 g5 g6 ⊢
    have hs := chain_step ht g0 g1
    have hu := treeOk_up ht g0 g1
    have k1 : ∀ k, (id = n' + k) = False := fun k => by simp only [eq_iff_iff, iff_false]; omega
    try simp [-map_take, -map_drop, -map_tail, rgs, nodC, g3, k1, iv]
    repeat' first | done | ((first | ((with_reducible show iaddrS _ _ _ _ _ _ _); refine iaddr_map rfl omA omA ?_) | ((with_reducible show appS _ _ _ _ _ _ _ _); refine app_end rfl rfl (by decide) (by decide) (by first | (simp [-map_take, -map_drop, -map_tail, rgs, nodC, g3, k1, iv]; done) | (simp [-map_take, -map_drop, -map_tail, rgs, nodC, g3, k1, iv]; rfl)) (by first | (simp [-map_take, -map_drop, -map_tail, rgs, nodC, g3, k1, iv]; done) | (simp [-map_take, -map_drop, -map_tail, rgs, nodC, g3, k1, iv]; rfl)) (by first | (simp; done) | (simp; omega)) (by first | (simp only [MLIM, LIM] at *; simp; omega) | (simp only [MLIM]; simp; omega)) (by simp [iv, bv]) ?_)) <;> simp [-map_take, -map_drop, -map_tail, rgs, nodC, g3, k1, iv]) | ((first | (with_reducible refine guardS_split ?_ ?_) | (with_reducible refine condS_split ?_ ?_)) <;> intro qb <;> (have qp := qb; try simp only [psq] at qp) <;> simp [-map_take, -map_drop, -map_tail, rgs, nodC, g3, k1, iv, qb])
    all_goals first
      | (refine ⟨?_, keepA⟩; rw [if_pos (by simp; omega)] at hs; rw [← g4, hs]; first | (rw [List.take_of_length_le (by simp)]; simp [iv]) | (simp [iv]))
      | (have hu' := hu (by omega)
         refine hnx.go ((gt t m).up, pre ++ [m], n' + 3) (by simp; omega) (by simp) (by simp) keepA (by first | omega | (simp; omega)) ?_
         dsimp only
         refine ⟨by omega, by omega, by omega, by simp [iv], ?_, by simp; omega, by simp⟩
         rw [if_neg (by simp; omega)] at hs
         rw [← g4, hs]; simp)
theorem s_IsDue {a b : Int} : PC ctx.P 80 [.int .i64 a, .int .i64 b] (.bool (isDue a b)) := by
  refine PC.o okC Tryz.func80 rfl (.bool _) fun h nx hnx => ?_
  try simp [-map_take, -map_drop, -map_tail, rgs, isDue, never]
  repeat' first | done | ((first | (with_reducible refine guardS_split ?_ ?_)) <;> intro qb <;> (have qp := qb; try simp only [psq] at qp) <;> simp [-map_take, -map_drop, -map_tail, rgs, isDue, never, qb])
theorem s_l6Event {p : Bool} {t : List Nod} {e : Evt} : PC ctx.P 335 [.view p 5 (t.map nodC), .agg (evtC e)] (.bool (isEvent t e)) := by
  refine PC.lim (n := t.length) (x := .view p 5 (t.map nodC)) (by simp) (.here (by simp)) ⟨_, Tryz.func335, by kernel_rfl, by kernel_rfl⟩ fun hlim => ?_
  refine PC.o okC Tryz.func335 rfl (.bool _) fun h nx hnx => ?_
  try simp [-map_take, -map_drop, -map_tail, rgs, evtC, nodC, wrap_pred hlim]
  repeat' first | done | ((first | ((with_reducible show lenS _ _ _ _ _ _); refine lenS_slice rfl fun _ => ?_) | ((with_reducible show iaddrS _ _ _ _ _ _ _); refine iaddr_map rfl omA omA ?_) | ((with_reducible show doCall _ _ _ 252 _ _); refine call_pc (s_l1In) ?_) | ((with_reducible show doCall _ _ _ 80 _ _); refine call_pc (s_IsDue) ?_)) <;> simp [-map_take, -map_drop, -map_tail, rgs, evtC, nodC, wrap_pred hlim]) | ((first | (with_reducible refine guardS_split ?_ ?_) | (with_reducible refine condS_split ?_ ?_)) <;> intro qb <;> (have qp := qb; try simp only [psq] at qp) <;> simp [-map_take, -map_drop, -map_tail, rgs, evtC, nodC, wrap_pred hlim, qb])
  all_goals (try clear hnx)
  all_goals first | (simp_all [isEvent, isIn]; done) | (simp_all [isEvent, isIn]; omega) | (rw [Bool.eq_iff_iff]; simp_all [isEvent, isIn]; done) | (rw [Bool.eq_iff_iff]; simp_all [isEvent, isIn]; omega) | omega | (simp only [isEvent, isIn]; grind) | grind
theorem s_l6First {p q : Bool} {t : List Nod} {l : List Evt} {n : Int} (ht : treeOk t = true) (h0 : 0 ≤ n) (h1 : n < t.length) :
    PC ctx.P 199 [.view p 5 (t.map nodC), .view q 4 (l.map evtC), .int .i64 n] (.int .i64 (idxI (fun e => (chain t n).contains e.node) l 0)) := by
  refine PC.lim (n := l.length) (x := .view q 4 (l.map evtC)) (by simp) (.here (by simp)) ⟨_, Tryz.func199, by kernel_rfl, by kernel_rfl⟩ fun hlim => ?_
  refine PC.o okC Tryz.func199 rfl (.int _ _) fun h nx hnx => ?_
  try simp [-map_take, -map_drop, -map_tail, rgs]
  repeat' first | done | ((first | ((with_reducible show lenS _ _ _ _ _ _); refine lenS_slice rfl fun _ => ?_) | ((with_reducible show iaddrS _ _ _ _ _ _ _); refine iaddr_map rfl omA omA ?_) | ((with_reducible show doCall _ _ _ 194 _ _); refine call_pc (s_ChainOf ht h0 h1) ?_)) <;> simp [-map_take, -map_drop, -map_tail, rgs]) | ((first | (with_reducible refine condS_split ?_ ?_)) <;> intro qb <;> (have qp := qb; try simp only [psq] at qp) <;> simp [-map_take, -map_drop, -map_tail, rgs, qb])
  refine go_upP [6, 8, 12, 13, 14, 15, 16, 17, 18, 19, 20, 21, 22, 23, 24, 25] (l.length) (fun (i : Nat) a => [(8, .int .i64 i)]) (fun i_ a_ h_ _ => (fun i (_ : Unit) _ => idxI (fun e => (chain t n).contains e.node) (l.drop i) i = idxI (fun e => (chain t n).contains e.node) l 0) i_ a_ h_) (()) (by simp) ?_ keep_rfl (Nat.le_refl _) ?_
  · simp
  · intro i a tm h' n' hle hJ hE hn' next hnx
    try dsimp only at hJ
    have hK : KeepB nx h' h := KeepB.sub hE keepA (by omega)
    simp [-map_take, -map_drop, -map_tail]
    try simp [-map_take, -map_drop, -map_tail, rgs, evtC]
    repeat' first | done | ((first | ((with_reducible show lenS _ _ _ _ _ _); refine lenS_slice rfl fun _ => ?_) | ((with_reducible show iaddrS _ _ _ _ _ _ _); refine iaddr_map rfl omA omA ?_) | ((with_reducible show doCall _ _ _ 304 _ _); refine call_pc (s_l6In) ?_)) <;> simp [-map_take, -map_drop, -map_tail, rgs, evtC]) | ((first | (with_reducible refine condS_split ?_ ?_)) <;> intro qb <;> (have qp := qb; try simp only [psq] at qp) <;> simp [-map_take, -map_drop, -map_tail, rgs, evtC, qb])
    all_goals
      first
      | (have hlt : i < l.length := (by first | omega | (simp at *; omega))
         rw [drop_gt hlt] at hJ
         first
         | (refine hnx.go (()) ?_ ?_ ?_ ?_ ?_ ?_; omega; (simp [wrap_succ hlt hlim]); (simp); exact keepA; (first | omega | (simp; omega)); (try dsimp only); clear hnx; first | ((try simp only [List.drop_length, Int.toNat_natCast, idxI] at hJ ⊢); grind) | (simp_all [idxI]; done) | (simp_all; omega))
         | (refine ⟨?_, keepA⟩; clear hnx; first | ((try simp only [List.drop_length, Int.toNat_natCast, idxI] at hJ ⊢); grind) | (simp_all [idxI]; done) | (simp_all; omega)))
      | (obtain rfl : i = l.length := (by first | omega | (simp at *; omega))
         refine ⟨?_, keepA⟩; clear hnx; first | ((try simp only [List.drop_length, Int.toNat_natCast, idxI] at hJ ⊢); grind) | (simp_all [idxI]; done) | (simp_all; omega))
theorem s_EventsOk {p q : Bool} {t : List Nod} {l : List Evt} : PC ctx.P 250 [.view p 5 (t.map nodC), .view q 4 (l.map evtC)] (.bool (eventsOk t l)) := by
  refine PC.lim (n := l.length) (x := .view q 4 (l.map evtC)) (by simp) (.here (by simp)) ⟨_, Tryz.func250, by kernel_rfl, by kernel_rfl⟩ fun hlim => ?_
  by_cases ht : treeOk t = true
  · refine PC.o okC Tryz.func250 rfl (.bool _) fun h nx hnx => ?_
    try simp [-map_take, -map_drop, -map_tail, rgs, ht]
    repeat' first | done | ((first | ((with_reducible show lenS _ _ _ _ _ _); refine lenS_slice rfl fun _ => ?_) | ((with_reducible show iaddrS _ _ _ _ _ _ _); refine iaddr_map rfl omA omA ?_) | ((with_reducible show sliceS _ _ _ _ _ _ _ _); refine slice_to rfl omA omA ?_) | ((with_reducible show sliceS _ _ _ _ _ _ _ _); refine slice_from rfl omA omA ?_) | ((with_reducible show sliceS _ _ _ _ _ _ _ _); refine slice_mid rfl omA omA omA ?_) | ((with_reducible show sliceI _ _ _ _ _ _ _ _ _ _ _); refine sliceI_to rfl omA omA ?_) | ((with_reducible show sliceI _ _ _ _ _ _ _ _ _ _ _); refine sliceI_from rfl omA omA ?_) | ((with_reducible show sliceI _ _ _ _ _ _ _ _ _ _ _); refine sliceI_mid rfl omA omA omA ?_) | ((with_reducible show doCall _ _ _ 251 _ _); refine call_pc (s_TreeOk) ?_) | (with_reducible refine go_draw (i := 6) [(0, [], []), (1, [], []), (2, [], []), (3, [], []), (4, [], []), (5, [], []), (6, [], []), (7, [], []), (8, [], []), (9, [], []), (10, [], []), (11, [], []), (12, [], []), (13, [], []), (14, [], []), (15, [], []), (16, [], []), (17, [], []), (18, [], []), (19, [], []), (20, [], []), (21, [], []), (22, [], []), (23, [], []), (24, [], []), (25, [], []), (26, [], []), (27, [], []), (28, [], []), (29, [], []), (30, [], []), (31, [], []), (32, [], []), (33, [], []), (34, [], []), (35, [], []), (36, [], []), (37, [], [])] (by kernel_rfl) ?_)) <;> simp [-map_take, -map_drop, -map_tail, rgs, ht]) | ((first | (with_reducible refine guardD_split ?_ ?_) | (with_reducible refine condS_split ?_ ?_)) <;> intro qb <;> (have qp := qb; try simp only [psq] at qp) <;> simp [-map_take, -map_drop, -map_tail, rgs, ht, qb])
    refine go_upP [4, 5, 9, 10, 11, 12, 13, 14, 15, 16, 17, 18, 19, 20, 21, 22, 23, 24, 25, 26, 27, 28, 29, 30, 31, 32, 33, 34, 35, 36, 37, 38, 39, 40, 41, 42, 43, 44, 45, 46, 47, 48, 49, 50, 51, 52] (l.length) (fun (i : Nat) a => [(5, .int .i64 i)]) (fun i_ a_ h_ _ => (fun i (_ : Unit) _ => allI (fun i e => fits t (l.take i.toNat) e) (l.drop i) i = allI (fun i e => fits t (l.take i.toNat) e) l 0) i_ a_ h_) (()) (by simp) ?_ keep_rfl (Nat.le_refl _) ?_
    · simp
    · intro i a tm h' n' hle hJ hE hn' next hnx
      try dsimp only at hJ
      have hK : KeepB nx h' h := KeepB.sub hE keepA (by omega)
      simp [-map_take, -map_drop, -map_tail]
      have hlim' := hlim
      simp only [LIM] at hlim'
      have hnode : isEvent t (gt l (i : Int)) = true → 0 ≤ (gt l (i : Int)).node ∧ (gt l (i : Int)).node < t.length := isEvent_in
      try simp [-map_take, -map_drop, -map_tail, rgs, evtC, i64_ok (x := (i : Int) - 1) (by omega)]
      repeat' first | done | ((first | ((with_reducible show lenS _ _ _ _ _ _); refine lenS_slice rfl fun _ => ?_) | ((with_reducible show iaddrS _ _ _ _ _ _ _); refine iaddr_map rfl omA omA ?_) | ((with_reducible show sliceS _ _ _ _ _ _ _ _); refine slice_to rfl omA omA ?_) | ((with_reducible show sliceS _ _ _ _ _ _ _ _); refine slice_from rfl omA omA ?_) | ((with_reducible show sliceS _ _ _ _ _ _ _ _); refine slice_mid rfl omA omA omA ?_) | ((with_reducible show sliceI _ _ _ _ _ _ _ _ _ _ _); refine sliceI_to rfl omA omA ?_) | ((with_reducible show sliceI _ _ _ _ _ _ _ _ _ _ _); refine sliceI_from rfl omA omA ?_) | ((with_reducible show sliceI _ _ _ _ _ _ _ _ _ _ _); refine sliceI_mid rfl omA omA omA ?_) | ((with_reducible show doCall _ _ _ 335 _ _); refine call_pc (s_l6Event (e := gt l (i : Int))) ?_) | ((with_reducible show doCall _ _ _ 199 _ _); refine call_pc (s_l6First ht (hnode (by assumption)).1 (hnode (by assumption)).2) ?_) | (with_reducible refine go_draw (i := 6) [(0, [], []), (1, [], []), (2, [], []), (3, [], []), (4, [], []), (5, [], []), (6, [], []), (7, [], []), (8, [], []), (9, [], []), (10, [], []), (11, [], []), (12, [], []), (13, [], []), (14, [], []), (15, [], []), (16, [], []), (17, [], []), (18, [], []), (19, [], []), (20, [], []), (21, [], []), (22, [], []), (23, [], []), (24, [], []), (25, [], []), (26, [], []), (27, [], []), (28, [], []), (29, [], []), (30, [], []), (31, [], []), (32, [], []), (33, [], []), (34, [], []), (35, [], []), (36, [], []), (37, [], [])] (by kernel_rfl) ?_)) <;> simp [-map_take, -map_drop, -map_tail, rgs, evtC, i64_ok (x := (i : Int) - 1) (by omega)]) | ((first | (with_reducible refine guardD_split ?_ ?_) | (with_reducible refine condS_split ?_ ?_)) <;> intro qb <;> (have qp := qb; try simp only [psq] at qp) <;> simp [-map_take, -map_drop, -map_tail, rgs, evtC, i64_ok (x := (i : Int) - 1) (by omega), qb])
      all_goals first
        | (have hlt : i < l.length := (by omega)
           rw [drop_gt hlt] at hJ
           simp only [allI, Int.toNat_natCast, fits_eq hlt] at hJ
           first
           | (refine hnx.go () (by omega) (by simp [wrap_succ hlt hlim]) (by simp) keepA (by first | omega | (simp; omega)) ?_; clear hnx; grind)
           | (refine ⟨?_, keepA⟩; clear hnx; simp only [eventsOk]; grind))
        | (refine ⟨?_, keepA⟩; rw [List.drop_eq_nil_of_le (by omega)] at hJ; clear hnx; simp only [allI, eventsOk] at hJ ⊢; grind)
  · refine PC.o okC Tryz.func250 rfl (.bool _) fun h nx hnx => ?_
    try simp [-map_take, -map_drop, -map_tail, rgs, ht]
    repeat' first | done | ((first | ((with_reducible show lenS _ _ _ _ _ _); refine lenS_slice rfl fun _ => ?_) | ((with_reducible show iaddrS _ _ _ _ _ _ _); refine iaddr_map rfl omA omA ?_) | ((with_reducible show sliceS _ _ _ _ _ _ _ _); refine slice_to rfl omA omA ?_) | ((with_reducible show sliceS _ _ _ _ _ _ _ _); refine slice_from rfl omA omA ?_) | ((with_reducible show sliceS _ _ _ _ _ _ _ _); refine slice_mid rfl omA omA omA ?_) | ((with_reducible show sliceI _ _ _ _ _ _ _ _ _ _ _); refine sliceI_to rfl omA omA ?_) | ((with_reducible show sliceI _ _ _ _ _ _ _ _ _ _ _); refine sliceI_from rfl omA omA ?_) | ((with_reducible show sliceI _ _ _ _ _ _ _ _ _ _ _); refine sliceI_mid rfl omA omA omA ?_) | ((with_reducible show doCall _ _ _ 251 _ _); refine call_pc (s_TreeOk) ?_) | (with_reducible refine go_draw (i := 6) [(0, [], []), (1, [], []), (2, [], []), (3, [], []), (4, [], []), (5, [], []), (6, [], []), (7, [], []), (8, [], []), (9, [], []), (10, [], []), (11, [], []), (12, [], []), (13, [], []), (14, [], []), (15, [], []), (16, [], []), (17, [], []), (18, [], []), (19, [], []), (20, [], []), (21, [], []), (22, [], []), (23, [], []), (24, [], []), (25, [], []), (26, [], []), (27, [], []), (28, [], []), (29, [], []), (30, [], []), (31, [], []), (32, [], []), (33, [], []), (34, [], []), (35, [], []), (36, [], []), (37, [], [])] (by kernel_rfl) ?_)) <;> simp [-map_take, -map_drop, -map_tail, rgs, ht]) | ((first | (with_reducible refine guardD_split ?_ ?_) | (with_reducible refine condS_split ?_ ?_)) <;> intro qb <;> (have qp := qb; try simp only [psq] at qp) <;> simp [-map_take, -map_drop, -map_tail, rgs, ht, qb])
    all_goals (try clear hnx)
    all_goals first | (simp_all [eventsOk]; done) | (simp_all [eventsOk]; omega) | (rw [Bool.eq_iff_iff]; simp_all [eventsOk]; done) | (rw [Bool.eq_iff_iff]; simp_all [eventsOk]; omega) | omega | (simp only [eventsOk]; grind) | grind
end Go.AE.Tryz
end

section
/- Contracts of the reference's readers: chains, events, functions, tasks, groups. -/
set_option linter.unusedSimpArgs false
set_option linter.unusedVariables false
set_option maxRecDepth 8000
set_option maxHeartbeats 4000000
namespace Go.AE.Tryz
open Go.Proofs
open List (map_take map_drop map_tail)

theorem s_l9Leash {n : Int} : PC ctx.P 374 [.int .i64 n] (.bool (inR n (-1) 59)) := by
  refine PC.o okC Tryz.func374 rfl (.bool _) fun h nx hnx => ?_
  try simp [-map_take, -map_drop, -map_tail, rgs]
  repeat' first | done | ((first | ((with_reducible show doCall _ _ _ 252 _ _); refine call_pc (s_l1In) ?_)) <;> simp [-map_take, -map_drop, -map_tail, rgs])
theorem s_InsOk {x : Inn} : PC ctx.P 334 [.agg (innC x)] (.bool (innOk x)) := by
  refine PC.o okC Tryz.func334 rfl (.bool _) fun h nx hnx => ?_
  try simp [-map_take, -map_drop, -map_tail, rgs, innC]
  repeat' first | done | ((first | ((with_reducible show doCall _ _ _ 374 _ _); refine call_pc (s_l9Leash) ?_) | ((with_reducible show doCall _ _ _ 252 _ _); refine call_pc (s_l1In) ?_)) <;> simp [-map_take, -map_drop, -map_tail, rgs, innC]) | ((first | (with_reducible refine guardS_split ?_ ?_) | (with_reducible refine condS_split ?_ ?_)) <;> intro qb <;> (have qp := qb; try simp only [psq] at qp) <;> simp [-map_take, -map_drop, -map_tail, rgs, innC, qb])
  all_goals (try clear hnx)
  all_goals first | (simp_all [innOk, hasNode, hasB, inR]; done) | (simp_all [innOk, hasNode, hasB, inR]; omega) | (rw [Bool.eq_iff_iff]; simp_all [innOk, hasNode, hasB, inR]; done) | (rw [Bool.eq_iff_iff]; simp_all [innOk, hasNode, hasB, inR]; omega) | omega | (simp only [innOk, hasNode, hasB, inR]; grind) | grind
theorem s_ProgOk {p : Bool} {l : List Inn} : PC ctx.P 249 [.view p 3 (l.map innC)] (.bool (progOk l)) := by
  refine PC.lim (n := l.length) (x := .view p 3 (l.map innC)) (by simp) (.here (by simp)) ⟨_, Tryz.func249, by kernel_rfl, by kernel_rfl⟩ fun hlim => ?_
  refine PC.o okC Tryz.func249 rfl (.bool _) fun h nx hnx => ?_
  try simp [-map_take, -map_drop, -map_tail, rgs]
  repeat' first | done | ((first | ((with_reducible show lenS _ _ _ _ _ _); refine lenS_slice rfl fun _ => ?_) | ((with_reducible show iaddrS _ _ _ _ _ _ _); refine iaddr_map rfl omA omA ?_)) <;> simp [-map_take, -map_drop, -map_tail, rgs]) | ((first | (with_reducible refine condS_split ?_ ?_)) <;> intro qb <;> (have qp := qb; try simp only [psq] at qp) <;> simp [-map_take, -map_drop, -map_tail, rgs, qb])
  refine go_upP [2, 3, 4, 5, 6, 7, 8, 9, 10, 11, 12, 13, 14, 15] (l.length) (fun (i : Nat) a => [(3, .int .i64 i)]) (fun i_ a_ h_ _ => (fun i (_ : Unit) _ => ((l.drop i).any fun x => !innOk x) = l.any fun x => !innOk x) i_ a_ h_) (()) (by simp) ?_ keep_rfl (Nat.le_refl _) ?_
  · simp
  · intro i a tm h' n' hle hJ hE hn' next hnx
    try dsimp only at hJ
    have hK : KeepB nx h' h := KeepB.sub hE keepA (by omega)
    simp [-map_take, -map_drop, -map_tail]
    try simp [-map_take, -map_drop, -map_tail, rgs]
    repeat' first | done | ((first | ((with_reducible show lenS _ _ _ _ _ _); refine lenS_slice rfl fun _ => ?_) | ((with_reducible show iaddrS _ _ _ _ _ _ _); refine iaddr_map rfl omA omA ?_) | ((with_reducible show doCall _ _ _ 334 _ _); refine call_pc (s_InsOk) ?_)) <;> simp [-map_take, -map_drop, -map_tail, rgs]) | ((first | (with_reducible refine condS_split ?_ ?_)) <;> intro qb <;> (have qp := qb; try simp only [psq] at qp) <;> simp [-map_take, -map_drop, -map_tail, rgs, qb])
    all_goals
      first
      | (have hlt : i < l.length := (by first | omega | (simp at *; omega))
         rw [drop_gt hlt] at hJ
         first
         | (refine hnx.go (()) ?_ ?_ ?_ ?_ ?_ ?_; omega; (simp [wrap_succ hlt hlim]); (simp); exact keepA; (first | omega | (simp; omega)); (try dsimp only); clear hnx; first | ((try simp only [List.drop_length, Int.toNat_natCast, List.any_cons, List.any_nil, progOk] at hJ ⊢); grind) | (simp_all [List.any_cons, List.any_nil, progOk]; done) | (simp_all; omega))
         | (refine ⟨?_, keepA⟩; clear hnx; first | ((try simp only [List.drop_length, Int.toNat_natCast, List.any_cons, List.any_nil, progOk] at hJ ⊢); grind) | (simp_all [List.any_cons, List.any_nil, progOk]; done) | (simp_all; omega)))
      | (obtain rfl : i = l.length := (by first | omega | (simp at *; omega))
         refine ⟨?_, keepA⟩; clear hnx; first | ((try simp only [List.drop_length, Int.toNat_natCast, List.any_cons, List.any_nil, progOk] at hJ ⊢); grind) | (simp_all [List.any_cons, List.any_nil, progOk]; done) | (simp_all; omega))
theorem s_l10Waits {t : Tsk} : PC ctx.P 357 [.agg (tskC t)] (.bool (tsk1 t)) := by
  refine PC.o okC Tryz.func357 rfl (.bool _) fun h nx hnx => ?_
  try simp [-map_take, -map_drop, -map_tail, rgs, tskC]
  repeat' first | done | ((first | ((with_reducible show doCall _ _ _ 252 _ _); refine call_pc (s_l1In) ?_)) <;> simp [-map_take, -map_drop, -map_tail, rgs, tskC]) | ((first | (with_reducible refine guardS_split ?_ ?_) | (with_reducible refine condS_split ?_ ?_)) <;> intro qb <;> (have qp := qb; try simp only [psq] at qp) <;> simp [-map_take, -map_drop, -map_tail, rgs, tskC, qb])
  all_goals (try clear hnx)
  all_goals first | (simp_all [tsk1, inR]; done) | (simp_all [tsk1, inR]; omega) | (rw [Bool.eq_iff_iff]; simp_all [tsk1, inR]; done) | (rw [Bool.eq_iff_iff]; simp_all [tsk1, inR]; omega) | omega | (simp only [tsk1, inR]; grind) | grind
theorem s_TaskOk {t : Tsk} : PC ctx.P 306 [.agg (tskC t)] (.bool (tskOk t)) := by
  rw [tskOk_eq]
  refine PC.o okC Tryz.func306 rfl (.bool _) fun h nx hnx => ?_
  try simp [-map_take, -map_drop, -map_tail, rgs, tskC]
  repeat' first | done | ((first | ((with_reducible show doCall _ _ _ 252 _ _); refine call_pc (s_l1In) ?_) | ((with_reducible show doCall _ _ _ 357 _ _); refine call_pc (s_l10Waits (t := t)) ?_)) <;> simp [-map_take, -map_drop, -map_tail, rgs, tskC]) | ((first | (with_reducible refine guardS_split ?_ ?_) | (with_reducible refine condS_split ?_ ?_)) <;> intro qb <;> (have qp := qb; try simp only [psq] at qp) <;> simp [-map_take, -map_drop, -map_tail, rgs, tskC, qb])
  all_goals (try clear hnx)
  all_goals first | (simp_all [tskS]; done) | (simp_all [tskS]; omega) | (rw [Bool.eq_iff_iff]; simp_all [tskS]; done) | (rw [Bool.eq_iff_iff]; simp_all [tskS]; omega) | omega | (simp only [tskS]; grind) | grind
theorem s_TasksOk {p : Bool} {l : List Tsk} : PC ctx.P 207 [.view p 9 (l.map tskC)] (.bool (tasksOk l)) := by
  refine PC.lim (n := l.length) (x := .view p 9 (l.map tskC)) (by simp) (.here (by simp)) ⟨_, Tryz.func207, by kernel_rfl, by kernel_rfl⟩ fun hlim => ?_
  refine PC.o okC Tryz.func207 rfl (.bool _) fun h nx hnx => ?_
  try simp [-map_take, -map_drop, -map_tail, rgs]
  repeat' first | done | ((first | ((with_reducible show lenS _ _ _ _ _ _); refine lenS_slice rfl fun _ => ?_) | ((with_reducible show iaddrS _ _ _ _ _ _ _); refine iaddr_map rfl omA omA ?_)) <;> simp [-map_take, -map_drop, -map_tail, rgs]) | ((first | (with_reducible refine condS_split ?_ ?_)) <;> intro qb <;> (have qp := qb; try simp only [psq] at qp) <;> simp [-map_take, -map_drop, -map_tail, rgs, qb])
  refine go_upP [2, 3, 4, 5, 6, 7, 8, 9, 10, 11, 12, 13, 14, 15] (l.length) (fun (i : Nat) a => [(3, .int .i64 i)]) (fun i_ a_ h_ _ => (fun i (_ : Unit) _ => ((l.drop i).any fun x => !tskOk x) = l.any fun x => !tskOk x) i_ a_ h_) (()) (by simp) ?_ keep_rfl (Nat.le_refl _) ?_
  · simp
  · intro i a tm h' n' hle hJ hE hn' next hnx
    try dsimp only at hJ
    have hK : KeepB nx h' h := KeepB.sub hE keepA (by omega)
    simp [-map_take, -map_drop, -map_tail]
    try simp [-map_take, -map_drop, -map_tail, rgs]
    repeat' first | done | ((first | ((with_reducible show lenS _ _ _ _ _ _); refine lenS_slice rfl fun _ => ?_) | ((with_reducible show iaddrS _ _ _ _ _ _ _); refine iaddr_map rfl omA omA ?_) | ((with_reducible show doCall _ _ _ 306 _ _); refine call_pc (s_TaskOk) ?_)) <;> simp [-map_take, -map_drop, -map_tail, rgs]) | ((first | (with_reducible refine condS_split ?_ ?_)) <;> intro qb <;> (have qp := qb; try simp only [psq] at qp) <;> simp [-map_take, -map_drop, -map_tail, rgs, qb])
    all_goals
      first
      | (have hlt : i < l.length := (by first | omega | (simp at *; omega))
         rw [drop_gt hlt] at hJ
         first
         | (refine hnx.go (()) ?_ ?_ ?_ ?_ ?_ ?_; omega; (simp [wrap_succ hlt hlim]); (simp); exact keepA; (first | omega | (simp; omega)); (try dsimp only); clear hnx; first | ((try simp only [List.drop_length, Int.toNat_natCast, List.any_cons, List.any_nil, tasksOk] at hJ ⊢); grind) | (simp_all [List.any_cons, List.any_nil, tasksOk]; done) | (simp_all; omega))
         | (refine ⟨?_, keepA⟩; clear hnx; first | ((try simp only [List.drop_length, Int.toNat_natCast, List.any_cons, List.any_nil, tasksOk] at hJ ⊢); grind) | (simp_all [List.any_cons, List.any_nil, tasksOk]; done) | (simp_all; omega)))
      | (obtain rfl : i = l.length := (by first | omega | (simp at *; omega))
         refine ⟨?_, keepA⟩; clear hnx; first | ((try simp only [List.drop_length, Int.toNat_natCast, List.any_cons, List.any_nil, tasksOk] at hJ ⊢); grind) | (simp_all [List.any_cons, List.any_nil, tasksOk]; done) | (simp_all; omega))
theorem s_GroupOk {p : Bool} {g : Grp} : PC ctx.P 256 [.agg (grpV p g)] (.bool (grpOk g)) := by
  refine PC.lim (n := g.waits.length) (x := .agg (grpV p g)) (by simp) (.agg (x := .view p 1 (g.waits.map iv)) (by simp [grpV]) (.here (by simp))) ⟨_, Tryz.func256, by kernel_rfl, by kernel_rfl⟩ fun hlim => ?_
  refine PC.o okC Tryz.func256 rfl (.bool _) fun h nx hnx => ?_
  try simp [-map_take, -map_drop, -map_tail, rgs, grpV]
  repeat' first | done | ((first | ((with_reducible show lenS _ _ _ _ _ _); refine lenS_slice rfl fun _ => ?_) | ((with_reducible show iaddrS _ _ _ _ _ _ _); refine iaddr_map rfl omA omA ?_) | ((with_reducible show sliceS _ _ _ _ _ _ _ _); refine slice_to rfl omA omA ?_) | ((with_reducible show sliceS _ _ _ _ _ _ _ _); refine slice_from rfl omA omA ?_) | ((with_reducible show sliceS _ _ _ _ _ _ _ _); refine slice_mid rfl omA omA omA ?_) | ((with_reducible show sliceI _ _ _ _ _ _ _ _ _ _ _); refine sliceI_to rfl omA omA ?_) | ((with_reducible show sliceI _ _ _ _ _ _ _ _ _ _ _); refine sliceI_from rfl omA omA ?_) | ((with_reducible show sliceI _ _ _ _ _ _ _ _ _ _ _); refine sliceI_mid rfl omA omA omA ?_) | ((with_reducible show doCall _ _ _ 252 _ _); refine call_pc (s_l1In) ?_) | (with_reducible refine go_draw (i := 6) [(0, [], []), (1, [], []), (2, [], []), (3, [], []), (4, [], []), (5, [], []), (6, [], []), (7, [], []), (8, [], []), (9, [], []), (10, [], []), (11, [], []), (12, [], []), (13, [], []), (14, [], []), (15, [], []), (16, [], []), (17, [], []), (18, [], [])] (by kernel_rfl) ?_)) <;> simp [-map_take, -map_drop, -map_tail, rgs, grpV]) | ((first | (with_reducible refine guardD_split ?_ ?_) | (with_reducible refine guardS_split ?_ ?_) | (with_reducible refine condS_split ?_ ?_)) <;> intro qb <;> (have qp := qb; try simp only [psq] at qp) <;> simp [-map_take, -map_drop, -map_tail, rgs, grpV, qb])
  all_goals first | (clear hnx; simp only [grpOk]; grind) | skip
  all_goals
    refine go_upP [2, 3, 38, 39, 40, 41, 42, 43, 44, 45, 46, 47, 48, 49, 50, 51, 52, 53, 54, 55, 56, 57, 58, 59, 60, 61, 62, 63] (g.waits.length) (fun (i : Nat) a => [(3, .int .i64 i)]) (fun i_ a_ h_ _ => (fun i (_ : Unit) _ => allI (fun i n => inR n 0 59 && !(g.waits.take i.toNat).contains n) (g.waits.drop i) i = allI (fun i n => inR n 0 59 && !(g.waits.take i.toNat).contains n) g.waits 0) i_ a_ h_) (()) (by simp) ?_ keep_rfl (Nat.le_refl _) ?_
    · simp
    · intro i a tm h' n' hle hJ hE hn' next hnx
      try dsimp only at hJ
      have hK : KeepB nx h' h := KeepB.sub hE keepA (by omega)
      simp [-map_take, -map_drop, -map_tail]
      have e1 : h' (nx) = some (.obj (grpV p g)) := by have := hE (nx) (by omega); simpa [grpV] using this
      have e1n : ∀ k, ((nx) = n' + k) = False := fun k => by simp only [eq_iff_iff, iff_false]; omega
      have e1m : ((nx) = n') = False := by simp only [eq_iff_iff, iff_false]; omega
      try simp [-map_take, -map_drop, -map_tail, rgs, grpV, iv, e1, e1n, e1m]
      repeat' first | done | ((first | ((with_reducible show lenS _ _ _ _ _ _); refine lenS_slice rfl fun _ => ?_) | ((with_reducible show iaddrS _ _ _ _ _ _ _); refine iaddr_map rfl omA omA ?_) | ((with_reducible show sliceS _ _ _ _ _ _ _ _); refine slice_to rfl omA omA ?_) | ((with_reducible show sliceS _ _ _ _ _ _ _ _); refine slice_from rfl omA omA ?_) | ((with_reducible show sliceS _ _ _ _ _ _ _ _); refine slice_mid rfl omA omA omA ?_) | ((with_reducible show sliceI _ _ _ _ _ _ _ _ _ _ _); refine sliceI_to rfl omA omA ?_) | ((with_reducible show sliceI _ _ _ _ _ _ _ _ _ _ _); refine sliceI_from rfl omA omA ?_) | ((with_reducible show sliceI _ _ _ _ _ _ _ _ _ _ _); refine sliceI_mid rfl omA omA omA ?_) | ((with_reducible show doCall _ _ _ 252 _ _); refine call_pc (s_l1In) ?_) | ((with_reducible show doCall _ _ _ 304 _ _); refine call_pc (s_l6In) ?_) | (with_reducible refine go_draw (i := 6) [(0, [], []), (1, [], []), (2, [], []), (3, [], []), (4, [], []), (5, [], []), (6, [], []), (7, [], []), (8, [], []), (9, [], []), (10, [], []), (11, [], []), (12, [], []), (13, [], []), (14, [], []), (15, [], []), (16, [], []), (17, [], []), (18, [], [])] (by kernel_rfl) ?_)) <;> simp [-map_take, -map_drop, -map_tail, rgs, grpV, iv, e1, e1n, e1m]) | ((first | (with_reducible refine guardD_split ?_ ?_) | (with_reducible refine guardS_split ?_ ?_) | (with_reducible refine condS_split ?_ ?_)) <;> intro qb <;> (have qp := qb; try simp only [psq] at qp) <;> simp [-map_take, -map_drop, -map_tail, rgs, grpV, iv, e1, e1n, e1m, qb])
      all_goals
        first
        | (have hlt : i < g.waits.length := (by first | omega | (simp at *; omega))
           rw [drop_gt hlt] at hJ
           first
           | (refine hnx.go (()) ?_ ?_ ?_ ?_ ?_ ?_; omega; (simp [wrap_succ hlt hlim]); (simp); exact keepA; (first | omega | (simp; omega)); (try dsimp only); clear hnx; first | ((try simp only [List.drop_length, Int.toNat_natCast, allI, grpOk] at hJ ⊢); grind) | (simp_all [allI, grpOk]; done) | (simp_all; omega))
           | (refine ⟨?_, keepA⟩; clear hnx; first | ((try simp only [List.drop_length, Int.toNat_natCast, allI, grpOk] at hJ ⊢); grind) | (simp_all [allI, grpOk]; done) | (simp_all; omega)))
        | (obtain rfl : i = g.waits.length := (by first | omega | (simp at *; omega))
           refine ⟨?_, keepA⟩; clear hnx; first | ((try simp only [List.drop_length, Int.toNat_natCast, allI, grpOk] at hJ ⊢); grind) | (simp_all [allI, grpOk]; done) | (simp_all; omega))
end Go.AE.Tryz
end

section
/- Contracts of the reference's readers: chains, events, functions, tasks, groups. -/
set_option linter.unusedSimpArgs false
set_option linter.unusedVariables false
set_option maxRecDepth 8000
set_option maxHeartbeats 4000000
namespace Go.AE.Tryz
open Go.Proofs
open List (map_take map_drop map_tail)

theorem s_SpreadOk {F : Nat → Bool} {p : Bool} {t : List Nod} {s : Spr} : PC ctx.P 142 [.view p 5 (t.map nodC), .agg (sprV F s)] (.bool (treeOk t && isSpread s t)) := by
  refine PC.lim (n := s.work.length) (x := .agg (sprV F s)) (by simp) (.agg (x := .view (F 5) 1 (s.work.map iv)) (by simp [sprV]) (.here (by simp))) ⟨_, Tryz.func142, by kernel_rfl, by kernel_rfl⟩ fun hlim => ?_
  refine PC.lim (n := t.length) (x := .view p 5 (t.map nodC)) (by simp) (.here (by simp)) ⟨_, Tryz.func142, by kernel_rfl, by kernel_rfl⟩ fun hlim2 => ?_
  refine PC.o okC Tryz.func142 rfl (.bool _) fun h nx hnx => ?_
  try simp [-map_take, -map_drop, -map_tail, rgs, sprV]
  repeat' first | done | ((first | ((with_reducible show lenS _ _ _ _ _ _); refine lenS_slice rfl fun _ => ?_) | ((with_reducible show iaddrS _ _ _ _ _ _ _); refine iaddr_map rfl omA omA ?_) | ((with_reducible show doCall _ _ _ 251 _ _); refine call_pc (s_TreeOk) ?_)) <;> simp [-map_take, -map_drop, -map_tail, rgs, sprV]) | ((first | (with_reducible refine guardS_split ?_ ?_) | (with_reducible refine condS_split ?_ ?_)) <;> intro qb <;> (have qp := qb; try simp only [psq] at qp) <;> simp [-map_take, -map_drop, -map_tail, rgs, sprV, qb])
  all_goals first | (clear hnx; simp [isSpread]; grind) | skip
  refine go_upP [4, 5, 23, 24, 25, 26, 27, 28, 29, 30, 31, 32, 33, 34, 35, 36, 37, 38, 39] (s.work.length) (fun (i : Nat) a => [(5, .int .i64 i)]) (fun i_ a_ h_ _ => (fun i (_ : Unit) _ => ((s.work.drop i).any fun n => !isIn n t) = s.work.any fun n => !isIn n t) i_ a_ h_) (()) (by simp) ?_ keep_rfl (Nat.le_refl _) ?_
  · simp
  · intro i a tm h' n' hle hJ hE hn' next hnx
    try dsimp only at hJ
    have hK : KeepB nx h' h := KeepB.sub hE keepA (by omega)
    simp [-map_take, -map_drop, -map_tail]
    have e1 : h' (nx) = some (.obj (sprV F s)) := by have := hE (nx) (by omega); simpa [sprV] using this
    have e1n : ∀ k, ((nx) = n' + k) = False := fun k => by simp only [eq_iff_iff, iff_false]; omega
    have e1m : ((nx) = n') = False := by simp only [eq_iff_iff, iff_false]; omega
    try simp [-map_take, -map_drop, -map_tail, rgs, sprV, iv, wrap_pred hlim2, e1, e1n, e1m]
    repeat' first | done | ((first | ((with_reducible show lenS _ _ _ _ _ _); refine lenS_slice rfl fun _ => ?_) | ((with_reducible show iaddrS _ _ _ _ _ _ _); refine iaddr_map rfl omA omA ?_) | ((with_reducible show doCall _ _ _ 252 _ _); refine call_pc (s_l1In) ?_)) <;> simp [-map_take, -map_drop, -map_tail, rgs, sprV, iv, wrap_pred hlim2, e1, e1n, e1m]) | ((first | (with_reducible refine guardS_split ?_ ?_) | (with_reducible refine condS_split ?_ ?_)) <;> intro qb <;> (have qp := qb; try simp only [psq] at qp) <;> simp [-map_take, -map_drop, -map_tail, rgs, sprV, iv, wrap_pred hlim2, e1, e1n, e1m, qb])
    all_goals
      first
      | (have hlt : i < s.work.length := (by first | omega | (simp at *; omega))
         rw [drop_gt hlt] at hJ
         first
         | (refine hnx.go (()) ?_ ?_ ?_ ?_ ?_ ?_; omega; (simp [wrap_succ hlt hlim]); (simp); exact keepA; (first | omega | (simp; omega)); (try dsimp only); clear hnx; first | ((try simp only [List.drop_length, Int.toNat_natCast, List.any_cons, List.any_nil, isSpread, isIn] at hJ ⊢); grind) | (simp_all [List.any_cons, List.any_nil, isSpread, isIn]; done) | (simp_all; omega))
         | (refine ⟨?_, keepA⟩; clear hnx; first | ((try simp only [List.drop_length, Int.toNat_natCast, List.any_cons, List.any_nil, isSpread, isIn] at hJ ⊢); grind) | (simp_all [List.any_cons, List.any_nil, isSpread, isIn]; done) | (simp_all; omega)))
      | (obtain rfl : i = s.work.length := (by first | omega | (simp at *; omega))
         refine ⟨?_, keepA⟩; clear hnx; first | ((try simp only [List.drop_length, Int.toNat_natCast, List.any_cons, List.any_nil, isSpread, isIn] at hJ ⊢); grind) | (simp_all [List.any_cons, List.any_nil, isSpread, isIn]; done) | (simp_all; omega))
theorem s_AftersOk {F : Nat → Bool} {x : Afs} : PC ctx.P 231 [.agg (afsV F x)] (.bool (afsOk x)) := by
  refine PC.lim (n := x.list.length) (x := .agg (afsV F x)) (by simp) (.agg (x := .view (F 10) 5 (x.list.map afrC)) (by simp [afsV]) (.here (by simp))) ⟨_, Tryz.func231, by kernel_rfl, by kernel_rfl⟩ fun hlim => ?_
  by_cases hs : sltOk x.slots = true
  · refine PC.o okC Tryz.func231 rfl (.bool _) fun h nx hnx => ?_
    try simp [-map_take, -map_drop, -map_tail, rgs, afsV, hs]
    repeat' first | done | ((first | ((with_reducible show lenS _ _ _ _ _ _); refine lenS_slice rfl fun _ => ?_) | ((with_reducible show iaddrS _ _ _ _ _ _ _); refine iaddr_map rfl omA omA ?_) | ((with_reducible show doCall _ _ _ 321 _ _); refine call_pc (s_SlotsOk (s := x.slots) (F := F)) ?_) | ((with_reducible show doCall _ _ _ 322 _ _); refine call_pc (s_UsedIn (s := x.slots) (F := F)) ?_) | (with_reducible refine go_draw (i := 1) [(0, [], []), (1, [], []), (2, [], []), (3, [], []), (4, [], []), (5, [], []), (6, [], []), (7, [], []), (8, [], []), (9, [], []), (10, [.tmp 11], []), (11, [], []), (12, [], [])] (by kernel_rfl) ?_) | (with_reducible refine go_draw (i := 12) [(0, [], []), (1, [], []), (2, [], []), (3, [], []), (4, [], []), (5, [], []), (6, [], []), (7, [], []), (8, [], [])] (by kernel_rfl) ?_)) <;> simp [-map_take, -map_drop, -map_tail, rgs, afsV, hs]) | ((first | (with_reducible refine guardD_split ?_ ?_) | (with_reducible refine guardS_split ?_ ?_) | (with_reducible refine condS_split ?_ ?_)) <;> intro qb <;> (have qp := qb; try simp only [psq] at qp) <;> simp [-map_take, -map_drop, -map_tail, rgs, afsV, hs, qb])
    · simp only [afsOk]; grind
    refine go_upP [2, 3, 4, 5, 19, 20, 21, 22, 23, 24, 25, 26, 27, 28, 29, 30, 31, 32, 33, 34, 35, 36, 37, 38, 39, 40, 41, 42, 43, 44, 45, 46, 47, 48, 49, 50, 51, 52, 53, 54, 55, 56, 57, 58, 59, 60, 61, 62] (x.list.length) (fun (i : Nat) a => [(3, .int .i64 i)]) (fun i_ a_ h_ _ => (fun (i : Nat) (_ : Unit) _ => allI (fun i y => isAfter y.node y.fn && (sltHolds x.slots y.han && afsAt x.list y.han == i)) (x.list.drop i) i = allI (fun i y => isAfter y.node y.fn && (sltHolds x.slots y.han && afsAt x.list y.han == i)) x.list 0) i_ a_ h_) (()) (by simp) ?_ keep_rfl (Nat.le_refl _) ?_
    · simp
    · intro i a tm h' n' hle hJ hE hn' next hnx
      try dsimp only at hJ
      have hK : KeepB nx h' h := KeepB.sub hE keepA (by omega)
      simp [-map_take, -map_drop, -map_tail]
      have e1 : h' (nx) = some (.obj (afsV F x)) := by have := hE (nx) (by omega); simpa [afsV] using this
      have e1n : ∀ k, ((nx) = n' + k) = False := fun k => by simp only [eq_iff_iff, iff_false]; omega
      have e1m : ((nx) = n') = False := by simp only [eq_iff_iff, iff_false]; omega
      try simp [-map_take, -map_drop, -map_tail, rgs, afsV, afrC, e1, e1n, e1m, hs]
      repeat' first | done | ((first | ((with_reducible show lenS _ _ _ _ _ _); refine lenS_slice rfl fun _ => ?_) | ((with_reducible show iaddrS _ _ _ _ _ _ _); refine iaddr_map rfl omA omA ?_) | ((with_reducible show doCall _ _ _ 323 _ _); refine call_pc (s_Holds (s := x.slots) (F := F) (x := (gt x.list (i : Int)).han)) ?_) | ((with_reducible show doCall _ _ _ 252 _ _); refine call_pc (s_l1In) ?_) | (with_reducible refine go_draw (i := 1) [(0, [], []), (1, [], []), (2, [], []), (3, [], []), (4, [], []), (5, [], []), (6, [], []), (7, [], []), (8, [], []), (9, [], []), (10, [.tmp 11], []), (11, [], []), (12, [], [])] (by kernel_rfl) ?_) | (with_reducible refine go_draw (i := 12) [(0, [], []), (1, [], []), (2, [], []), (3, [], []), (4, [], []), (5, [], []), (6, [], []), (7, [], []), (8, [], [])] (by kernel_rfl) ?_)) <;> simp [-map_take, -map_drop, -map_tail, rgs, afsV, afrC, e1, e1n, e1m, hs]) | ((first | (with_reducible refine guardD_split ?_ ?_) | (with_reducible refine guardS_split ?_ ?_) | (with_reducible refine condS_split ?_ ?_)) <;> intro qb <;> (have qp := qb; try simp only [psq] at qp) <;> simp [-map_take, -map_drop, -map_tail, rgs, afsV, afrC, e1, e1n, e1m, hs, qb])
      · have hlt : i < x.list.length := (by omega)
        rw [drop_gt hlt] at hJ
        refine ⟨?_, keepA⟩; clear hnx; simp only [allI] at hJ; simp only [afsOk]; grind
      · have hlt : i < x.list.length := (by omega)
        rw [drop_gt hlt] at hJ
        refine ⟨?_, keepA⟩; clear hnx; simp only [allI, isAfter] at hJ; simp only [afsOk, isAfter]; grind
      · have hlt : i < x.list.length := (by omega)
        rw [drop_gt hlt] at hJ
        refine ⟨?_, keepA⟩; clear hnx; simp only [allI, isAfter] at hJ; simp only [afsOk, isAfter]; grind
      · have hlt : i < x.list.length := (by omega)
        rw [drop_gt hlt] at hJ
        refine go_upP [2, 5, 49, 50, 51, 52, 53, 54, 55, 56, 57, 58, 59, 60, 61, 62] (i) (fun (i : Nat) a => [(5, .int .i64 i)]) (fun i_ a_ h_ _ => (fun (j : Nat) (_ : Unit) _ => idxI (fun y => y.han == (gt x.list (i : Int)).han) ((x.list.take i).drop j) j = idxI (fun y => y.han == (gt x.list (i : Int)).han) (x.list.take i) 0) i_ a_ h_) (()) (by simp) ?_ keep_rfl (Nat.le_refl _) ?_
        · simp
        · intro j b tm2 h2 n2 hle2 hJ2 hE2 hn2 next2 hnx2
          try dsimp only at hJ2
          have hK2 : KeepB nx h2 h := KeepB.sub hE2 keepA (by omega)
          simp [-map_take, -map_drop, -map_tail]
          have e2 : h2 (nx) = some (.obj (afsV F x)) := by have := hE2 (nx) (by omega); simpa [e1, e1n, e1m, afsV] using this
          have e2n : ∀ k, ((nx) = n2 + k) = False := fun k => by simp only [eq_iff_iff, iff_false]; omega
          have e2m : ((nx) = n2) = False := by simp only [eq_iff_iff, iff_false]; omega
          have e3 : h2 (n' + 10) = some (.obj (afrC (gt x.list (i : Int)))) := by have := hE2 (n' + 10) (by omega); simpa [afrC] using this
          have e3n : ∀ k, ((n' + 10) = n2 + k) = False := fun k => by simp only [eq_iff_iff, iff_false]; omega
          have e3m : ((n' + 10) = n2) = False := by simp only [eq_iff_iff, iff_false]; omega
          try simp [-map_take, -map_drop, -map_tail, rgs, afsV, afrC, e2, e2n, e2m, e3, e3n, e3m, hanC, lfOf, cellsEq, cellEq]
          repeat' first | done | ((first | ((with_reducible show lenS _ _ _ _ _ _); refine lenS_slice rfl fun _ => ?_) | ((with_reducible show iaddrS _ _ _ _ _ _ _); refine iaddr_map rfl omA omA ?_) | (with_reducible refine go_draw (i := 1) [(0, [], []), (1, [], []), (2, [], []), (3, [], []), (4, [], []), (5, [], []), (6, [], []), (7, [], []), (8, [], []), (9, [], []), (10, [.tmp 11], []), (11, [], []), (12, [], [])] (by kernel_rfl) ?_) | (with_reducible refine go_draw (i := 12) [(0, [], []), (1, [], []), (2, [], []), (3, [], []), (4, [], []), (5, [], []), (6, [], []), (7, [], []), (8, [], [])] (by kernel_rfl) ?_)) <;> simp [-map_take, -map_drop, -map_tail, rgs, afsV, afrC, e2, e2n, e2m, e3, e3n, e3m, hanC, lfOf, cellsEq, cellEq]) | ((first | (with_reducible refine guardD_split ?_ ?_) | (with_reducible refine guardS_split ?_ ?_) | (with_reducible refine condS_split ?_ ?_)) <;> intro qb <;> (have qp := qb; try simp only [psq] at qp) <;> simp [-map_take, -map_drop, -map_tail, rgs, afsV, afrC, e2, e2n, e2m, e3, e3n, e3m, hanC, lfOf, cellsEq, cellEq, qb])
          · rw [han_eq] at qb
            have r := idx_here (by omega) (by omega) hJ2 qb
            have hh := afsAt_here hlt
            rw [r] at hh
            refine ⟨?_, keepA⟩; clear hnx hnx2; simp only [allI, isAfter] at hJ; simp only [afsOk, isAfter]; grind
          · rw [han_eq] at qb
            refine hnx2.go () (by omega) (by simp [wrap_succ (show j < x.list.length by omega) hlim]) (by simp) keepA (by first | omega | (simp; omega)) ?_
            exact idx_on (by omega) (by omega) hJ2 qb
          · have r := idx_end (by omega) hJ2
            have hh := afsAt_here hlt
            rw [r] at hh
            refine hnx.go () (by omega) (by simp [wrap_succ hlt hlim]) (by simp) keepA (by first | omega | (simp; omega)) ?_
            clear hnx hnx2; dsimp only; simp only [allI, isAfter] at hJ ⊢; grind
      · refine ⟨?_, keepA⟩; rw [List.drop_eq_nil_of_le (by omega)] at hJ; clear hnx; simp only [allI] at hJ; simp only [afsOk]; grind
  · refine PC.o okC Tryz.func231 rfl (.bool _) fun h nx hnx => ?_
    try simp [-map_take, -map_drop, -map_tail, rgs, afsV, hs]
    repeat' first | done | ((first | ((with_reducible show lenS _ _ _ _ _ _); refine lenS_slice rfl fun _ => ?_) | ((with_reducible show iaddrS _ _ _ _ _ _ _); refine iaddr_map rfl omA omA ?_) | ((with_reducible show doCall _ _ _ 321 _ _); refine call_pc (s_SlotsOk (s := x.slots) (F := F)) ?_) | (with_reducible refine go_draw (i := 1) [(0, [], []), (1, [], []), (2, [], []), (3, [], []), (4, [], []), (5, [], []), (6, [], []), (7, [], []), (8, [], []), (9, [], []), (10, [.tmp 11], []), (11, [], []), (12, [], [])] (by kernel_rfl) ?_) | (with_reducible refine go_draw (i := 12) [(0, [], []), (1, [], []), (2, [], []), (3, [], []), (4, [], []), (5, [], []), (6, [], []), (7, [], []), (8, [], [])] (by kernel_rfl) ?_)) <;> simp [-map_take, -map_drop, -map_tail, rgs, afsV, hs]) | ((first | (with_reducible refine guardD_split ?_ ?_) | (with_reducible refine guardS_split ?_ ?_) | (with_reducible refine condS_split ?_ ?_)) <;> intro qb <;> (have qp := qb; try simp only [psq] at qp) <;> simp [-map_take, -map_drop, -map_tail, rgs, afsV, hs, qb])
    all_goals (try clear hnx)
    all_goals first | (simp_all [afsOk]; done) | (simp_all [afsOk]; omega) | (rw [Bool.eq_iff_iff]; simp_all [afsOk]; done) | (rw [Bool.eq_iff_iff]; simp_all [afsOk]; omega) | omega | (simp only [afsOk]; grind) | grind
end Go.AE.Tryz
end

section
/- Contracts of the reference's readers: worlds. -/
set_option linter.unusedSimpArgs false
set_option linter.unusedVariables false
set_option maxRecDepth 8000
set_option maxHeartbeats 4000000
namespace Go.AE.Tryz
open Go.Proofs
open List (map_take map_drop map_tail)

theorem s_Numbers {p : Bool} {l : List Int} {m : Int} : PC ctx.P 148 [.view p 1 (l.map iv), .int .i64 m] (.bool (all1 (fun n => inR n 0 m) l && decide (l.length ≤ 2000))) := by
  refine PC.lim (n := l.length) (x := .view p 1 (l.map iv)) (by simp) (.here (by simp)) ⟨_, Tryz.func148, by kernel_rfl, by kernel_rfl⟩ fun hlim => ?_
  refine PC.o okC Tryz.func148 rfl (.bool _) fun h nx hnx => ?_
  try simp [-map_take, -map_drop, -map_tail, rgs]
  repeat' first | done | ((first | ((with_reducible show lenS _ _ _ _ _ _); refine lenS_slice rfl fun _ => ?_) | ((with_reducible show iaddrS _ _ _ _ _ _ _); refine iaddr_map rfl omA omA ?_)) <;> simp [-map_take, -map_drop, -map_tail, rgs]) | ((first | (with_reducible refine condS_split ?_ ?_)) <;> intro qb <;> (have qp := qb; try simp only [psq] at qp) <;> simp [-map_take, -map_drop, -map_tail, rgs, qb])
  refine go_upP [4, 5, 6, 7, 8, 9, 10, 11, 12, 13, 14, 15, 16, 17, 18] (l.length) (fun (i : Nat) a => [(5, .int .i64 i)]) (fun i_ a_ h_ _ => (fun i (_ : Unit) _ => all1 (fun n => inR n 0 m) (l.drop i) = all1 (fun n => inR n 0 m) l) i_ a_ h_) (()) (by simp) ?_ keep_rfl (Nat.le_refl _) ?_
  · simp
  · intro i a tm h' n' hle hJ hE hn' next hnx
    try dsimp only at hJ
    have hK : KeepB nx h' h := KeepB.sub hE keepA (by omega)
    simp [-map_take, -map_drop, -map_tail]
    try simp [-map_take, -map_drop, -map_tail, rgs, iv]
    repeat' first | done | ((first | ((with_reducible show lenS _ _ _ _ _ _); refine lenS_slice rfl fun _ => ?_) | ((with_reducible show iaddrS _ _ _ _ _ _ _); refine iaddr_map rfl omA omA ?_) | ((with_reducible show doCall _ _ _ 252 _ _); refine call_pc (s_l1In) ?_)) <;> simp [-map_take, -map_drop, -map_tail, rgs, iv]) | ((first | (with_reducible refine condS_split ?_ ?_)) <;> intro qb <;> (have qp := qb; try simp only [psq] at qp) <;> simp [-map_take, -map_drop, -map_tail, rgs, iv, qb])
    all_goals
      first
      | (have hlt : i < l.length := (by first | omega | (simp at *; omega))
         rw [drop_gt hlt] at hJ
         first
         | (refine hnx.go (()) ?_ ?_ ?_ ?_ ?_ ?_; omega; (simp [wrap_succ hlt hlim]); (simp); exact keepA; (first | omega | (simp; omega)); (try dsimp only); clear hnx; first | ((try simp only [List.drop_length, Int.toNat_natCast, all1_cons, all1_nil] at hJ ⊢); grind) | (simp_all [all1_cons, all1_nil]; done) | (simp_all; omega))
         | (refine ⟨?_, keepA⟩; clear hnx; first | ((try simp only [List.drop_length, Int.toNat_natCast, all1_cons, all1_nil] at hJ ⊢); grind) | (simp_all [all1_cons, all1_nil]; done) | (simp_all; omega)))
      | (obtain rfl : i = l.length := (by first | omega | (simp at *; omega))
         refine ⟨?_, keepA⟩; clear hnx; first | ((try simp only [List.drop_length, Int.toNat_natCast, all1_cons, all1_nil] at hJ ⊢); grind) | (simp_all [all1_cons, all1_nil]; done) | (simp_all; omega))
theorem s_Progs {p r : Bool} {l : List (List Inn)} : PC ctx.P 140 [.view p 1 (l.map (prgV r))] (.bool (all1 progOk l && decide (l.length ≤ 8))) := by
  refine PC.lim (n := l.length) (x := .view p 1 (l.map (prgV r))) (by simp) (.here (by simp)) ⟨_, Tryz.func140, by kernel_rfl, by kernel_rfl⟩ fun hlim => ?_
  refine PC.o okC Tryz.func140 rfl (.bool _) fun h nx hnx => ?_
  try simp [-map_take, -map_drop, -map_tail, rgs]
  repeat' first | done | ((first | ((with_reducible show lenS _ _ _ _ _ _); refine lenS_slice rfl fun _ => ?_) | ((with_reducible show iaddrS _ _ _ _ _ _ _); refine iaddr_map rfl omA omA ?_)) <;> simp [-map_take, -map_drop, -map_tail, rgs]) | ((first | (with_reducible refine condS_split ?_ ?_)) <;> intro qb <;> (have qp := qb; try simp only [psq] at qp) <;> simp [-map_take, -map_drop, -map_tail, rgs, qb])
  refine go_upP [2, 3, 4, 5, 6, 7, 8, 9, 10, 11, 12, 13, 14, 15] (l.length) (fun (i : Nat) a => [(3, .int .i64 i)]) (fun i_ a_ h_ _ => (fun i (_ : Unit) _ => all1 progOk (l.drop i) = all1 progOk l) i_ a_ h_) (()) (by simp) ?_ keep_rfl (Nat.le_refl _) ?_
  · simp
  · intro i a tm h' n' hle hJ hE hn' next hnx
    try dsimp only at hJ
    have hK : KeepB nx h' h := KeepB.sub hE keepA (by omega)
    simp [-map_take, -map_drop, -map_tail]
    try simp [-map_take, -map_drop, -map_tail, rgs, prgV]
    repeat' first | done | ((first | ((with_reducible show lenS _ _ _ _ _ _); refine lenS_slice rfl fun _ => ?_) | ((with_reducible show iaddrS _ _ _ _ _ _ _); refine iaddr_map rfl omA omA ?_) | ((with_reducible show doCall _ _ _ 249 _ _); refine call_pc (s_ProgOk) ?_)) <;> simp [-map_take, -map_drop, -map_tail, rgs, prgV]) | ((first | (with_reducible refine condS_split ?_ ?_)) <;> intro qb <;> (have qp := qb; try simp only [psq] at qp) <;> simp [-map_take, -map_drop, -map_tail, rgs, prgV, qb])
    all_goals
      first
      | (have hlt : i < l.length := (by first | omega | (simp at *; omega))
         rw [drop_gt hlt] at hJ
         first
         | (refine hnx.go (()) ?_ ?_ ?_ ?_ ?_ ?_; omega; (simp [wrap_succ hlt hlim]); (simp); exact keepA; (first | omega | (simp; omega)); (try dsimp only); clear hnx; first | ((try simp only [List.drop_length, Int.toNat_natCast, all1_cons, all1_nil] at hJ ⊢); grind) | (simp_all [all1_cons, all1_nil]; done) | (simp_all; omega))
         | (refine ⟨?_, keepA⟩; clear hnx; first | ((try simp only [List.drop_length, Int.toNat_natCast, all1_cons, all1_nil] at hJ ⊢); grind) | (simp_all [all1_cons, all1_nil]; done) | (simp_all; omega)))
      | (obtain rfl : i = l.length := (by first | omega | (simp at *; omega))
         refine ⟨?_, keepA⟩; clear hnx; first | ((try simp only [List.drop_length, Int.toNat_natCast, all1_cons, all1_nil] at hJ ⊢); grind) | (simp_all [all1_cons, all1_nil]; done) | (simp_all; omega))
theorem s_Node {F : Nat → Bool} {w : Wld} {n : Int} : PC ctx.P 253 [.agg (wldV F w), .int .i64 n] (.bool (isIn n w.tree)) := by
  refine PC.lim (n := w.tree.length) (x := .agg (wldV F w)) (by simp) (.agg (x := .view (F 2) 5 (w.tree.map nodC)) (by simp [wldV]) (.here (by simp))) ⟨_, Tryz.func253, by kernel_rfl, by kernel_rfl⟩ fun hlim => ?_
  refine PC.o okC Tryz.func253 rfl (.bool _) fun h nx hnx => ?_
  try simp [-map_take, -map_drop, -map_tail, rgs, wldV, wrap_pred hlim, isIn]
  repeat' first | done | ((first | ((with_reducible show lenS _ _ _ _ _ _); refine lenS_slice rfl fun _ => ?_) | ((with_reducible show doCall _ _ _ 252 _ _); refine call_pc (s_l1In) ?_)) <;> simp [-map_take, -map_drop, -map_tail, rgs, wldV, wrap_pred hlim, isIn])
theorem s_Task {F : Nat → Bool} {w : Wld} {n : Int} : PC ctx.P 254 [.agg (wldV F w), .int .i64 n] (.bool (isIn n w.tasks)) := by
  refine PC.lim (n := w.tasks.length) (x := .agg (wldV F w)) (by simp) (.agg (x := .view (F 11) 9 (w.tasks.map tskC)) (by simp [wldV]) (.here (by simp))) ⟨_, Tryz.func254, by kernel_rfl, by kernel_rfl⟩ fun hlim => ?_
  refine PC.o okC Tryz.func254 rfl (.bool _) fun h nx hnx => ?_
  try simp [-map_take, -map_drop, -map_tail, rgs, wldV, wrap_pred hlim, isIn]
  repeat' first | done | ((first | ((with_reducible show lenS _ _ _ _ _ _); refine lenS_slice rfl fun _ => ?_) | ((with_reducible show doCall _ _ _ 252 _ _); refine call_pc (s_l1In) ?_)) <;> simp [-map_take, -map_drop, -map_tail, rgs, wldV, wrap_pred hlim, isIn])
theorem s_Group {F : Nat → Bool} {w : Wld} {n : Int} : PC ctx.P 255 [.agg (wldV F w), .int .i64 n] (.bool (isIn n w.groups)) := by
  refine PC.lim (n := w.groups.length) (x := .agg (wldV F w)) (by simp) (.agg (x := .view (F 12) 5 (w.groups.map (grpV (F 13)))) (by simp [wldV]) (.here (by simp))) ⟨_, Tryz.func255, by kernel_rfl, by kernel_rfl⟩ fun hlim => ?_
  refine PC.o okC Tryz.func255 rfl (.bool _) fun h nx hnx => ?_
  try simp [-map_take, -map_drop, -map_tail, rgs, wldV, wrap_pred hlim, isIn]
  repeat' first | done | ((first | ((with_reducible show lenS _ _ _ _ _ _); refine lenS_slice rfl fun _ => ?_) | ((with_reducible show doCall _ _ _ 252 _ _); refine call_pc (s_l1In) ?_)) <;> simp [-map_take, -map_drop, -map_tail, rgs, wldV, wrap_pred hlim, isIn])
theorem s_Events {F : Nat → Bool} {w : Wld} : PC ctx.P 141 [.agg (wldV F w)] (.bool (eventsOk w.tree w.events && w.events.all (fun e => inR e.time 0 w.now))) := by
  refine PC.lim (n := w.events.length) (x := .agg (wldV F w)) (by simp) (.agg (x := .view (F 3) 4 (w.events.map evtC)) (by simp [wldV]) (.here (by simp))) ⟨_, Tryz.func141, by kernel_rfl, by kernel_rfl⟩ fun hlim => ?_
  rw [evTimes_eq]
  refine PC.o okC Tryz.func141 rfl (.bool _) fun h nx hnx => ?_
  try simp [-map_take, -map_drop, -map_tail, rgs, wldV, evtC, wrap_pred hlim]
  repeat' first | done | ((first | ((with_reducible show lenS _ _ _ _ _ _); refine lenS_slice rfl fun _ => ?_) | ((with_reducible show iaddrS _ _ _ _ _ _ _); refine iaddr_map rfl omA omA ?_) | ((with_reducible show doCall _ _ _ 250 _ _); refine call_pc (s_EventsOk) ?_) | (with_reducible refine go_draw (i := 2) [(0, [], []), (1, [], []), (2, [], []), (3, [], []), (4, [], []), (5, [], []), (6, [], []), (7, [], []), (8, [], []), (9, [], []), (10, [], []), (11, [], []), (12, [], []), (13, [], []), (14, [], []), (15, [], []), (16, [], []), (17, [], []), (18, [], []), (19, [], []), (20, [], []), (21, [], []), (22, [], []), (23, [], []), (24, [], []), (25, [], []), (26, [], []), (27, [], []), (28, [], []), (29, [], [])] (by kernel_rfl) ?_)) <;> simp [-map_take, -map_drop, -map_tail, rgs, wldV, evtC, wrap_pred hlim]) | ((first | (with_reducible refine guardD_split ?_ ?_)) <;> intro qb <;> (have qp := qb; try simp only [psq] at qp) <;> simp [-map_take, -map_drop, -map_tail, rgs, wldV, evtC, wrap_pred hlim, qb])
  all_goals (try clear hnx)
  all_goals first | (simp_all []; done) | (simp_all []; omega) | (rw [Bool.eq_iff_iff]; simp_all []; done) | (rw [Bool.eq_iff_iff]; simp_all []; omega) | omega | (simp only []; grind) | grind
theorem s_Timers {F : Nat → Bool} {w : Wld} : PC ctx.P 143 [.agg (wldV F w)] (.bool (tmsOk w.timers && all1 (isTimer w) w.timers.list)) := by
  refine PC.lim (n := w.timers.list.length) (x := .agg (wldV F w)) (by simp) (.agg (x := .view (F 7) 5 (w.timers.list.map tmrC)) (by simp [wldV]) (.here (by simp))) ⟨_, Tryz.func143, by kernel_rfl, by kernel_rfl⟩ fun hlim => ?_
  refine PC.o okC Tryz.func143 rfl (.bool _) fun h nx hnx => ?_
  try simp [-map_take, -map_drop, -map_tail, rgs, wldV]
  repeat' first | done | ((first | ((with_reducible show lenS _ _ _ _ _ _); refine lenS_slice rfl fun _ => ?_) | ((with_reducible show iaddrS _ _ _ _ _ _ _); refine iaddr_map rfl omA omA ?_) | ((with_reducible show doCall _ _ _ 208 _ _); refine call_pc (s_TimersOk (t := w.timers) (F := F)) ?_)) <;> simp [-map_take, -map_drop, -map_tail, rgs, wldV]) | ((first | (with_reducible refine guardS_split ?_ ?_) | (with_reducible refine condS_split ?_ ?_)) <;> intro qb <;> (have qp := qb; try simp only [psq] at qp) <;> simp [-map_take, -map_drop, -map_tail, rgs, wldV, qb])
  all_goals first | (clear hnx; simp_all; done) | skip
  refine go_upP [2, 3, 4, 9, 10, 11, 12, 13, 14, 15, 16, 17, 18, 19, 20, 21, 22, 23, 24, 25, 26, 27, 28, 29, 30, 31, 32, 33, 34, 35, 36, 37, 38, 39, 40, 41, 42, 43, 44] (w.timers.list.length) (fun (i : Nat) a => [(3, .int .i64 i)]) (fun i_ a_ h_ _ => (fun i (_ : Unit) _ => all1 (isTimer w) (w.timers.list.drop i) = all1 (isTimer w) w.timers.list) i_ a_ h_) (()) (by simp) ?_ keep_rfl (Nat.le_refl _) ?_
  · simp
  · intro i a tm h' n' hle hJ hE hn' next hnx
    try dsimp only at hJ
    have hK : KeepB nx h' h := KeepB.sub hE keepA (by omega)
    simp [-map_take, -map_drop, -map_tail]
    have e1 : h' (nx) = some (.obj (wldV F w)) := by have := hE (nx) (by omega); simpa [wldV] using this
    have e1n : ∀ k, ((nx) = n' + k) = False := fun k => by simp only [eq_iff_iff, iff_false]; omega
    have e1m : ((nx) = n') = False := by simp only [eq_iff_iff, iff_false]; omega
    try simp [-map_take, -map_drop, -map_tail, rgs, wldV, tmrC, e1, e1n, e1m]
    repeat' first | done | ((first | ((with_reducible show lenS _ _ _ _ _ _); refine lenS_slice rfl fun _ => ?_) | ((with_reducible show iaddrS _ _ _ _ _ _ _); refine iaddr_map rfl omA omA ?_) | ((with_reducible show doCall _ _ _ 253 _ _); refine call_pc (s_Node (w := w) (F := F)) ?_) | ((with_reducible show doCall _ _ _ 254 _ _); refine call_pc (s_Task (w := w) (F := F)) ?_)) <;> simp [-map_take, -map_drop, -map_tail, rgs, wldV, tmrC, e1, e1n, e1m]) | ((first | (with_reducible refine guardS_split ?_ ?_) | (with_reducible refine condS_split ?_ ?_)) <;> intro qb <;> (have qp := qb; try simp only [psq] at qp) <;> simp [-map_take, -map_drop, -map_tail, rgs, wldV, tmrC, e1, e1n, e1m, qb])
    all_goals
      first
      | (have hlt : i < w.timers.list.length := (by first | omega | (simp at *; omega))
         rw [drop_gt hlt] at hJ
         first
         | (refine hnx.go (()) ?_ ?_ ?_ ?_ ?_ ?_; omega; (simp [wrap_succ hlt hlim]); (simp); exact keepA; (first | omega | (simp; omega)); (try dsimp only); clear hnx; first | ((try simp only [List.drop_length, Int.toNat_natCast, all1_cons, all1_nil, isTimer] at hJ ⊢); grind) | (simp_all [all1_cons, all1_nil, isTimer]; done) | (simp_all; omega))
         | (refine ⟨?_, keepA⟩; clear hnx; first | ((try simp only [List.drop_length, Int.toNat_natCast, all1_cons, all1_nil, isTimer] at hJ ⊢); grind) | (simp_all [all1_cons, all1_nil, isTimer]; done) | (simp_all; omega)))
      | (obtain rfl : i = w.timers.list.length := (by first | omega | (simp at *; omega))
         refine ⟨?_, keepA⟩; clear hnx; first | ((try simp only [List.drop_length, Int.toNat_natCast, all1_cons, all1_nil, isTimer] at hJ ⊢); grind) | (simp_all [all1_cons, all1_nil, isTimer]; done) | (simp_all; omega))
theorem s_Afters {F : Nat → Bool} {w : Wld} : PC ctx.P 144 [.agg (wldV F w)] (.bool (all1 (fun a => isIn a.node w.tree) w.afters.list && afsOk w.afters)) := by
  refine PC.lim (n := w.afters.list.length) (x := .agg (wldV F w)) (by simp) (.agg (x := .view (F 10) 5 (w.afters.list.map afrC)) (by simp [wldV]) (.here (by simp))) ⟨_, Tryz.func144, by kernel_rfl, by kernel_rfl⟩ fun hlim => ?_
  refine PC.o okC Tryz.func144 rfl (.bool _) fun h nx hnx => ?_
  try simp [-map_take, -map_drop, -map_tail, rgs, wldV]
  repeat' first | done | ((first | ((with_reducible show lenS _ _ _ _ _ _); refine lenS_slice rfl fun _ => ?_) | ((with_reducible show iaddrS _ _ _ _ _ _ _); refine iaddr_map rfl omA omA ?_) | (with_reducible refine go_draw (i := 4) [(0, [], []), (1, [], []), (2, [], []), (3, [], []), (4, [], []), (5, [], []), (6, [], []), (7, [], []), (8, [], []), (9, [], [])] (by kernel_rfl) ?_)) <;> simp [-map_take, -map_drop, -map_tail, rgs, wldV]) | ((first | (with_reducible refine condS_split ?_ ?_)) <;> intro qb <;> (have qp := qb; try simp only [psq] at qp) <;> simp [-map_take, -map_drop, -map_tail, rgs, wldV, qb])
  refine go_upP [2, 3, 4, 5, 6, 7, 8, 9, 10, 11, 12, 13, 14, 15, 16, 17, 18, 19, 20, 21] (w.afters.list.length) (fun (i : Nat) a => [(3, .int .i64 i)]) (fun i_ a_ h_ _ => (fun i (_ : Unit) _ => all1 (fun a => isIn a.node w.tree) (w.afters.list.drop i) = all1 (fun a => isIn a.node w.tree) w.afters.list) i_ a_ h_) (()) (by simp) ?_ keep_rfl (Nat.le_refl _) ?_
  · simp
  · intro i a tm h' n' hle hJ hE hn' next hnx
    try dsimp only at hJ
    have hK : KeepB nx h' h := KeepB.sub hE keepA (by omega)
    simp [-map_take, -map_drop, -map_tail]
    have e1 : h' (nx) = some (.obj (wldV F w)) := by have := hE (nx) (by omega); simpa [wldV] using this
    have e1n : ∀ k, ((nx) = n' + k) = False := fun k => by simp only [eq_iff_iff, iff_false]; omega
    have e1m : ((nx) = n') = False := by simp only [eq_iff_iff, iff_false]; omega
    try simp [-map_take, -map_drop, -map_tail, rgs, wldV, afrC, e1, e1n, e1m]
    repeat' first | done | ((first | ((with_reducible show lenS _ _ _ _ _ _); refine lenS_slice rfl fun _ => ?_) | ((with_reducible show iaddrS _ _ _ _ _ _ _); refine iaddr_map rfl omA omA ?_) | ((with_reducible show doCall _ _ _ 253 _ _); refine call_pc (s_Node (w := w) (F := F)) ?_) | ((with_reducible show doCall _ _ _ 231 _ _); refine call_pc (s_AftersOk (x := w.afters) (F := F)) ?_) | (with_reducible refine go_draw (i := 4) [(0, [], []), (1, [], []), (2, [], []), (3, [], []), (4, [], []), (5, [], []), (6, [], []), (7, [], []), (8, [], []), (9, [], [])] (by kernel_rfl) ?_)) <;> simp [-map_take, -map_drop, -map_tail, rgs, wldV, afrC, e1, e1n, e1m]) | ((first | (with_reducible refine condS_split ?_ ?_)) <;> intro qb <;> (have qp := qb; try simp only [psq] at qp) <;> simp [-map_take, -map_drop, -map_tail, rgs, wldV, afrC, e1, e1n, e1m, qb])
    all_goals
      first
      | (have hlt : i < w.afters.list.length := (by first | omega | (simp at *; omega))
         rw [drop_gt hlt] at hJ
         first
         | (refine hnx.go (()) ?_ ?_ ?_ ?_ ?_ ?_; omega; (simp [wrap_succ hlt hlim]); (simp); exact keepA; (first | omega | (simp; omega)); (try dsimp only); clear hnx; first | ((try simp only [List.drop_length, Int.toNat_natCast, all1_cons, all1_nil] at hJ ⊢); grind) | (simp_all [all1_cons, all1_nil]; done) | (simp_all; omega))
         | (refine ⟨?_, keepA⟩; clear hnx; first | ((try simp only [List.drop_length, Int.toNat_natCast, all1_cons, all1_nil] at hJ ⊢); grind) | (simp_all [all1_cons, all1_nil]; done) | (simp_all; omega)))
      | (obtain rfl : i = w.afters.list.length := (by first | omega | (simp at *; omega))
         refine ⟨?_, keepA⟩; clear hnx; first | ((try simp only [List.drop_length, Int.toNat_natCast, all1_cons, all1_nil] at hJ ⊢); grind) | (simp_all [all1_cons, all1_nil]; done) | (simp_all; omega))
end Go.AE.Tryz
end

section
/- Contracts of the reference's readers: worlds. -/
set_option linter.unusedSimpArgs false
set_option linter.unusedVariables false
set_option maxRecDepth 8000
set_option maxHeartbeats 4000000
namespace Go.AE.Tryz
open Go.Proofs
open List (map_take map_drop map_tail)

theorem s_Tasks {F : Nat → Bool} {w : Wld} : PC ctx.P 145 [.agg (wldV F w)] (.bool (tasksOk w.tasks && all1 (isTask w) w.tasks)) := by
  refine PC.lim (n := w.tasks.length) (x := .agg (wldV F w)) (by simp) (.agg (x := .view (F 11) 9 (w.tasks.map tskC)) (by simp [wldV]) (.here (by simp))) ⟨_, Tryz.func145, by kernel_rfl, by kernel_rfl⟩ fun hlim => ?_
  by_cases ht : tasksOk w.tasks = true
  · refine PC.o okC Tryz.func145 rfl (.bool _) fun h nx hnx => ?_
    try simp [-map_take, -map_drop, -map_tail, rgs, wldV, ht]
    repeat' first | done | ((first | ((with_reducible show lenS _ _ _ _ _ _); refine lenS_slice rfl fun _ => ?_) | ((with_reducible show iaddrS _ _ _ _ _ _ _); refine iaddr_map rfl omA omA ?_) | ((with_reducible show doCall _ _ _ 207 _ _); refine call_pc (s_TasksOk) ?_) | (with_reducible refine go_draw (i := 7) [(0, [], []), (1, [], []), (2, [], []), (3, [], []), (4, [], []), (5, [], []), (6, [], []), (7, [], []), (8, [], []), (9, [], []), (10, [], []), (11, [], []), (12, [], []), (13, [], []), (14, [], []), (15, [], []), (16, [], []), (17, [], []), (18, [], []), (19, [], []), (20, [], []), (21, [], []), (22, [], []), (23, [], []), (24, [], []), (25, [], [])] (by kernel_rfl) ?_)) <;> simp [-map_take, -map_drop, -map_tail, rgs, wldV, ht]) | ((first | (with_reducible refine guardD_split ?_ ?_) | (with_reducible refine guardS_split ?_ ?_) | (with_reducible refine condS_split ?_ ?_)) <;> intro qb <;> (have qp := qb; try simp only [psq] at qp) <;> simp [-map_take, -map_drop, -map_tail, rgs, wldV, ht, qb])
    refine go_upP [2, 3, 4, 9, 10, 11, 12, 13, 14, 15, 16, 17, 18, 19, 20, 21, 22, 23, 24, 25, 26, 27, 28, 29, 30, 31, 32, 33, 34, 35, 36, 37, 38, 39, 40, 41, 42, 43, 44, 45, 46, 47, 48, 49, 50, 51, 52, 53, 54, 55, 56, 57, 58, 59, 60, 61, 62, 63, 64, 65, 66, 67, 68, 69, 70, 71, 72, 73, 74, 75, 76, 77, 78] (w.tasks.length) (fun (i : Nat) a => [(3, .int .i64 i)]) (fun i_ a_ h_ _ => (fun i (_ : Unit) _ => all1 (isTask w) (w.tasks.drop i) = all1 (isTask w) w.tasks) i_ a_ h_) (()) (by simp) ?_ keep_rfl (Nat.le_refl _) ?_
    · simp
    · intro i a tm h' n' hle hJ hE hn' next hnx
      try dsimp only at hJ
      have hK : KeepB nx h' h := KeepB.sub hE keepA (by omega)
      simp [-map_take, -map_drop, -map_tail]
      have e1 : h' (nx) = some (.obj (wldV F w)) := by have := hE (nx) (by omega); simpa [wldV] using this
      have e1n : ∀ k, ((nx) = n' + k) = False := fun k => by simp only [eq_iff_iff, iff_false]; omega
      have e1m : ((nx) = n') = False := by simp only [eq_iff_iff, iff_false]; omega
      by_cases hi : i < w.tasks.length
      · have hf := tskOk_facts (tasksOk_at ht (show (0 : Int) ≤ (i : Int) by omega) (by omega))
        try simp [-map_take, -map_drop, -map_tail, rgs, wldV, tskC, prgV, e1, e1n, e1m]
        repeat' first | done | ((first | ((with_reducible show lenS _ _ _ _ _ _); refine lenS_slice rfl fun _ => ?_) | ((with_reducible show iaddrS _ _ _ _ _ _ _); refine iaddr_map rfl omA omA ?_) | ((with_reducible show doCall _ _ _ 253 _ _); refine call_pc (s_Node (w := w) (F := F)) ?_) | ((with_reducible show doCall _ _ _ 255 _ _); refine call_pc (s_Group (w := w) (F := F)) ?_) | (with_reducible refine go_draw (i := 7) [(0, [], []), (1, [], []), (2, [], []), (3, [], []), (4, [], []), (5, [], []), (6, [], []), (7, [], []), (8, [], []), (9, [], []), (10, [], []), (11, [], []), (12, [], []), (13, [], []), (14, [], []), (15, [], []), (16, [], []), (17, [], []), (18, [], []), (19, [], []), (20, [], []), (21, [], []), (22, [], []), (23, [], []), (24, [], []), (25, [], [])] (by kernel_rfl) ?_)) <;> simp [-map_take, -map_drop, -map_tail, rgs, wldV, tskC, prgV, e1, e1n, e1m]) | ((first | (with_reducible refine guardD_split ?_ ?_) | (with_reducible refine guardS_split ?_ ?_) | (with_reducible refine condS_split ?_ ?_)) <;> intro qb <;> (have qp := qb; try simp only [psq] at qp) <;> simp [-map_take, -map_drop, -map_tail, rgs, wldV, tskC, prgV, e1, e1n, e1m, qb])
        all_goals
          first
          | (have hlt : i < w.tasks.length := (by first | omega | (simp at *; omega))
             rw [drop_gt hlt] at hJ
             first
             | (refine hnx.go (()) ?_ ?_ ?_ ?_ ?_ ?_; omega; (simp [wrap_succ hlt hlim]); (simp); exact keepA; (first | omega | (simp; omega)); (try dsimp only); clear hnx; first | ((try simp only [List.drop_length, Int.toNat_natCast, all1_cons, all1_nil, isTask, isIn, inR] at hJ ⊢); grind) | (simp_all [all1_cons, all1_nil, isTask, isIn, inR]; done) | (simp_all; omega))
             | (refine ⟨?_, keepA⟩; clear hnx; first | ((try simp only [List.drop_length, Int.toNat_natCast, all1_cons, all1_nil, isTask, isIn, inR] at hJ ⊢); grind) | (simp_all [all1_cons, all1_nil, isTask, isIn, inR]; done) | (simp_all; omega)))
          | (obtain rfl : i = w.tasks.length := (by first | omega | (simp at *; omega))
             refine ⟨?_, keepA⟩; clear hnx; first | ((try simp only [List.drop_length, Int.toNat_natCast, all1_cons, all1_nil, isTask, isIn, inR] at hJ ⊢); grind) | (simp_all [all1_cons, all1_nil, isTask, isIn, inR]; done) | (simp_all; omega))
      · try simp [-map_take, -map_drop, -map_tail, rgs, wldV, tskC, prgV, e1, e1n, e1m]
        repeat' first | done | ((first | ((with_reducible show lenS _ _ _ _ _ _); refine lenS_slice rfl fun _ => ?_) | ((with_reducible show iaddrS _ _ _ _ _ _ _); refine iaddr_map rfl omA omA ?_) | ((with_reducible show doCall _ _ _ 253 _ _); refine call_pc (s_Node (w := w) (F := F)) ?_) | ((with_reducible show doCall _ _ _ 255 _ _); refine call_pc (s_Group (w := w) (F := F)) ?_) | (with_reducible refine go_draw (i := 7) [(0, [], []), (1, [], []), (2, [], []), (3, [], []), (4, [], []), (5, [], []), (6, [], []), (7, [], []), (8, [], []), (9, [], []), (10, [], []), (11, [], []), (12, [], []), (13, [], []), (14, [], []), (15, [], []), (16, [], []), (17, [], []), (18, [], []), (19, [], []), (20, [], []), (21, [], []), (22, [], []), (23, [], []), (24, [], []), (25, [], [])] (by kernel_rfl) ?_)) <;> simp [-map_take, -map_drop, -map_tail, rgs, wldV, tskC, prgV, e1, e1n, e1m]) | ((first | (with_reducible refine guardD_split ?_ ?_) | (with_reducible refine guardS_split ?_ ?_) | (with_reducible refine condS_split ?_ ?_)) <;> intro qb <;> (have qp := qb; try simp only [psq] at qp) <;> simp [-map_take, -map_drop, -map_tail, rgs, wldV, tskC, prgV, e1, e1n, e1m, qb])
        all_goals
          first
          | (have hlt : i < w.tasks.length := (by first | omega | (simp at *; omega))
             rw [drop_gt hlt] at hJ
             first
             | (refine hnx.go (()) ?_ ?_ ?_ ?_ ?_ ?_; omega; (simp [wrap_succ hlt hlim]); (simp); exact keepA; (first | omega | (simp; omega)); (try dsimp only); clear hnx; first | ((try simp only [List.drop_length, Int.toNat_natCast, all1_cons, all1_nil] at hJ ⊢); grind) | (simp_all [all1_cons, all1_nil]; done) | (simp_all; omega))
             | (refine ⟨?_, keepA⟩; clear hnx; first | ((try simp only [List.drop_length, Int.toNat_natCast, all1_cons, all1_nil] at hJ ⊢); grind) | (simp_all [all1_cons, all1_nil]; done) | (simp_all; omega)))
          | (obtain rfl : i = w.tasks.length := (by first | omega | (simp at *; omega))
             refine ⟨?_, keepA⟩; clear hnx; first | ((try simp only [List.drop_length, Int.toNat_natCast, all1_cons, all1_nil] at hJ ⊢); grind) | (simp_all [all1_cons, all1_nil]; done) | (simp_all; omega))
  · refine PC.o okC Tryz.func145 rfl (.bool _) fun h nx hnx => ?_
    try simp [-map_take, -map_drop, -map_tail, rgs, wldV, ht]
    repeat' first | done | ((first | ((with_reducible show lenS _ _ _ _ _ _); refine lenS_slice rfl fun _ => ?_) | ((with_reducible show iaddrS _ _ _ _ _ _ _); refine iaddr_map rfl omA omA ?_) | ((with_reducible show doCall _ _ _ 207 _ _); refine call_pc (s_TasksOk) ?_) | (with_reducible refine go_draw (i := 7) [(0, [], []), (1, [], []), (2, [], []), (3, [], []), (4, [], []), (5, [], []), (6, [], []), (7, [], []), (8, [], []), (9, [], []), (10, [], []), (11, [], []), (12, [], []), (13, [], []), (14, [], []), (15, [], []), (16, [], []), (17, [], []), (18, [], []), (19, [], []), (20, [], []), (21, [], []), (22, [], []), (23, [], []), (24, [], []), (25, [], [])] (by kernel_rfl) ?_)) <;> simp [-map_take, -map_drop, -map_tail, rgs, wldV, ht]) | ((first | (with_reducible refine guardD_split ?_ ?_) | (with_reducible refine guardS_split ?_ ?_) | (with_reducible refine condS_split ?_ ?_)) <;> intro qb <;> (have qp := qb; try simp only [psq] at qp) <;> simp [-map_take, -map_drop, -map_tail, rgs, wldV, ht, qb])
    all_goals (try clear hnx)
    all_goals first | (simp_all []; done) | (simp_all []; omega) | (rw [Bool.eq_iff_iff]; simp_all []; done) | (rw [Bool.eq_iff_iff]; simp_all []; omega) | omega | (simp only []; grind) | grind
end Go.AE.Tryz
end

section
/- Contracts of the reference's copies. -/
set_option linter.unusedSimpArgs false
set_option linter.unusedVariables false
set_option maxRecDepth 8000
set_option maxHeartbeats 4000000
namespace Go.AE.Tryz
open Go.Proofs
open List (map_take map_drop map_tail)

theorem s_l2Least : PC ctx.P 223 [] (.int .i64 (-9223372036854775808)) := by
  refine PC.o okC Tryz.func223 rfl (.int _ _) fun h nx hnx => ?_
  try simp [-map_take, -map_drop, -map_tail, rgs]
theorem s_Later {t d : Int} (ht : -9223372036854775808 ≤ t ∧ t ≤ 9223372036854775807) (hd : -9223372036854775808 ≤ d ∧ d ≤ 9223372036854775807) : PC ctx.P 108 [.int .i64 t, .int .i64 d] (.int .i64 (later t d)) := by
  by_cases h0 : 0 ≤ d
  · obtain ⟨m1, hm1⟩ : ∃ m1 : Int, m1 = 9223372036854775807 - d := ⟨_, rfl⟩
    have e1w : IntKind.i64.wrap (9223372036854775807 - d) = m1 := by rw [hm1]; exact i64_ok (by omega)
    refine PC.o okC Tryz.func108 rfl (.int _ _) fun h nx hnx => ?_
    try simp [-map_take, -map_drop, -map_tail, rgs, e1w, h0]
    repeat' first | done | ((first | (with_reducible refine condS_split ?_ ?_)) <;> intro qb <;> (have qp := qb; try simp only [psq] at qp) <;> simp [-map_take, -map_drop, -map_tail, rgs, e1w, h0, qb])
    all_goals (clear hnx; (try rw [i64_ok (by omega)]); simp only [later]; repeat (first | rw [if_pos (by omega)] | rw [if_neg (by omega)]))
  · obtain ⟨m1, hm1⟩ : ∃ m1 : Int, m1 = -9223372036854775808 - d := ⟨_, rfl⟩
    have e1w : IntKind.i64.wrap (-9223372036854775808 - d) = m1 := by rw [hm1]; exact i64_ok (by omega)
    refine PC.o okC Tryz.func108 rfl (.int _ _) fun h nx hnx => ?_
    try simp [-map_take, -map_drop, -map_tail, rgs, e1w, h0]
    repeat' first | done | ((first | ((with_reducible show doCall _ _ _ 223 _ _); refine call_pc (s_l2Least) ?_)) <;> simp [-map_take, -map_drop, -map_tail, rgs, e1w, h0]) | ((first | (with_reducible refine condS_split ?_ ?_)) <;> intro qb <;> (have qp := qb; try simp only [psq] at qp) <;> simp [-map_take, -map_drop, -map_tail, rgs, e1w, h0, qb])
    all_goals (clear hnx; (try rw [i64_ok (by omega)]); simp only [later]; repeat (first | rw [if_pos (by omega)] | rw [if_neg (by omega)]))
end Go.AE.Tryz
end
