/- Contracts of the seat's functions: what each answers, for all arguments. -/
import Derived.Test.YthgdlmhlijnefaaGreatB2
import Derived.Test.YthgdlmhlijnefaaGreatA2
import Derived.Test.YthgdlmhlijnefaaGreatA3
import Derived.Test.YthgdlmhlijnefaaGreatB1
section
/- Contracts of the program's readers: slots, times, heaps, timers. -/
set_option linter.unusedSimpArgs false
set_option linter.unusedVariables false
set_option maxRecDepth 8000
set_option maxHeartbeats 2000000
namespace Go.AE.Tryz
open Go.Proofs
open List renaming map_take → qt, map_drop → qd, map_tail → ql

theorem c_SlotsOk1 {x : Int} : PC ctx.P 349 [.int .i64 x] (.bool (!inR x 0 1000000)) := by
  refine PC.o okC Tryz.func349 rfl (.bool _) fun h nx hnx => ?_
  try simp [-qt, -qd, -ql, rgs]
  repeat' first | done | ((first | ((with_reducible show zG _ _ _ 165 _ _); refine zD (vG) ?_)) <;> simp [-qt, -qd, -ql, rgs])
theorem c_SlotsOk {F : Nat → Bool} {s : Slt} : PC ctx.P 276 [.agg (yW F s)] (.bool (zC8 s)) := by
  refine PC.o okC Tryz.func276 rfl (.bool _) fun h nx hnx => ?_
  try simp [-qt, -qd, -ql, rgs, yW, zC8]
  repeat' first | done | ((first | ((with_reducible show zT _ _ _ _ _ _); refine zB rfl fun _ => ?_) | ((with_reducible show zG _ _ _ 348 _ _); refine zD (c_size_int64) ?_) | ((with_reducible show zG _ _ _ 165 _ _); refine zD (vG) ?_) | ((with_reducible show zG _ _ _ 268 _ _); refine zD (uM (q := fun a => !inR a 0 1000000) (fun x _ => c_SlotsOk1)) ?_)) <;> simp [-qt, -qd, -ql, rgs, yW, zC8]) | ((first | (with_reducible refine zE ?_ ?_)) <;> intro qb <;> (have qp := qb; try simp only [psq] at qp) <;> simp [-qt, -qd, -ql, rgs, yW, zC8, qb])

theorem c_used {F : Nat → Bool} {s : Slt} : PC ctx.P 278 [.agg (yW F s)] (.int .i64 (cntB id s.used)) := by
  refine PC.lim (n := s.used.length) (x := .agg (yW F s)) (by simp) (.agg (x := .view (F 9) 1 (s.used.map bv)) (by simp [yW]) (.here (by simp))) ⟨_, Tryz.func278, by kernel_rfl, by kernel_rfl⟩ fun hlim => ?_
  refine PC.o okC Tryz.func278 rfl (.int _ _) fun h nx hnx => ?_
  try simp [-qt, -qd, -ql, rgs, yW]
  repeat' first | done | ((first | ((with_reducible show zT _ _ _ _ _ _); refine zB rfl fun _ => ?_) | ((with_reducible show zH _ _ _ _ _ _ _); refine zC rfl omA omA ?_)) <;> simp [-qt, -qd, -ql, rgs, yW]) | ((first | (with_reducible refine zA ?_ ?_)) <;> intro qb <;> (have qp := qb; try simp only [psq] at qp) <;> simp [-qt, -qd, -ql, rgs, yW, qb])
  refine zU [3, 5, 9, 10, 11, 12, 13, 14, 15, 16] (s.used.length) (fun (i : Nat) a => [(9, .int .i64 i), (3, .int .i64 a)]) (fun i_ a_ h_ _ => (fun i (a : Int) _ => a + cntB id (s.used.drop i) = cntB id s.used ∧ 0 ≤ a ∧ a ≤ i) i_ a_ h_) (0) (by simp) ?_ zP (Nat.le_refl _) ?_
  · simp
  · intro i a tm h' n' hle hJ hE hn' next hnx
    try dsimp only at hJ
    have hK : KeepB nx h' h := KeepB.sub hE zK (by omega)
    simp [-qt, -qd, -ql]
    try simp [-qt, -qd, -ql, rgs, bv]
    repeat' first | done | ((first | ((with_reducible show zT _ _ _ _ _ _); refine zB rfl fun _ => ?_) | ((with_reducible show zH _ _ _ _ _ _ _); refine zC rfl omA omA ?_)) <;> simp [-qt, -qd, -ql, rgs, bv]) | ((first | (with_reducible refine zA ?_ ?_)) <;> intro qb <;> (have qp := qb; try simp only [psq] at qp) <;> simp [-qt, -qd, -ql, rgs, bv, qb])
    · rw [zS (by omega)] at hJ
      refine hnx.go (a + 1) (by omega) (by simp [zM (i := i) (n := s.used.length) (by omega) hlim, zF (x := a + 1) (by simp only [LIM] at hlim; omega)]) (by simp) zK (by first | omega | (simp; omega)) ?_
      try dsimp only
      simp [cntB, qb] at hJ ⊢
      omega
    · rw [zS (by omega)] at hJ
      refine hnx.go (a) (by omega) (by simp [zM (i := i) (n := s.used.length) (by omega) hlim]) (by simp) zK (by first | omega | (simp; omega)) ?_
      try dsimp only
      simp [cntB, qb] at hJ ⊢
      omega
    · refine ⟨?_, by simp [hK]⟩
      rw [List.drop_eq_nil_of_le (by omega)] at hJ
      simp [cntB] at hJ ⊢
      omega

theorem c_holds {F : Nat → Bool} {s : Slt} {x : Han} (hl : s.used.length = s.ages.length) : PC ctx.P 280 [.agg (yW F s), .agg (uW x)] (.bool (yN s x)) := by
  refine PC.o okC Tryz.func280 rfl (.bool _) fun h nx hnx => ?_
  try simp [-qt, -qd, -ql, rgs, yW, uW, iv, bv, yN]
  repeat' first | done | ((first | ((with_reducible show zH _ _ _ _ _ _ _); refine zC rfl omA omA ?_) | ((with_reducible show zG _ _ _ 350 _ _); refine zD (c_isIn_int64) ?_) | (with_reducible refine zI (i := 1) [(0, [], []), (1, [], []), (2, [], []), (3, [], []), (4, [], []), (5, [], []), (6, [], []), (7, [], []), (8, [], []), (9, [], []), (10, [], []), (11, [], []), (12, [], []), (13, [], []), (14, [], []), (15, [], []), (16, [], []), (17, [], []), (18, [], []), (19, [], []), (20, [], []), (21, [], []), (22, [], []), (23, [], []), (24, [], [])] (by kernel_rfl) ?_)) <;> simp [-qt, -qd, -ql, rgs, yW, uW, iv, bv, yN]) | ((first | (with_reducible refine zQ ?_ ?_)) <;> intro qb <;> (have qp := qb; try simp only [psq] at qp) <;> simp [-qt, -qd, -ql, rgs, yW, uW, iv, bv, yN, qb])

theorem c_IsDue {a b : Int} : PC ctx.P 84 [.int .i64 a, .int .i64 b] (.bool (isDue a b)) := by
  refine PC.o okC Tryz.func84 rfl (.bool _) fun h nx hnx => ?_
  try simp [-qt, -qd, -ql, rgs, isDue, zI8]
  repeat' first | done | ((first | (with_reducible refine zE ?_ ?_)) <;> intro qb <;> (have qp := qb; try simp only [psq] at qp) <;> simp [-qt, -qd, -ql, rgs, isDue, zI8, qb])

theorem c_isNaN {a : Int} : PC ctx.P 385 [.int .i64 a] (.bool false) := by
  refine PC.o okC Tryz.func385 rfl (.bool _) fun h nx hnx => ?_
  try simp [-qt, -qd, -ql, rgs]
theorem c_Compare {a b : Int} : PC ctx.P 383 [.int .i64 a, .int .i64 b] (.int .i64 (cmp2 a b)) := by
  refine PC.o okC Tryz.func383 rfl (.int _ _) fun h nx hnx => ?_
  try simp [-qt, -qd, -ql, rgs, cmp2]
  repeat' first | done | ((first | ((with_reducible show zG _ _ _ 385 _ _); refine zD (c_isNaN) ?_)) <;> simp [-qt, -qd, -ql, rgs, cmp2]) | ((first | (with_reducible refine zA ?_ ?_)) <;> intro qb <;> (have qp := qb; try simp only [psq] at qp) <;> simp [-qt, -qd, -ql, rgs, cmp2, qb])
  all_goals omega
theorem c_Or {p : Bool} {xs : List Int} : PC ctx.P 382 [.view p 1 (xs.map iv)] (.int .i64 (orI xs)) := by
  refine PC.lim (n := xs.length) (x := .view p 1 (xs.map iv)) (by simp) (.here (by simp)) ⟨_, Tryz.func382, by kernel_rfl, by kernel_rfl⟩ fun hlim => ?_
  refine PC.o okC Tryz.func382 rfl (.int _ _) fun h nx hnx => ?_
  try simp [-qt, -qd, -ql, rgs]
  repeat' first | done | ((first | ((with_reducible show zT _ _ _ _ _ _); refine zB rfl fun _ => ?_) | ((with_reducible show zH _ _ _ _ _ _ _); refine zC rfl omA omA ?_)) <;> simp [-qt, -qd, -ql, rgs]) | ((first | (with_reducible refine zA ?_ ?_)) <;> intro qb <;> (have qp := qb; try simp only [psq] at qp) <;> simp [-qt, -qd, -ql, rgs, qb])
  refine zU [2, 5, 8, 9, 10, 11, 12, 13, 14, 15, 16] (xs.length) (fun (i : Nat) a => [(8, .int .i64 i)]) (fun i_ a_ h_ _ => (fun i (_ : Unit) _ => orI (xs.drop i) = orI xs) i_ a_ h_) (()) (by simp) ?_ zP (Nat.le_refl _) ?_
  · simp
  · intro i a tm h' n' hle hJ hE hn' next hnx
    try dsimp only at hJ
    have hK : KeepB nx h' h := KeepB.sub hE zK (by omega)
    simp [-qt, -qd, -ql]
    try simp [-qt, -qd, -ql, rgs, iv]
    repeat' first | done | ((first | ((with_reducible show zT _ _ _ _ _ _); refine zB rfl fun _ => ?_) | ((with_reducible show zH _ _ _ _ _ _ _); refine zC rfl omA omA ?_)) <;> simp [-qt, -qd, -ql, rgs, iv]) | ((first | (with_reducible refine zA ?_ ?_)) <;> intro qb <;> (have qp := qb; try simp only [psq] at qp) <;> simp [-qt, -qd, -ql, rgs, iv, qb])
    all_goals
      first
      | (have hlt : i < xs.length := (by first | omega | (simp at *; omega))
         rw [zS hlt] at hJ
         first
         | (refine hnx.go (()) ?_ ?_ ?_ ?_ ?_ ?_; omega; (simp [zM hlt hlim]); (simp); exact zK; (first | omega | (simp; omega)); (try dsimp only); clear hnx; first | ((try simp only [List.drop_length, Int.toNat_natCast, orI] at hJ ⊢); grind) | (simp_all [orI]; done) | (simp_all; omega))
         | (refine ⟨?_, zK⟩; clear hnx; first | ((try simp only [List.drop_length, Int.toNat_natCast, orI] at hJ ⊢); grind) | (simp_all [orI]; done) | (simp_all; omega)))
      | (obtain rfl : i = xs.length := (by first | omega | (simp at *; omega))
         refine ⟨?_, zK⟩; clear hnx; first | ((try simp only [List.drop_length, Int.toNat_natCast, orI] at hJ ⊢); grind) | (simp_all [orI]; done) | (simp_all; omega))
end Go.AE.Tryz
end

section
/- Contracts of the program's readers: heaps, timers, trees. -/
set_option linter.unusedSimpArgs false
set_option linter.unusedVariables false
set_option maxRecDepth 8000
set_option maxHeartbeats 2000000
namespace Go.AE.Tryz
open Go.Proofs
open List renaming map_take → qt, map_drop → qd, map_tail → ql

theorem c_compare {a b : Twg} : PC ctx.P 372 [.agg (yX a), .agg (yX b)] (.int .i64 (zA7 a b)) := by
  refine PC.o okC Tryz.func372 rfl (.int _ _) fun h nx hnx => ?_
  try simp [-qt, -qd, -ql, rgs, yX]
  repeat' first | done | ((first | ((with_reducible show zG _ _ _ 383 _ _); refine zD (c_Compare) ?_) | ((with_reducible show zG _ _ _ 382 _ _); refine yQ (c_Or (p := false) (xs := [cmp2 a.due b.due, cmp2 a.seq b.seq])) (by first | exact .bool _ | exact .int _ _ | exact .str _) (by repeat' first | exact Bors.nil | refine Bors.cons ?_ ?_ | exact Bor.same _ | refine Bor.fn1 ?_ | refine Bor.bnd1 ?_ | refine Bor.agg1 ?_ | refine Bor.ptr0 (by first | (simp; done) | (simp; rfl) | assumption | (simp [*]; done)) ?_ | refine Bor.ref0 (by first | (simp; done) | (simp; rfl) | (simp [iv, bv]; done)) (by simp) (by simp)) ?_) | (with_reducible refine zI (i := 1) [(0, [], []), (1, [], []), (2, [], []), (3, [], []), (5, [], []), (6, [], []), (7, [], []), (8, [], []), (4, [.tmp 10, .tmp 12], []), (9, [], []), (10, [], []), (11, [], []), (12, [], [])] (by kernel_rfl) ?_)) <;> simp [-qt, -qd, -ql, rgs, yX])
  all_goals (try clear hnx)
  all_goals first | (simp_all [zA7]; done) | (simp_all [zA7]; omega) | (rw [Bool.eq_iff_iff]; simp_all [zA7]; done) | (rw [Bool.eq_iff_iff]; simp_all [zA7]; omega) | omega | (simp only [zA7]; grind) | grind
theorem c_parts {p : Bool} {l : List Twg} (hp : 0 < l.length) (h0 : 0 ≤ (gt l 0).lefts) (h1 : (gt l 0).lefts < l.length) :
    PC ctx.P 370 [.view p 3 (l.map yX)] (.tup [.view p 3 ((l.tail.take (gt l 0).lefts.toNat).map yX), .view p 3 ((l.drop ((gt l 0).lefts.toNat + 1)).map yX)]) := by
  refine PC.lim (n := l.length) (x := .view p 3 (l.map yX)) (by simp) (.here (by simp)) ⟨_, Tryz.func370, by kernel_rfl, by kernel_rfl⟩ fun hlim => ?_
  simp only [LIM] at hlim
  have q1 : (1 + (gt l 0).lefts).toNat = (gt l 0).lefts.toNat + 1 := by omega
  refine PC.o okC Tryz.func370 rfl (.tup _ (by simp [-List.map_take, -List.map_drop]; exact ⟨.vmap uA, .vmap uA⟩)) fun h nx hnx => ?_
  try simp [-qt, -qd, -ql, rgs, yX, zF (x := 1 + (gt l 0).lefts) (by omega), q1]
  repeat' first | done | ((first | ((with_reducible show zH _ _ _ _ _ _ _); refine zC rfl omA omA ?_) | ((with_reducible show yA _ _ _ _ _ _ _ _); refine vJ rfl omA omA ?_) | ((with_reducible show yA _ _ _ _ _ _ _ _); refine yO rfl omA omA ?_) | ((with_reducible show yA _ _ _ _ _ _ _ _); refine yY rfl omA omA omA ?_) | ((with_reducible show yE _ _ _ _ _ _ _ _ _ _ _); refine vC rfl omA omA ?_) | ((with_reducible show yE _ _ _ _ _ _ _ _ _ _ _); refine yL rfl omA omA ?_) | ((with_reducible show yE _ _ _ _ _ _ _ _ _ _ _); refine yU rfl omA omA omA ?_) | (with_reducible refine zI (i := 2) [(0, [], []), (1, [], []), (2, [], []), (3, [], []), (4, [], []), (5, [], []), (6, [], []), (7, [], [])] (by kernel_rfl) ?_)) <;> simp [-qt, -qd, -ql, rgs, yX, zF (x := 1 + (gt l 0).lefts) (by omega), q1])
theorem c_seqAt1 {x : Twg} {s : Int} : PC ctx.P 375 [.agg (yX x), .vptr [.int .i64 s]] (.bool (x.seq == s)) := by
  refine PC.o okC Tryz.func375 rfl (.bool _) fun h nx hnx => ?_
  try simp [-qt, -qd, -ql, rgs, yX]
theorem c_seqAt {p : Bool} {h : List Twg} {s : Int} : PC ctx.P 344 [.view p 3 (h.map yX), .int .i64 s] (.int .i64 (zJ9 h s)) := by
  refine PC.o okC Tryz.func344 rfl (.int _ _) fun h nx hnx => ?_
  try simp [-qt, -qd, -ql, rgs, zJ9]
  repeat' first | done | ((first | ((with_reducible show zG _ _ _ 346 _ _); refine yQ (zH8 (q := fun x => x.seq == s) (fv := .fn 375 [.vptr [.int .i64 s]]) (fun x _ => c_seqAt1)) (by first | exact .bool _ | exact .int _ _ | exact .str _) (by repeat' first | exact Bors.nil | refine Bors.cons ?_ ?_ | exact Bor.same _ | refine Bor.fn1 ?_ | refine Bor.bnd1 ?_ | refine Bor.agg1 ?_ | refine Bor.ptr0 (by first | (simp; done) | (simp; rfl) | assumption | (simp [*]; done)) ?_ | refine Bor.ref0 (by first | (simp; done) | (simp; rfl) | (simp [iv, bv]; done)) (by simp) (by simp)) ?_)) <;> simp [-qt, -qd, -ql, rgs, zJ9])
theorem c_tmsAt1 {x : Tmr} {s : Int} : PC ctx.P 329 [.agg (vN x), .vptr [.int .i64 s]] (.bool (x.seq == s)) := by
  refine PC.o okC Tryz.func329 rfl (.bool _) fun h nx hnx => ?_
  try simp [-qt, -qd, -ql, rgs, vN]
theorem c_tmsAt {F : Nat → Bool} {t : Tms} {s : Int} : PC ctx.P 237 [.agg (uT F t), .int .i64 s] (.int .i64 (zF9 t.list s)) := by
  refine PC.o okC Tryz.func237 rfl (.int _ _) fun h nx hnx => ?_
  try simp [-qt, -qd, -ql, rgs, uT, zF9]
  repeat' first | done | ((first | ((with_reducible show zG _ _ _ 328 _ _); refine yQ (zG9 (q := fun x => x.seq == s) (fv := .fn 329 [.vptr [.int .i64 s]]) (fun x _ => c_tmsAt1)) (by first | exact .bool _ | exact .int _ _ | exact .str _) (by repeat' first | exact Bors.nil | refine Bors.cons ?_ ?_ | exact Bor.same _ | refine Bor.fn1 ?_ | refine Bor.bnd1 ?_ | refine Bor.agg1 ?_ | refine Bor.ptr0 (by first | (simp; done) | (simp; rfl) | assumption | (simp [*]; done)) ?_ | refine Bor.ref0 (by first | (simp; done) | (simp; rfl) | (simp [iv, bv]; done)) (by simp) (by simp)) ?_)) <;> simp [-qt, -qd, -ql, rgs, uT, zF9])
theorem c_TimersOk1 {F : Nat → Bool} {t : Tms} {x : Twg} : PC ctx.P 272 [.agg (yX x), .vptr (uT F t)] (.bool (decide (zF9 t.list x.seq < 0) || (!(gt t.list (zF9 t.list x.seq)).armed || (gt t.list (zF9 t.list x.seq)).due != x.due))) := by
  have hat := tmsAt_lt t.list x.seq
  refine PC.o okC Tryz.func272 rfl (.bool _) fun h nx hnx => ?_
  try simp [-qt, -qd, -ql, rgs, yX, uT, vN]
  repeat' first | done | ((first | ((with_reducible show zH _ _ _ _ _ _ _); refine zC rfl omA omA ?_) | ((with_reducible show zG _ _ _ 237 _ _); refine zD (c_tmsAt (F := F) (t := t)) ?_) | (with_reducible refine zI (i := 2) [(0, [], []), (1, [], []), (2, [], []), (3, [], []), (4, [], []), (5, [], []), (6, [], []), (7, [], []), (8, [], []), (9, [], []), (10, [], []), (11, [], []), (12, [], []), (13, [], []), (14, [], []), (15, [], []), (16, [], []), (17, [], []), (18, [], []), (19, [], []), (20, [], []), (21, [], []), (22, [], [])] (by kernel_rfl) ?_)) <;> simp [-qt, -qd, -ql, rgs, yX, uT, vN]) | ((first | (with_reducible refine zQ ?_ ?_)) <;> intro qb <;> (have qp := qb; try simp only [psq] at qp) <;> simp [-qt, -qd, -ql, rgs, yX, uT, vN, qb])

theorem c_rank {p : Bool} {h0 : List Twg} {r : Nat} (hr : rk h0 = some r) : PC ctx.P 377 [.view p 3 (h0.map yX)] (.int .i64 r) := by
  refine PC.lim (n := h0.length) (x := .view p 3 (h0.map yX)) (by simp) (.here (by simp)) ⟨_, Tryz.func377, by kernel_rfl, by kernel_rfl⟩ fun hlim => ?_
  have hrl := rk_le hr
  simp only [LIM] at hlim
  refine PC.o okC Tryz.func377 rfl (.int _ _) fun h nx hnx => ?_
  try simp [-qt, -qd, -ql, rgs]
  repeat' first | done | ((first | ((with_reducible show zT _ _ _ _ _ _); refine zB rfl fun _ => ?_)) <;> simp [-qt, -qd, -ql, rgs]) | ((first | (with_reducible refine zA ?_ ?_)) <;> intro qb <;> (have qp := qb; try simp only [psq] at qp) <;> simp [-qt, -qd, -ql, rgs, qb])
  refine go_dnP [0, 3, 4, 5, 6, 7, 8, 9, 10, 11, 12, 13] (fun a => [(0, .view p 3 (a.1.map yX)), (3, .int .i64 a.2)]) (fun a => a.1.length) (fun a_ h_ _ => (fun (a : List Twg × Int) _ => ∃ k : Nat, rk a.1 = some k ∧ a.2 + k = r ∧ 0 ≤ a.2) a_ h_) ((h0, 0)) (by simp) ?_ zP (Nat.le_refl _) ?_
  · exact ⟨r, hr, by simp, by simp⟩
  · intro a tm h' n' hJ hE hn' next hnx
    try dsimp only at hJ
    have hK : KeepB nx h' h := KeepB.sub hE zK (by omega)
    obtain ⟨l, n⟩ := a
    obtain ⟨k, hk, hn, h0⟩ := hJ
    dsimp only at hk hn h0 ⊢
    rcases rk_cases hk with ⟨rfl, rfl⟩ | ⟨hp, hx0, hx1, b, hb, rfl⟩
    · try simp [-qt, -qd, -ql, rgs]
      repeat' first | done | ((first | ((with_reducible show zT _ _ _ _ _ _); refine zB rfl fun _ => ?_)) <;> simp [-qt, -qd, -ql, rgs]) | ((first | (with_reducible refine zA ?_ ?_)) <;> intro qb <;> (have qp := qb; try simp only [psq] at qp) <;> simp [-qt, -qd, -ql, rgs, qb])
      all_goals (first | exact ⟨by simpa using hn, hK⟩ | (simp at *; omega))
    · simp at hn h0
      try simp [-qt, -qd, -ql, rgs]
      repeat' first | done | ((first | ((with_reducible show zT _ _ _ _ _ _); refine zB rfl fun _ => ?_) | ((with_reducible show zG _ _ _ 370 _ _); refine zD (c_parts hp hx0 hx1) ?_)) <;> simp [-qt, -qd, -ql, rgs]) | ((first | (with_reducible refine zA ?_ ?_)) <;> intro qb <;> (have qp := qb; try simp only [psq] at qp) <;> simp [-qt, -qd, -ql, rgs, qb])
      · refine hnx.go (l.drop ((gt l 0).lefts.toNat + 1), n + 1) (by simp; omega) (by simp [zF (x := n + 1) (by omega)]) (by simp) zK (by first | omega | (simp; omega)) ⟨b, hb, by simp; omega, by simp; omega⟩
      · omega
theorem c_isHeapN {p : Bool} : ∀ (n : Nat) (l : List Twg), l.length ≤ n → PC ctx.P 345 [.view p 3 (l.map yX)] (.bool (rk l).isSome) := by
  intro n
  induction n with
  | zero =>
    intro l hl
    obtain rfl : l = [] := by simpa using hl
    refine PC.o okC Tryz.func345 rfl (.bool _) fun h nx hnx => ?_
    try simp [-qt, -qd, -ql, rgs, rk_nil]
    repeat' first | done | ((first | ((with_reducible show zT _ _ _ _ _ _); refine zB rfl fun _ => ?_) | ((with_reducible show zH _ _ _ _ _ _ _); refine zC rfl omA omA ?_) | (with_reducible refine zI (i := 3) [(0, [], []), (1, [], []), (2, [], []), (3, [], []), (4, [], []), (5, [.tmp 10], []), (6, [], []), (7, [], []), (8, [], [])] (by kernel_rfl) ?_) | (with_reducible refine zI (i := 8) [(0, [], []), (1, [], []), (2, [], []), (3, [], []), (4, [], []), (5, [], []), (6, [], []), (7, [], []), (8, [], []), (9, [], []), (10, [], []), (11, [], []), (12, [], []), (13, [], []), (14, [], []), (15, [], []), (16, [], []), (17, [], []), (18, [], []), (19, [], []), (20, [], []), (21, [], []), (22, [], []), (23, [], []), (24, [], []), (25, [], []), (26, [], []), (27, [], []), (28, [], [])] (by kernel_rfl) ?_)) <;> simp [-qt, -qd, -ql, rgs, rk_nil]) | ((first | (with_reducible refine zQ ?_ ?_) | (with_reducible refine zE ?_ ?_) | (with_reducible refine zA ?_ ?_)) <;> intro qb <;> (have qp := qb; try simp only [psq] at qp) <;> simp [-qt, -qd, -ql, rgs, rk_nil, qb])
  | succ n ih =>
    intro l hl
    refine PC.lim (n := l.length) (x := .view p 3 (l.map yX)) (by simp) (.here (by simp)) ⟨_, Tryz.func345, by kernel_rfl, by kernel_rfl⟩ fun hlim => ?_
    simp only [LIM] at hlim
    by_cases hp : 0 < l.length
    · have i1 := ih (l.tail.take (gt l 0).lefts.toNat) (by simp; omega)
      have i2 := ih (l.drop ((gt l 0).lefts.toNat + 1)) (by simp; omega)
      rw [rk_tail hp]
      cases ha : rk (l.tail.take (gt l 0).lefts.toNat) with
      | none =>
        rw [ha] at i1
        refine PC.o okC Tryz.func345 rfl (.bool _) fun h nx hnx => ?_
        try simp [-qt, -qd, -ql, rgs, yX, zF (x := (l.length : Int) - 1) (by omega)]
        repeat' first | done | ((first | ((with_reducible show zT _ _ _ _ _ _); refine zB rfl fun _ => ?_) | ((with_reducible show zH _ _ _ _ _ _ _); refine zC rfl omA omA ?_) | ((with_reducible show zG _ _ _ 376 _ _); refine zD (zL0) ?_) | ((with_reducible show zG _ _ _ 165 _ _); refine zD (vG) ?_) | ((with_reducible show zG _ _ _ 370 _ _); refine zD (c_parts hp (by omega) (by omega)) ?_) | (refine zD (i1) ?_) | (refine zD (i2) ?_) | (with_reducible refine zI (i := 3) [(0, [], []), (1, [], []), (2, [], []), (3, [], []), (4, [], []), (5, [.tmp 10], []), (6, [], []), (7, [], []), (8, [], [])] (by kernel_rfl) ?_) | (with_reducible refine zI (i := 8) [(0, [], []), (1, [], []), (2, [], []), (3, [], []), (4, [], []), (5, [], []), (6, [], []), (7, [], []), (8, [], []), (9, [], []), (10, [], []), (11, [], []), (12, [], []), (13, [], []), (14, [], []), (15, [], []), (16, [], []), (17, [], []), (18, [], []), (19, [], []), (20, [], []), (21, [], []), (22, [], []), (23, [], []), (24, [], []), (25, [], []), (26, [], []), (27, [], []), (28, [], [])] (by kernel_rfl) ?_)) <;> simp [-qt, -qd, -ql, rgs, yX, zF (x := (l.length : Int) - 1) (by omega)]) | ((first | (with_reducible refine zQ ?_ ?_) | (with_reducible refine zE ?_ ?_) | (with_reducible refine zA ?_ ?_)) <;> intro qb <;> (have qp := qb; try simp only [psq] at qp) <;> simp [-qt, -qd, -ql, rgs, yX, zF (x := (l.length : Int) - 1) (by omega), qb])
        all_goals (clear ih i1 i2 hnx; simp_all)
      | some a =>
        rw [ha] at i1
        cases hb : rk (l.drop ((gt l 0).lefts.toNat + 1)) with
        | none =>
          rw [hb] at i2
          refine PC.o okC Tryz.func345 rfl (.bool _) fun h nx hnx => ?_
          try simp [-qt, -qd, -ql, rgs, yX, zF (x := (l.length : Int) - 1) (by omega)]
          repeat' first | done | ((first | ((with_reducible show zT _ _ _ _ _ _); refine zB rfl fun _ => ?_) | ((with_reducible show zH _ _ _ _ _ _ _); refine zC rfl omA omA ?_) | ((with_reducible show zG _ _ _ 376 _ _); refine zD (zL0) ?_) | ((with_reducible show zG _ _ _ 165 _ _); refine zD (vG) ?_) | ((with_reducible show zG _ _ _ 370 _ _); refine zD (c_parts hp (by omega) (by omega)) ?_) | (refine zD (i1) ?_) | (refine zD (i2) ?_) | (with_reducible refine zI (i := 3) [(0, [], []), (1, [], []), (2, [], []), (3, [], []), (4, [], []), (5, [.tmp 10], []), (6, [], []), (7, [], []), (8, [], [])] (by kernel_rfl) ?_) | (with_reducible refine zI (i := 8) [(0, [], []), (1, [], []), (2, [], []), (3, [], []), (4, [], []), (5, [], []), (6, [], []), (7, [], []), (8, [], []), (9, [], []), (10, [], []), (11, [], []), (12, [], []), (13, [], []), (14, [], []), (15, [], []), (16, [], []), (17, [], []), (18, [], []), (19, [], []), (20, [], []), (21, [], []), (22, [], []), (23, [], []), (24, [], []), (25, [], []), (26, [], []), (27, [], []), (28, [], [])] (by kernel_rfl) ?_)) <;> simp [-qt, -qd, -ql, rgs, yX, zF (x := (l.length : Int) - 1) (by omega)]) | ((first | (with_reducible refine zQ ?_ ?_) | (with_reducible refine zE ?_ ?_) | (with_reducible refine zA ?_ ?_)) <;> intro qb <;> (have qp := qb; try simp only [psq] at qp) <;> simp [-qt, -qd, -ql, rgs, yX, zF (x := (l.length : Int) - 1) (by omega), qb])
          all_goals (clear ih i1 i2 hnx; simp_all)
        | some b =>
          rw [hb] at i2
          simp only [head_all]
          refine PC.o okC Tryz.func345 rfl (.bool _) fun h nx hnx => ?_
          try simp [-qt, -qd, -ql, rgs, yX, zF (x := (l.length : Int) - 1) (by omega)]
          repeat' first | done | ((first | ((with_reducible show zT _ _ _ _ _ _); refine zB rfl fun _ => ?_) | ((with_reducible show zH _ _ _ _ _ _ _); refine zC rfl omA omA ?_) | ((with_reducible show zG _ _ _ 376 _ _); refine zD (zL0) ?_) | ((with_reducible show zG _ _ _ 165 _ _); refine zD (vG) ?_) | ((with_reducible show zG _ _ _ 370 _ _); refine zD (c_parts hp (by omega) (by omega)) ?_) | (refine zD (i1) ?_) | (refine zD (i2) ?_) | ((with_reducible show zG _ _ _ 377 _ _); refine zD (c_rank ha) ?_) | ((with_reducible show zG _ _ _ 377 _ _); refine zD (c_rank hb) ?_) | ((with_reducible show zG _ _ _ 372 _ _); refine zD (c_compare (a := gt l 0)) ?_) | (with_reducible refine zI (i := 3) [(0, [], []), (1, [], []), (2, [], []), (3, [], []), (4, [], []), (5, [.tmp 10], []), (6, [], []), (7, [], []), (8, [], [])] (by kernel_rfl) ?_) | (with_reducible refine zI (i := 8) [(0, [], []), (1, [], []), (2, [], []), (3, [], []), (4, [], []), (5, [], []), (6, [], []), (7, [], []), (8, [], []), (9, [], []), (10, [], []), (11, [], []), (12, [], []), (13, [], []), (14, [], []), (15, [], []), (16, [], []), (17, [], []), (18, [], []), (19, [], []), (20, [], []), (21, [], []), (22, [], []), (23, [], []), (24, [], []), (25, [], []), (26, [], []), (27, [], []), (28, [], [])] (by kernel_rfl) ?_)) <;> simp [-qt, -qd, -ql, rgs, yX, zF (x := (l.length : Int) - 1) (by omega)]) | ((first | (with_reducible refine zQ ?_ ?_) | (with_reducible refine zE ?_ ?_) | (with_reducible refine zA ?_ ?_)) <;> intro qb <;> (have qp := qb; try simp only [psq] at qp) <;> simp [-qt, -qd, -ql, rgs, yX, zF (x := (l.length : Int) - 1) (by omega), qb])
          all_goals clear ih i1 i2 hnx
          all_goals first | (simp_all; done) | (simp_all; omega) | grind | trace_state
    · obtain rfl : l = [] := by cases l <;> simp at hp ⊢
      refine PC.o okC Tryz.func345 rfl (.bool _) fun h nx hnx => ?_
      try simp [-qt, -qd, -ql, rgs, rk_nil]
      repeat' first | done | ((first | ((with_reducible show zT _ _ _ _ _ _); refine zB rfl fun _ => ?_) | ((with_reducible show zH _ _ _ _ _ _ _); refine zC rfl omA omA ?_) | (with_reducible refine zI (i := 3) [(0, [], []), (1, [], []), (2, [], []), (3, [], []), (4, [], []), (5, [.tmp 10], []), (6, [], []), (7, [], []), (8, [], [])] (by kernel_rfl) ?_) | (with_reducible refine zI (i := 8) [(0, [], []), (1, [], []), (2, [], []), (3, [], []), (4, [], []), (5, [], []), (6, [], []), (7, [], []), (8, [], []), (9, [], []), (10, [], []), (11, [], []), (12, [], []), (13, [], []), (14, [], []), (15, [], []), (16, [], []), (17, [], []), (18, [], []), (19, [], []), (20, [], []), (21, [], []), (22, [], []), (23, [], []), (24, [], []), (25, [], []), (26, [], []), (27, [], []), (28, [], [])] (by kernel_rfl) ?_)) <;> simp [-qt, -qd, -ql, rgs, rk_nil]) | ((first | (with_reducible refine zQ ?_ ?_) | (with_reducible refine zE ?_ ?_) | (with_reducible refine zA ?_ ?_)) <;> intro qb <;> (have qp := qb; try simp only [psq] at qp) <;> simp [-qt, -qd, -ql, rgs, rk_nil, qb])
theorem c_isHeap {p : Bool} {l : List Twg} : PC ctx.P 345 [.view p 3 (l.map yX)] (.bool (rk l).isSome) := c_isHeapN _ _ (Nat.le_refl _)
theorem c_HeapOk {p : Bool} {l : List Twg} : PC ctx.P 270 [.view p 3 (l.map yX)] (.bool (zF0 l)) := by
  refine PC.lim (n := l.length) (x := .view p 3 (l.map yX)) (by simp) (.here (by simp)) ⟨_, Tryz.func270, by kernel_rfl, by kernel_rfl⟩ fun hlim => ?_
  refine PC.o okC Tryz.func270 rfl (.bool _) fun h nx hnx => ?_
  try simp [-qt, -qd, -ql, rgs]
  repeat' first | done | ((first | ((with_reducible show zT _ _ _ _ _ _); refine zB rfl fun _ => ?_) | ((with_reducible show zH _ _ _ _ _ _ _); refine zC rfl omA omA ?_) | ((with_reducible show yA _ _ _ _ _ _ _ _); refine vJ rfl omA omA ?_) | ((with_reducible show yA _ _ _ _ _ _ _ _); refine yO rfl omA omA ?_) | ((with_reducible show yA _ _ _ _ _ _ _ _); refine yY rfl omA omA omA ?_) | ((with_reducible show yE _ _ _ _ _ _ _ _ _ _ _); refine vC rfl omA omA ?_) | ((with_reducible show yE _ _ _ _ _ _ _ _ _ _ _); refine yL rfl omA omA ?_) | ((with_reducible show yE _ _ _ _ _ _ _ _ _ _ _); refine yU rfl omA omA omA ?_) | (with_reducible refine zI (i := 6) [(0, [], []), (1, [], []), (2, [], []), (3, [], []), (4, [], []), (5, [], []), (6, [], [])] (by kernel_rfl) ?_)) <;> simp [-qt, -qd, -ql, rgs]) | ((first | (with_reducible refine zA ?_ ?_)) <;> intro qb <;> (have qp := qb; try simp only [psq] at qp) <;> simp [-qt, -qd, -ql, rgs, qb])
  · all_goals (try clear hnx)
    all_goals first | (simp_all [zF0]; done) | (simp_all [zF0]; omega) | (rw [Bool.eq_iff_iff]; simp_all [zF0]; done) | (rw [Bool.eq_iff_iff]; simp_all [zF0]; omega) | omega | (simp only [zF0]; grind) | grind
  · refine zU [2, 3, 4, 10, 11, 12, 13, 14, 15, 16, 17, 18, 19, 20, 21, 22] (l.length) (fun (i : Nat) a => [(10, .int .i64 i)]) (fun i_ a_ h_ _ => (fun i (_ : Unit) _ => uF (fun i x => !(decide (0 ≤ zJ9 (l.take i.toNat) x.seq))) (l.drop i) i = uF (fun i x => !(decide (0 ≤ zJ9 (l.take i.toNat) x.seq))) l 0) i_ a_ h_) (()) (by simp) ?_ zP (Nat.le_refl _) ?_
    · simp
    · intro i a tm h' n' hle hJ hE hn' next hnx
      try dsimp only at hJ
      have hK : KeepB nx h' h := KeepB.sub hE zK (by omega)
      simp [-qt, -qd, -ql]
      try simp [-qt, -qd, -ql, rgs, yX]
      repeat' first | done | ((first | ((with_reducible show zT _ _ _ _ _ _); refine zB rfl fun _ => ?_) | ((with_reducible show zH _ _ _ _ _ _ _); refine zC rfl omA omA ?_) | ((with_reducible show yA _ _ _ _ _ _ _ _); refine vJ rfl omA omA ?_) | ((with_reducible show yA _ _ _ _ _ _ _ _); refine yO rfl omA omA ?_) | ((with_reducible show yA _ _ _ _ _ _ _ _); refine yY rfl omA omA omA ?_) | ((with_reducible show yE _ _ _ _ _ _ _ _ _ _ _); refine vC rfl omA omA ?_) | ((with_reducible show yE _ _ _ _ _ _ _ _ _ _ _); refine yL rfl omA omA ?_) | ((with_reducible show yE _ _ _ _ _ _ _ _ _ _ _); refine yU rfl omA omA omA ?_) | ((with_reducible show zG _ _ _ 344 _ _); refine zD (c_seqAt) ?_) | ((with_reducible show zG _ _ _ 345 _ _); refine zD (c_isHeap) ?_) | (with_reducible refine zI (i := 6) [(0, [], []), (1, [], []), (2, [], []), (3, [], []), (4, [], []), (5, [], []), (6, [], [])] (by kernel_rfl) ?_)) <;> simp [-qt, -qd, -ql, rgs, yX]) | ((first | (with_reducible refine zA ?_ ?_)) <;> intro qb <;> (have qp := qb; try simp only [psq] at qp) <;> simp [-qt, -qd, -ql, rgs, yX, qb])
      all_goals
        first
        | (have hlt : i < l.length := (by first | omega | (simp at *; omega))
           rw [zS hlt] at hJ
           first
           | (refine hnx.go (()) ?_ ?_ ?_ ?_ ?_ ?_; omega; (simp [zM hlt hlim]); (simp); exact zK; (first | omega | (simp; omega)); (try dsimp only); clear hnx; first | ((try simp only [List.drop_length, Int.toNat_natCast, uF, zF0] at hJ ⊢); grind) | (simp_all [uF, zF0]; done) | (simp_all; omega))
           | (refine ⟨?_, zK⟩; clear hnx; first | ((try simp only [List.drop_length, Int.toNat_natCast, uF, zF0] at hJ ⊢); grind) | (simp_all [uF, zF0]; done) | (simp_all; omega)))
        | (obtain rfl : i = l.length := (by first | omega | (simp at *; omega))
           refine ⟨?_, zK⟩; clear hnx; first | ((try simp only [List.drop_length, Int.toNat_natCast, uF, zF0] at hJ ⊢); grind) | (simp_all [uF, zF0]; done) | (simp_all; omega))

theorem c_isNode {n : Nod} {i : Int} (h0 : 0 ≤ i) (h1 : i ≤ LIM) : PC ctx.P 245 [.agg (vE n), .int .i64 i] (.bool (zE9 n i)) := by
  simp only [LIM] at h1
  refine PC.o okC Tryz.func245 rfl (.bool _) fun h nx hnx => ?_
  try simp [-qt, -qd, -ql, rgs, vE, zF (x := i) (by omega), zF (x := i - 1) (by omega)]
  repeat' first | done | ((first | ((with_reducible show zG _ _ _ 165 _ _); refine zD (vG) ?_)) <;> simp [-qt, -qd, -ql, rgs, vE, zF (x := i) (by omega), zF (x := i - 1) (by omega)]) | ((first | (with_reducible refine zE ?_ ?_) | (with_reducible refine zA ?_ ?_)) <;> intro qb <;> (have qp := qb; try simp only [psq] at qp) <;> simp [-qt, -qd, -ql, rgs, vE, zF (x := i) (by omega), zF (x := i - 1) (by omega), qb])
  all_goals (try clear hnx)
  all_goals first | (simp_all [zE9, zI8]; done) | (simp_all [zE9, zI8]; omega) | (rw [Bool.eq_iff_iff]; simp_all [zE9, zI8]; done) | (rw [Bool.eq_iff_iff]; simp_all [zE9, zI8]; omega) | omega | (simp only [zE9, zI8]; grind) | grind
theorem c_TreeOk {p : Bool} {t : List Nod} : PC ctx.P 266 [.view p 5 (t.map vE)] (.bool (zB2 t)) := by
  refine PC.lim (n := t.length) (x := .view p 5 (t.map vE)) (by simp) (.here (by simp)) ⟨_, Tryz.func266, by kernel_rfl, by kernel_rfl⟩ fun hlim => ?_
  refine PC.o okC Tryz.func266 rfl (.bool _) fun h nx hnx => ?_
  try simp [-qt, -qd, -ql, rgs]
  repeat' first | done | ((first | ((with_reducible show zT _ _ _ _ _ _); refine zB rfl fun _ => ?_) | ((with_reducible show zH _ _ _ _ _ _ _); refine zC rfl omA omA ?_)) <;> simp [-qt, -qd, -ql, rgs]) | ((first | (with_reducible refine zE ?_ ?_) | (with_reducible refine zA ?_ ?_)) <;> intro qb <;> (have qp := qb; try simp only [psq] at qp) <;> simp [-qt, -qd, -ql, rgs, qb])
  refine zU [2, 3, 4, 7, 8, 9, 10, 11, 12, 13, 14, 15, 16, 17, 18, 19, 20] (t.length) (fun (i : Nat) a => [(7, .int .i64 i)]) (fun i_ a_ h_ _ => (fun i (_ : Unit) _ => uF (fun i n => i != 60 && zE9 n i) (t.drop i) i = zB2 t) i_ a_ h_) (()) (by simp) ?_ zP (Nat.le_refl _) ?_
  · simp [zB2]
  · intro i a tm h' n' hle hJ hE hn' next hnx
    try dsimp only at hJ
    have hK : KeepB nx h' h := KeepB.sub hE zK (by omega)
    simp [-qt, -qd, -ql]
    try simp [-qt, -qd, -ql, rgs]
    repeat' first | done | ((first | ((with_reducible show zT _ _ _ _ _ _); refine zB rfl fun _ => ?_) | ((with_reducible show zH _ _ _ _ _ _ _); refine zC rfl omA omA ?_) | ((with_reducible show zG _ _ _ 245 _ _); refine zD (c_isNode (by omega) (by omega)) ?_)) <;> simp [-qt, -qd, -ql, rgs]) | ((first | (with_reducible refine zE ?_ ?_) | (with_reducible refine zA ?_ ?_)) <;> intro qb <;> (have qp := qb; try simp only [psq] at qp) <;> simp [-qt, -qd, -ql, rgs, qb])
    all_goals
      first
      | (have hlt : i < t.length := (by first | omega | (simp at *; omega))
         rw [zS hlt] at hJ
         first
         | (refine hnx.go (()) ?_ ?_ ?_ ?_ ?_ ?_; omega; (simp [zM hlt hlim]); (simp); exact zK; (first | omega | (simp; omega)); (try dsimp only); clear hnx; first | ((try simp only [List.drop_length, Int.toNat_natCast, uF] at hJ ⊢); grind) | (simp_all [uF]; done) | (simp_all; omega))
         | (refine ⟨?_, zK⟩; clear hnx; first | ((try simp only [List.drop_length, Int.toNat_natCast, uF] at hJ ⊢); grind) | (simp_all [uF]; done) | (simp_all; omega)))
      | (obtain rfl : i = t.length := (by first | omega | (simp at *; omega))
         refine ⟨?_, zK⟩; clear hnx; first | ((try simp only [List.drop_length, Int.toNat_natCast, uF] at hJ ⊢); grind) | (simp_all [uF]; done) | (simp_all; omega))
theorem c_Index {p : Bool} {xs : List Int} {n : Int} : PC ctx.P 201 [.view p 1 (xs.map iv), .int .i64 n] (.int .i64 (yV (fun x => n == x) xs 0)) := by
  refine PC.lim (n := xs.length) (x := .view p 1 (xs.map iv)) (by simp) (.here (by simp)) ⟨_, Tryz.func201, by kernel_rfl, by kernel_rfl⟩ fun hlim => ?_
  refine PC.o okC Tryz.func201 rfl (.int _ _) fun h nx hnx => ?_
  try simp [-qt, -qd, -ql, rgs]
  repeat' first | done | ((first | ((with_reducible show zT _ _ _ _ _ _); refine zB rfl fun _ => ?_) | ((with_reducible show zH _ _ _ _ _ _ _); refine zC rfl omA omA ?_)) <;> simp [-qt, -qd, -ql, rgs]) | ((first | (with_reducible refine zA ?_ ?_)) <;> intro qb <;> (have qp := qb; try simp only [psq] at qp) <;> simp [-qt, -qd, -ql, rgs, qb])
  refine zU [4, 5, 8, 9, 10, 11, 12, 13, 14, 15, 16, 17, 18] (xs.length) (fun (i : Nat) a => [(8, .int .i64 i)]) (fun i_ a_ h_ _ => (fun i (_ : Unit) _ => yV (fun x => n == x) (xs.drop i) i = yV (fun x => n == x) xs 0) i_ a_ h_) (()) (by simp) ?_ zP (Nat.le_refl _) ?_
  · simp
  · intro i a tm h' n' hle hJ hE hn' next hnx
    try dsimp only at hJ
    have hK : KeepB nx h' h := KeepB.sub hE zK (by omega)
    simp [-qt, -qd, -ql]
    try simp [-qt, -qd, -ql, rgs, iv]
    repeat' first | done | ((first | ((with_reducible show zT _ _ _ _ _ _); refine zB rfl fun _ => ?_) | ((with_reducible show zH _ _ _ _ _ _ _); refine zC rfl omA omA ?_)) <;> simp [-qt, -qd, -ql, rgs, iv]) | ((first | (with_reducible refine zA ?_ ?_)) <;> intro qb <;> (have qp := qb; try simp only [psq] at qp) <;> simp [-qt, -qd, -ql, rgs, iv, qb])
    all_goals
      first
      | (have hlt : i < xs.length := (by first | omega | (simp at *; omega))
         rw [zS hlt] at hJ
         first
         | (refine hnx.go (()) ?_ ?_ ?_ ?_ ?_ ?_; omega; (simp [zM hlt hlim]); (simp); exact zK; (first | omega | (simp; omega)); (try dsimp only); clear hnx; first | ((try simp only [List.drop_length, Int.toNat_natCast, yV] at hJ ⊢); grind) | (simp_all [yV]; done) | (simp_all; omega))
         | (refine ⟨?_, zK⟩; clear hnx; first | ((try simp only [List.drop_length, Int.toNat_natCast, yV] at hJ ⊢); grind) | (simp_all [yV]; done) | (simp_all; omega)))
      | (obtain rfl : i = xs.length := (by first | omega | (simp at *; omega))
         refine ⟨?_, zK⟩; clear hnx; first | ((try simp only [List.drop_length, Int.toNat_natCast, yV] at hJ ⊢); grind) | (simp_all [yV]; done) | (simp_all; omega))
theorem c_Contains {p : Bool} {xs : List Int} {n : Int} : PC ctx.P 88 [.view p 1 (xs.map iv), .int .i64 n] (.bool (xs.contains n)) := by
  have e : decide (0 ≤ yV (fun x => n == x) xs 0) = xs.contains n := by rw [vP _ _ 0 (Int.le_refl 0), any_contains]
  refine PC.o okC Tryz.func88 rfl (.bool _) fun h nx hnx => ?_
  try simp [-qt, -qd, -ql, rgs, e]
  repeat' first | done | ((first | ((with_reducible show zG _ _ _ 201 _ _); refine zD (c_Index) ?_)) <;> simp [-qt, -qd, -ql, rgs, e])
theorem c_isEvent {p : Bool} {t : List Nod} {e : Evt} : PC ctx.P 342 [.agg (vK e), .view p 5 (t.map vE)] (.bool (uB t e)) := by
  refine PC.o okC Tryz.func342 rfl (.bool _) fun h nx hnx => ?_
  try simp [-qt, -qd, -ql, rgs, vK, vE]
  repeat' first | done | ((first | ((with_reducible show zH _ _ _ _ _ _ _); refine zC rfl omA omA ?_) | ((with_reducible show zG _ _ _ 172 _ _); refine zD (zC2) ?_) | ((with_reducible show zG _ _ _ 165 _ _); refine zD (vG) ?_) | ((with_reducible show zG _ _ _ 84 _ _); refine zD (c_IsDue) ?_) | (with_reducible refine zI (i := 8) [(0, [], []), (1, [], []), (2, [], []), (3, [], []), (4, [], []), (5, [], []), (6, [], []), (7, [], []), (8, [], []), (9, [], []), (10, [], []), (11, [], []), (12, [], []), (13, [], []), (14, [], []), (15, [], []), (16, [], []), (17, [], []), (18, [], [])] (by kernel_rfl) ?_)) <;> simp [-qt, -qd, -ql, rgs, vK, vE]) | ((first | (with_reducible refine zQ ?_ ?_) | (with_reducible refine zE ?_ ?_) | (with_reducible refine zA ?_ ?_)) <;> intro qb <;> (have qp := qb; try simp only [psq] at qp) <;> simp [-qt, -qd, -ql, rgs, vK, vE, qb])
  all_goals (try clear hnx)
  all_goals first | (simp_all [uB]; done) | (simp_all [uB]; omega) | (rw [Bool.eq_iff_iff]; simp_all [uB]; done) | (rw [Bool.eq_iff_iff]; simp_all [uB]; omega) | omega | (simp only [uB]; grind) | grind
theorem c_isSpread1 {p : Bool} {t : List Nod} {n : Int} : PC ctx.P 269 [.int .i64 n, .vptr [.view p 5 (t.map vE)]] (.bool (!vV n t)) := by
  refine PC.o okC Tryz.func269 rfl (.bool _) fun h nx hnx => ?_
  try simp [-qt, -qd, -ql, rgs]
  repeat' first | done | ((first | ((with_reducible show zG _ _ _ 172 _ _); refine zD (zC2) ?_)) <;> simp [-qt, -qd, -ql, rgs])
theorem c_isSpread {F : Nat → Bool} {p : Bool} {t : List Nod} {s : Spr} : PC ctx.P 163 [.agg (zE7 F s), .view p 5 (t.map vE)] (.bool (uN s t)) := by
  refine PC.o okC Tryz.func163 rfl (.bool _) fun h nx hnx => ?_
  try simp [-qt, -qd, -ql, rgs, zE7]
  repeat' first | done | ((first | ((with_reducible show zT _ _ _ _ _ _); refine zB rfl fun _ => ?_) | ((with_reducible show zG _ _ _ 268 _ _); refine yQ (uM (q := fun n => !vV n t) (fv := .fn 269 [.vptr [.view p 5 (t.map vE)]]) (fun x _ => c_isSpread1)) (by first | exact .bool _ | exact .int _ _ | exact .str _) (by repeat' first | exact Bors.nil | refine Bors.cons ?_ ?_ | exact Bor.same _ | refine Bor.fn1 ?_ | refine Bor.bnd1 ?_ | refine Bor.agg1 ?_ | refine Bor.ptr0 (by first | (simp; done) | (simp; rfl) | assumption | (simp [*]; done)) ?_ | refine Bor.ref0 (by first | (simp; done) | (simp; rfl) | (simp [iv, bv]; done)) (by simp) (by simp)) ?_)) <;> simp [-qt, -qd, -ql, rgs, zE7]) | ((first | (with_reducible refine zE ?_ ?_)) <;> intro qb <;> (have qp := qb; try simp only [psq] at qp) <;> simp [-qt, -qd, -ql, rgs, zE7, qb])
  all_goals (try clear hnx)
  all_goals first | (simp_all [uN]; done) | (simp_all [uN]; omega) | (rw [Bool.eq_iff_iff]; simp_all [uN]; done) | (rw [Bool.eq_iff_iff]; simp_all [uN]; omega) | omega | (simp only [uN]; grind) | grind
end Go.AE.Tryz
end

section
/- Contracts of the program's readers: tasks, groups, worlds. -/
set_option linter.unusedSimpArgs false
set_option linter.unusedVariables false
set_option maxRecDepth 8000
set_option maxHeartbeats 2000000
namespace Go.AE.Tryz
open Go.Proofs
open List renaming map_take → qt, map_drop → qd, map_tail → ql

theorem c_hasNode {n : Int} : PC ctx.P 340 [.int .i64 n] (.bool (zE8 n)) := by
  refine PC.o okC Tryz.func340 rfl (.bool _) fun h nx hnx => ?_
  try simp [-qt, -qd, -ql, rgs]
  repeat' first | done | ((first | ((with_reducible show zG _ _ _ 165 _ _); refine zD (vG) ?_)) <;> simp [-qt, -qd, -ql, rgs]) | ((first | (with_reducible refine zE ?_ ?_)) <;> intro qb <;> (have qp := qb; try simp only [psq] at qp) <;> simp [-qt, -qd, -ql, rgs, qb])
  all_goals (try clear hnx)
  all_goals first | (simp_all [zE8]; done) | (simp_all [zE8]; omega) | (rw [Bool.eq_iff_iff]; simp_all [zE8]; done) | (rw [Bool.eq_iff_iff]; simp_all [zE8]; omega) | omega | (simp only [zE8]; grind) | grind
theorem c_hasB {n : Int} : PC ctx.P 341 [.int .i64 n] (.bool (hasB n)) := by
  refine PC.o okC Tryz.func341 rfl (.bool _) fun h nx hnx => ?_
  try simp [-qt, -qd, -ql, rgs]
  repeat' first | done | ((first | (with_reducible refine zE ?_ ?_)) <;> intro qb <;> (have qp := qb; try simp only [psq] at qp) <;> simp [-qt, -qd, -ql, rgs, qb])
  all_goals (try clear hnx)
  all_goals first | (simp_all [hasB]; done) | (simp_all [hasB]; omega) | (rw [Bool.eq_iff_iff]; simp_all [hasB]; done) | (rw [Bool.eq_iff_iff]; simp_all [hasB]; omega) | omega | (simp only [hasB]; grind) | grind
theorem c_InsOk {x : Inn} : PC ctx.P 265 [.agg (vU x)] (.bool (zI3 x)) := by
  refine PC.o okC Tryz.func265 rfl (.bool _) fun h nx hnx => ?_
  try simp [-qt, -qd, -ql, rgs, vU]
  repeat' first | done | ((first | ((with_reducible show zG _ _ _ 340 _ _); refine zD (c_hasNode) ?_) | ((with_reducible show zG _ _ _ 341 _ _); refine zD (c_hasB) ?_) | ((with_reducible show zG _ _ _ 165 _ _); refine zD (vG) ?_)) <;> simp [-qt, -qd, -ql, rgs, vU]) | ((first | (with_reducible refine zE ?_ ?_) | (with_reducible refine zA ?_ ?_)) <;> intro qb <;> (have qp := qb; try simp only [psq] at qp) <;> simp [-qt, -qd, -ql, rgs, vU, qb])
  all_goals (try clear hnx)
  all_goals first | (simp_all [zI3]; done) | (simp_all [zI3]; omega) | (rw [Bool.eq_iff_iff]; simp_all [zI3]; done) | (rw [Bool.eq_iff_iff]; simp_all [zI3]; omega) | omega | (simp only [zI3]; grind) | grind
theorem c_ProgOk1 {x : Inn} : PC ctx.P 264 [.agg (vU x)] (.bool (!zI3 x)) := by
  refine PC.o okC Tryz.func264 rfl (.bool _) fun h nx hnx => ?_
  try simp [-qt, -qd, -ql, rgs]
  repeat' first | done | ((first | ((with_reducible show zG _ _ _ 265 _ _); refine zD (c_InsOk) ?_)) <;> simp [-qt, -qd, -ql, rgs])
theorem c_ProgOk {p : Bool} {l : List Inn} : PC ctx.P 161 [.view p 3 (l.map vU)] (.bool (zD2 l)) := by
  refine PC.o okC Tryz.func161 rfl (.bool _) fun h nx hnx => ?_
  try simp [-qt, -qd, -ql, rgs]
  repeat' first | done | ((first | ((with_reducible show zT _ _ _ _ _ _); refine zB rfl fun _ => ?_) | ((with_reducible show zG _ _ _ 263 _ _); refine zD (zM7 (q := fun x => !zI3 x) (fun x _ => c_ProgOk1)) ?_)) <;> simp [-qt, -qd, -ql, rgs]) | ((first | (with_reducible refine zE ?_ ?_)) <;> intro qb <;> (have qp := qb; try simp only [psq] at qp) <;> simp [-qt, -qd, -ql, rgs, qb])
  all_goals (try clear hnx)
  all_goals first | (simp_all [zD2]; done) | (simp_all [zD2]; omega) | (rw [Bool.eq_iff_iff]; simp_all [zD2]; done) | (rw [Bool.eq_iff_iff]; simp_all [zD2]; omega) | omega | (simp only [zD2]; grind) | grind
theorem c_TaskOk {t : Tsk} : PC ctx.P 285 [.agg (vQ t)] (.bool (zJ6 t)) := by
  refine PC.o okC Tryz.func285 rfl (.bool _) fun h nx hnx => ?_
  try simp [-qt, -qd, -ql, rgs, vQ]
  repeat' first | done | ((first | ((with_reducible show zG _ _ _ 165 _ _); refine zD (vG) ?_) | (with_reducible refine zI (i := 3) [(0, [], []), (1, [], []), (2, [], []), (3, [], []), (4, [], []), (5, [.tmp 34], []), (6, [], []), (7, [], []), (8, [], []), (9, [], []), (10, [], []), (11, [], []), (12, [], []), (13, [], []), (14, [], []), (15, [], []), (16, [], [])] (by kernel_rfl) ?_)) <;> simp [-qt, -qd, -ql, rgs, vQ]) | ((first | (with_reducible refine zQ ?_ ?_) | (with_reducible refine zE ?_ ?_) | (with_reducible refine zA ?_ ?_)) <;> intro qb <;> (have qp := qb; try simp only [psq] at qp) <;> simp [-qt, -qd, -ql, rgs, vQ, qb])
  all_goals (try clear hnx)
  all_goals first | (simp_all [zJ6]; done) | (simp_all [zJ6]; omega) | (rw [Bool.eq_iff_iff]; simp_all [zJ6]; done) | (rw [Bool.eq_iff_iff]; simp_all [zJ6]; omega) | omega | (simp only [zJ6]; grind) | grind
theorem c_TasksOk1 {t : Tsk} : PC ctx.P 284 [.agg (vQ t)] (.bool (!zJ6 t)) := by
  refine PC.o okC Tryz.func284 rfl (.bool _) fun h nx hnx => ?_
  try simp [-qt, -qd, -ql, rgs]
  repeat' first | done | ((first | ((with_reducible show zG _ _ _ 285 _ _); refine zD (c_TaskOk) ?_)) <;> simp [-qt, -qd, -ql, rgs])
theorem c_TasksOk {p : Bool} {l : List Tsk} : PC ctx.P 173 [.view p 9 (l.map vQ)] (.bool (zA1 l)) := by
  refine PC.o okC Tryz.func173 rfl (.bool _) fun h nx hnx => ?_
  try simp [-qt, -qd, -ql, rgs]
  repeat' first | done | ((first | ((with_reducible show zT _ _ _ _ _ _); refine zB rfl fun _ => ?_) | ((with_reducible show zG _ _ _ 283 _ _); refine zD (zF6 (q := fun x => !zJ6 x) (fun x _ => c_TasksOk1)) ?_)) <;> simp [-qt, -qd, -ql, rgs]) | ((first | (with_reducible refine zE ?_ ?_)) <;> intro qb <;> (have qp := qb; try simp only [psq] at qp) <;> simp [-qt, -qd, -ql, rgs, qb])
  all_goals (try clear hnx)
  all_goals first | (simp_all [zA1]; done) | (simp_all [zA1]; omega) | (rw [Bool.eq_iff_iff]; simp_all [zA1]; done) | (rw [Bool.eq_iff_iff]; simp_all [zA1]; omega) | omega | (simp only [zA1]; grind) | grind
theorem c_isAfter {a b : Int} : PC ctx.P 279 [.int .i64 a, .int .i64 b] (.bool (uO a b)) := by
  refine PC.o okC Tryz.func279 rfl (.bool _) fun h nx hnx => ?_
  try simp [-qt, -qd, -ql, rgs]
  repeat' first | done | ((first | ((with_reducible show zG _ _ _ 165 _ _); refine zD (vG) ?_)) <;> simp [-qt, -qd, -ql, rgs]) | ((first | (with_reducible refine zE ?_ ?_)) <;> intro qb <;> (have qp := qb; try simp only [psq] at qp) <;> simp [-qt, -qd, -ql, rgs, qb])
  all_goals (try clear hnx)
  all_goals first | (simp_all [uO]; done) | (simp_all [uO]; omega) | (rw [Bool.eq_iff_iff]; simp_all [uO]; done) | (rw [Bool.eq_iff_iff]; simp_all [uO]; omega) | omega | (simp only [uO]; grind) | grind
theorem c_afsAt1 {x : Afr} {h : Han} : PC ctx.P 351 [.agg (yI x), .vptr (uW h)] (.bool (x.han == h)) := by
  refine PC.o okC Tryz.func351 rfl (.bool _) fun h nx hnx => ?_
  try simp [-qt, -qd, -ql, rgs, yI, uW, han_eq, lfOf, uK, cellEq]
theorem c_afsAt {F : Nat → Bool} {a : Afs} {x : Han} : PC ctx.P 281 [.agg (vD F a), .agg (uW x)] (.int .i64 (afsAt a.list x)) := by
  refine PC.o okC Tryz.func281 rfl (.int _ _) fun h nx hnx => ?_
  try simp [-qt, -qd, -ql, rgs, vD, afsAt]
  repeat' first | done | ((first | ((with_reducible show zG _ _ _ 305 _ _); refine yQ (zH4 (q := fun y => y.han == x) (fv := .fn 351 [.vptr (uW x)]) (fun x _ => c_afsAt1)) (by first | exact .bool _ | exact .int _ _ | exact .str _) (by repeat' first | exact Bors.nil | refine Bors.cons ?_ ?_ | exact Bor.same _ | refine Bor.fn1 ?_ | refine Bor.bnd1 ?_ | refine Bor.agg1 ?_ | refine Bor.ptr0 (by first | (simp; done) | (simp; rfl) | assumption | (simp [*]; done)) ?_ | refine Bor.ref0 (by first | (simp; done) | (simp; rfl) | (simp [iv, bv]; done)) (by simp) (by simp)) ?_)) <;> simp [-qt, -qd, -ql, rgs, vD, afsAt])
theorem c_isTimer {F : Nat → Bool} {w : Wld} {t : Tmr} : PC ctx.P 168 [.agg (wldV F w), .agg (vN t)] (.bool (uR w t)) := by
  refine PC.o okC Tryz.func168 rfl (.bool _) fun h nx hnx => ?_
  try simp [-qt, -qd, -ql, rgs, wldV, vN]
  repeat' first | done | ((first | ((with_reducible show zG _ _ _ 172 _ _); refine zD (zC2) ?_) | ((with_reducible show zG _ _ _ 275 _ _); refine zD (c_isIn_Task) ?_)) <;> simp [-qt, -qd, -ql, rgs, wldV, vN]) | ((first | (with_reducible refine zA ?_ ?_)) <;> intro qb <;> (have qp := qb; try simp only [psq] at qp) <;> simp [-qt, -qd, -ql, rgs, wldV, vN, qb])
  all_goals (try clear hnx)
  all_goals first | (simp_all [uR]; done) | (simp_all [uR]; omega) | (rw [Bool.eq_iff_iff]; simp_all [uR]; done) | (rw [Bool.eq_iff_iff]; simp_all [uR]; omega) | omega | (simp only [uR]; grind) | grind
theorem c_isSight {F : Nat → Bool} {w : Wld} {s : Sgt} : PC ctx.P 179 [.agg (wldV F w), .agg (uP s)] (.bool (zB5 w s)) := by
  refine PC.o okC Tryz.func179 rfl (.bool _) fun h nx hnx => ?_
  try simp [-qt, -qd, -ql, rgs, wldV, uP]
  repeat' first | done | ((first | ((with_reducible show zG _ _ _ 172 _ _); refine zD (zC2) ?_) | ((with_reducible show zG _ _ _ 165 _ _); refine zD (vG) ?_) | ((with_reducible show zG _ _ _ 296 _ _); refine zD (c_size_Event) ?_) | (with_reducible refine zI (i := 1) [(0, [], []), (1, [], []), (2, [], []), (3, [], []), (4, [], []), (5, [], []), (6, [], []), (7, [], []), (8, [], []), (9, [], []), (10, [], []), (11, [.tmp 12], []), (12, [], []), (13, [], []), (14, [], [])] (by kernel_rfl) ?_)) <;> simp [-qt, -qd, -ql, rgs, wldV, uP]) | ((first | (with_reducible refine zQ ?_ ?_) | (with_reducible refine zE ?_ ?_) | (with_reducible refine zA ?_ ?_)) <;> intro qb <;> (have qp := qb; try simp only [psq] at qp) <;> simp [-qt, -qd, -ql, rgs, wldV, uP, qb])
  all_goals (try clear hnx)
  all_goals first | (simp_all [zB5]; done) | (simp_all [zB5]; omega) | (rw [Bool.eq_iff_iff]; simp_all [zB5]; done) | (rw [Bool.eq_iff_iff]; simp_all [zB5]; omega) | omega | (simp only [zB5]; grind) | grind
theorem c_isTask {F : Nat → Bool} {w : Wld} {t : Tsk} : PC ctx.P 175 [.agg (wldV F w), .agg (vQ t)] (.bool (zC6 w t)) := by
  refine PC.lim (n := w.groups.length) (x := .agg (wldV F w)) (by simp) (.agg (x := .view (F 12) 5 (w.groups.map (vA (F 13)))) (by simp [wldV]) (.here (by simp))) ⟨_, Tryz.func175, by kernel_rfl, by kernel_rfl⟩ fun hlim => ?_
  refine PC.o okC Tryz.func175 rfl (.bool _) fun h nx hnx => ?_
  try simp [-qt, -qd, -ql, rgs, wldV, vQ, zB6, yC hlim]
  repeat' first | done | ((first | ((with_reducible show zH _ _ _ _ _ _ _); refine zC rfl omA omA ?_) | ((with_reducible show zG _ _ _ 287 _ _); refine zD (c_isIn_Prog) ?_) | ((with_reducible show zG _ _ _ 79 _ _); refine zD (c_size_Ins) ?_) | ((with_reducible show zG _ _ _ 288 _ _); refine zD (c_size_Group) ?_) | ((with_reducible show zG _ _ _ 165 _ _); refine zD (vG) ?_) | ((with_reducible show zG _ _ _ 172 _ _); refine zD (zC2) ?_) | ((with_reducible show zG _ _ _ 289 _ _); refine zD (c_isIn_Group) ?_) | (with_reducible refine zI (i := 1) [(0, [], []), (1, [], []), (2, [], []), (3, [], []), (4, [], []), (5, [], []), (6, [], []), (7, [], []), (8, [], []), (9, [], []), (10, [], []), (11, [], []), (12, [], []), (13, [], []), (14, [], []), (15, [.tmp 12], []), (16, [], []), (17, [], []), (18, [], []), (19, [], []), (20, [], []), (21, [], []), (22, [], []), (23, [.tmp 24], []), (24, [], []), (25, [], []), (26, [], []), (27, [], [])] (by kernel_rfl) ?_)) <;> simp [-qt, -qd, -ql, rgs, wldV, vQ, zB6, yC hlim]) | ((first | (with_reducible refine zQ ?_ ?_) | (with_reducible refine zA ?_ ?_)) <;> intro qb <;> (have qp := qb; try simp only [psq] at qp) <;> simp [-qt, -qd, -ql, rgs, wldV, vQ, zB6, yC hlim, qb])
  all_goals (try clear hnx)
  all_goals first | (simp_all [zC6]; done) | (simp_all [zC6]; omega) | (rw [Bool.eq_iff_iff]; simp_all [zC6]; done) | (rw [Bool.eq_iff_iff]; simp_all [zC6]; omega) | omega | (simp only [zC6]; grind) | grind
theorem c_isGroup1 {F : Nat → Bool} {w : Wld} {n : Int} : PC ctx.P 293 [.int .i64 n, .vptr (wldV F w)] (.bool (!vV n w.tasks)) := by
  refine PC.o okC Tryz.func293 rfl (.bool _) fun h nx hnx => ?_
  try simp [-qt, -qd, -ql, rgs, wldV]
  repeat' first | done | ((first | ((with_reducible show zG _ _ _ 275 _ _); refine zD (c_isIn_Task) ?_)) <;> simp [-qt, -qd, -ql, rgs, wldV])
theorem c_WorldOk1 {F : Nat → Bool} {w : Wld} {e : Evt} : PC ctx.P 164 [.agg (vK e), .vptr (wldV F w)] (.bool (inR e.time 0 w.now)) := by
  refine PC.o okC Tryz.func164 rfl (.bool _) fun h nx hnx => ?_
  try simp [-qt, -qd, -ql, rgs, wldV, vK]
  repeat' first | done | ((first | ((with_reducible show zG _ _ _ 165 _ _); refine zD (vG) ?_)) <;> simp [-qt, -qd, -ql, rgs, wldV, vK])
theorem c_WorldOk2 {F : Nat → Bool} {w : Wld} {x : Afr} : PC ctx.P 171 [.agg (yI x), .vptr (wldV F w)] (.bool (vV x.node w.tree)) := by
  refine PC.o okC Tryz.func171 rfl (.bool _) fun h nx hnx => ?_
  try simp [-qt, -qd, -ql, rgs, wldV, yI]
  repeat' first | done | ((first | ((with_reducible show zG _ _ _ 172 _ _); refine zD (zC2) ?_)) <;> simp [-qt, -qd, -ql, rgs, wldV, yI])
theorem c_WorldOk3 {n : Int} : PC ctx.P 181 [.int .i64 n] (.bool (inR n 0 99)) := by
  refine PC.o okC Tryz.func181 rfl (.bool _) fun h nx hnx => ?_
  try simp [-qt, -qd, -ql, rgs]
  repeat' first | done | ((first | ((with_reducible show zG _ _ _ 165 _ _); refine zD (vG) ?_)) <;> simp [-qt, -qd, -ql, rgs])
theorem c_WorldOk4 {n : Int} : PC ctx.P 182 [.int .i64 n] (.bool (inR n 0 99)) := by
  refine PC.o okC Tryz.func182 rfl (.bool _) fun h nx hnx => ?_
  try simp [-qt, -qd, -ql, rgs]
  repeat' first | done | ((first | ((with_reducible show zG _ _ _ 165 _ _); refine zD (vG) ?_)) <;> simp [-qt, -qd, -ql, rgs])
end Go.AE.Tryz
end

section
/- Contracts of the program's readers: timers, chains, events. -/
set_option linter.unusedSimpArgs false
set_option linter.unusedVariables false
set_option maxRecDepth 8000
set_option maxHeartbeats 2000000
namespace Go.AE.Tryz
open Go.Proofs
open List renaming map_take → qt, map_drop → qd, map_tail → ql

theorem c_TimersOk {F : Nat → Bool} {t : Tms} : PC ctx.P 166 [.agg (uT F t)] (.bool (uV t)) := by
  refine PC.lim (n := t.list.length) (x := .agg (uT F t)) (by simp) (.agg (x := .view (F 7) 5 (t.list.map vN)) (by simp [uT]) (.here (by simp))) ⟨_, Tryz.func166, by kernel_rfl, by kernel_rfl⟩ fun hlim => ?_
  refine PC.o okC Tryz.func166 rfl (.bool _) fun h nx hnx => ?_
  try simp [-qt, -qd, -ql, rgs, uT]
  repeat' first | done | ((first | ((with_reducible show zT _ _ _ _ _ _); refine zB rfl fun _ => ?_) | ((with_reducible show zH _ _ _ _ _ _ _); refine zC rfl omA omA ?_) | ((with_reducible show zG _ _ _ 165 _ _); refine zD (vG) ?_) | ((with_reducible show zG _ _ _ 270 _ _); refine zD (c_HeapOk) ?_)) <;> simp [-qt, -qd, -ql, rgs, uT]) | ((first | (with_reducible refine zE ?_ ?_) | (with_reducible refine zA ?_ ?_)) <;> intro qb <;> (have qp := qb; try simp only [psq] at qp) <;> simp [-qt, -qd, -ql, rgs, uT, qb])
  · all_goals (try clear hnx)
    all_goals first | (simp_all [uV]; done) | (simp_all [uV]; omega) | (rw [Bool.eq_iff_iff]; simp_all [uV]; done) | (rw [Bool.eq_iff_iff]; simp_all [uV]; omega) | omega | (simp only [uV]; grind) | grind
  · all_goals (try clear hnx)
    all_goals first | (simp_all [uV]; done) | (simp_all [uV]; omega) | (rw [Bool.eq_iff_iff]; simp_all [uV]; done) | (rw [Bool.eq_iff_iff]; simp_all [uV]; omega) | omega | (simp only [uV]; grind) | grind
  · all_goals (try clear hnx)
    all_goals first | (simp_all [uV]; done) | (simp_all [uV]; omega) | (rw [Bool.eq_iff_iff]; simp_all [uV]; done) | (rw [Bool.eq_iff_iff]; simp_all [uV]; omega) | omega | (simp only [uV]; grind) | grind
  · refine zU [2, 3, 4, 6, 26, 27, 28, 29, 30, 31, 32, 33, 34, 35, 36, 37, 38, 39, 40, 41, 42, 43, 44, 45, 46, 47, 48, 49, 50, 51, 52, 53, 54, 55, 56, 57, 58, 59] (t.list.length) (fun (i : Nat) a => [(26, .int .i64 i), (3, .int .i64 a.1), (4, .int .i64 a.2)]) (fun i_ a_ h_ _ => (fun i (a : Int × Int) _ => zE0 t.next (t.list.drop i) a.1 = zE0 t.next t.list (-1) ∧ a.2 + cntB (·.armed) (t.list.drop i) = cntB (·.armed) t.list ∧ 0 ≤ a.2 ∧ a.2 ≤ i) i_ a_ h_) ((-1, 0)) (by simp) ?_ zP (Nat.le_refl _) ?_
    · simp
    · intro i a tm h' n' hle hJ hE hn' next hnx
      try dsimp only at hJ
      have hK : KeepB nx h' h := KeepB.sub hE zK (by omega)
      simp [-qt, -qd, -ql]
      have e1 : h' (nx) = some (.obj (uT F t)) := by have := hE (nx) (by omega); simpa [uT] using this
      have e1n : ∀ k, ((nx) = n' + k) = False := fun k => by simp only [eq_iff_iff, iff_false]; omega
      have e1m : ((nx) = n') = False := by simp only [eq_iff_iff, iff_false]; omega
      try simp [-qt, -qd, -ql, rgs, uT, vN, e1, e1n, e1m]
      repeat' first | done | ((first | ((with_reducible show zT _ _ _ _ _ _); refine zB rfl fun _ => ?_) | ((with_reducible show zH _ _ _ _ _ _ _); refine zC rfl omA omA ?_) | ((with_reducible show zG _ _ _ 165 _ _); refine zD (vG) ?_) | ((with_reducible show zG _ _ _ 271 _ _); refine yQ (zK8 (q := fun h => decide (zF9 t.list h.seq < 0) || (!(gt t.list (zF9 t.list h.seq)).armed || (gt t.list (zF9 t.list h.seq)).due != h.due)) (fv := .fn 272 [.vptr (uT F t)]) (fun x _ => c_TimersOk1)) (by first | exact .bool _ | exact .int _ _ | exact .str _) (by repeat' first | exact Bors.nil | refine Bors.cons ?_ ?_ | exact Bor.same _ | refine Bor.fn1 ?_ | refine Bor.bnd1 ?_ | refine Bor.agg1 ?_ | refine Bor.ptr0 (by first | (simp; done) | (simp; rfl) | assumption | (simp [*]; done)) ?_ | refine Bor.ref0 (by first | (simp; done) | (simp; rfl) | (simp [iv, bv]; done)) (by simp) (by simp)) ?_)) <;> simp [-qt, -qd, -ql, rgs, uT, vN, e1, e1n, e1m]) | ((first | (with_reducible refine zE ?_ ?_) | (with_reducible refine zA ?_ ?_)) <;> intro qb <;> (have qp := qb; try simp only [psq] at qp) <;> simp [-qt, -qd, -ql, rgs, uT, vN, e1, e1n, e1m, qb])
      all_goals
        first
        | (have hlt : i < t.list.length := (by omega)
           rw [zS hlt] at hJ
           first
           | (refine ⟨?_, zK⟩; clear hnx; (try simp only [zE0, uV, zL9, cntB_nil] at hJ ⊢); grind)
           | skip)
        | skip
      · simp only [LIM] at hlim
        refine hnx.go ((gt t.list (i : Int)).seq, a.2 + 1) ?_ ?_ ?_ ?_ ?_ ?_
        · omega
        · simp [zF (x := (i : Int) + 1) (by omega), zF (x := a.2 + 1) (by omega)]
        · simp
        · exact zK
        · first | omega | (simp; omega)
        dsimp only
        simp only [zE0, zL9] at hJ
        grind
      · simp only [LIM] at hlim
        refine hnx.go ((gt t.list (i : Int)).seq, a.2) ?_ ?_ ?_ ?_ ?_ ?_
        · omega
        · simp [zF (x := (i : Int) + 1) (by omega)]
        · simp
        · exact zK
        · first | omega | (simp; omega)
        dsimp only
        simp only [zE0, zL9] at hJ
        grind
      all_goals
        obtain rfl : i = t.list.length := (by omega)
        refine ⟨?_, zK⟩
        simp only [List.drop_length, zE0, uV, cntB_nil] at hJ ⊢
        grind
theorem c_chain {p : Bool} {t : List Nod} {n : Int} (ht : zB2 t = true) (h0 : 0 ≤ n) (h1 : n < t.length) : PC ctx.P 198 [.view p 5 (t.map vE), .int .i64 n] (.view true 1 ((zH0 t n).map iv)) := by
  have hl60 := treeOk_len ht
  refine PC.o okC Tryz.func198 rfl (.vmap zC3) fun h nx hnx => ?_
  try simp [-qt, -qd, -ql, rgs]
  repeat' first | done | ((first | ((with_reducible show zH _ _ _ _ _ _ _); refine zC rfl omA omA ?_) | ((with_reducible show zC9 _ _ _ _ _ _ _ _); refine zW rfl rfl (by decide) (by decide) (by first | (simp [-qt, -qd, -ql, rgs]; done) | (simp [-qt, -qd, -ql, rgs]; rfl)) (by first | (simp [-qt, -qd, -ql, rgs]; done) | (simp [-qt, -qd, -ql, rgs]; rfl)) (by first | (simp; done) | (simp; omega)) (by first | (simp only [yK, LIM] at *; simp; omega) | (simp only [yK]; simp; omega)) (by simp [iv, bv]) ?_)) <;> simp [-qt, -qd, -ql, rgs]) | ((first | (with_reducible refine zE ?_ ?_) | (with_reducible refine zA ?_ ?_)) <;> intro qb <;> (have qp := qb; try simp only [psq] at qp) <;> simp [-qt, -qd, -ql, rgs, qb])
  refine go_dnP (h0 := h) (nx0 := nx) [1, 5, 8, 9, 10, 11, 12, 13, 14, 15, 16, 17, 18, 19, 20, 21, 22, 23, 24, 25, 26, 27, 28, 29, 30] (fun a => [(1, .int .i64 a.1), (5, .ref a.2.2 1 0 (a.2.1.length + 1))]) (fun a => a.1.toNat) (fun (a : Int × List Int × Nat) h' n' => 0 ≤ a.1 ∧ a.1 < t.length ∧ nx ≤ a.2.2 ∧ h' a.2.2 = some (.row 1 ((a.2.1 ++ [a.1]).map iv)) ∧ a.2.1 ++ zH0 t a.1 = zH0 t n ∧ (a.2.1.length : Int) + a.1 ≤ n ∧ a.2.2 < n') ((n, [], nx + 2)) (by simp) ?_ zK (by omega) ?_
  · simp [h0, h1, iv]
  · intro a tm h' n' hJ hE hn' next hnx
    try dsimp only at hJ
    have hK : KeepB nx h' h := KeepB.sub hE zK (by omega)
    obtain ⟨m, pre, id⟩ := a
    obtain ⟨g0, g1, g2, g3, g4, g5, g6⟩ := hJ
    dsimp only at g0 g1 g2 g3 g4 g5 g6 ⊢
    have hs := chain_step ht g0 g1
    have hu := zG6 ht g0 g1
    have k1 : ∀ k, (id = n' + k) = False := fun k => by simp only [eq_iff_iff, iff_false]; omega
    try simp [-qt, -qd, -ql, rgs, vE, g3, k1, iv]
    repeat' first | done | ((first | ((with_reducible show zH _ _ _ _ _ _ _); refine zC rfl omA omA ?_) | ((with_reducible show zC9 _ _ _ _ _ _ _ _); refine zW rfl rfl (by decide) (by decide) (by first | (simp [-qt, -qd, -ql, rgs, vE, g3, k1, iv]; done) | (simp [-qt, -qd, -ql, rgs, vE, g3, k1, iv]; rfl)) (by first | (simp [-qt, -qd, -ql, rgs, vE, g3, k1, iv]; done) | (simp [-qt, -qd, -ql, rgs, vE, g3, k1, iv]; rfl)) (by first | (simp; done) | (simp; omega)) (by first | (simp only [yK, LIM] at *; simp; omega) | (simp only [yK]; simp; omega)) (by simp [iv, bv]) ?_)) <;> simp [-qt, -qd, -ql, rgs, vE, g3, k1, iv]) | ((first | (with_reducible refine zE ?_ ?_) | (with_reducible refine zA ?_ ?_)) <;> intro qb <;> (have qp := qb; try simp only [psq] at qp) <;> simp [-qt, -qd, -ql, rgs, vE, g3, k1, iv, qb])
    · have hk : (gt t m).kind ≠ 0 := by omega
      have hu' := hu hk
      refine hnx.go ((gt t m).up, pre ++ [m], n' + 23) ?_ ?_ ?_ ?_ ?_ ?_
      · simp; omega
      · simp
      · simp
      · exact zK
      · first | omega | (simp; omega)
      dsimp only
      refine ⟨by omega, by omega, by omega, by simp [iv], ?_, by simp; omega, by simp⟩
      rw [if_neg (by simp; omega)] at hs
      rw [← g4, hs]; simp
    all_goals
      refine ⟨?_, zK⟩
      rw [if_pos (by simp; omega)] at hs
      rw [← g4, hs, List.take_of_length_le (by simp)]; simp [iv]

theorem c_firstOf {p q : Bool} {t : List Nod} {l : List Evt} {n : Int} (ht : zB2 t = true) (h0 : 0 ≤ n) (h1 : n < t.length) :
    PC ctx.P 91 [.view p 5 (t.map vE), .view q 4 (l.map vK), .int .i64 n] (.tup [.agg (vK ((zG0 t l n).getD ⟨0, 0, 0, 0⟩)), .bool (zG0 t l n).isSome]) := by
  refine PC.lim (n := l.length) (x := .view q 4 (l.map vK)) (by simp) (.here (by simp)) ⟨_, Tryz.func91, by kernel_rfl, by kernel_rfl⟩ fun hlim => ?_
  refine PC.o okC Tryz.func91 rfl (.tup _ (by simp; exact .agg _ (zK5 _))) fun h nx hnx => ?_
  try simp [-qt, -qd, -ql, rgs]
  repeat' first | done | ((first | ((with_reducible show zT _ _ _ _ _ _); refine zB rfl fun _ => ?_) | ((with_reducible show zH _ _ _ _ _ _ _); refine zC rfl omA omA ?_) | ((with_reducible show zG _ _ _ 198 _ _); refine zD (c_chain ht h0 h1) ?_)) <;> simp [-qt, -qd, -ql, rgs]) | ((first | (with_reducible refine zA ?_ ?_)) <;> intro qb <;> (have qp := qb; try simp only [psq] at qp) <;> simp [-qt, -qd, -ql, rgs, qb])
  refine zU [7, 10, 16, 17, 18, 19, 20, 21, 22, 23, 24, 25] (l.length) (fun (i : Nat) a => [(16, .int .i64 i)]) (fun i_ a_ h_ _ => (fun i (_ : Unit) _ => (l.drop i).find? (fun e => (zH0 t n).contains e.node) = zG0 t l n) i_ a_ h_) (()) (by simp) ?_ zP (Nat.le_refl _) ?_
  · simp [zG0]
  · intro i a tm h' n' hle hJ hE hn' next hnx
    try dsimp only at hJ
    have hK : KeepB nx h' h := KeepB.sub hE zK (by omega)
    simp [-qt, -qd, -ql]
    have e1 : h' (nx) = some (.obj [.int .i64 0, .int .i64 0, .int .i64 0, .int .i64 0]) := by have := hE (nx) (by omega); simpa using this
    have e1n : ∀ k, ((nx) = n' + k) = False := fun k => by simp only [eq_iff_iff, iff_false]; omega
    have e1m : ((nx) = n') = False := by simp only [eq_iff_iff, iff_false]; omega
    try simp [-qt, -qd, -ql, rgs, vK, e1, e1n, e1m]
    repeat' first | done | ((first | ((with_reducible show zT _ _ _ _ _ _); refine zB rfl fun _ => ?_) | ((with_reducible show zH _ _ _ _ _ _ _); refine zC rfl omA omA ?_) | ((with_reducible show zG _ _ _ 88 _ _); refine zD (c_Contains) ?_)) <;> simp [-qt, -qd, -ql, rgs, vK, e1, e1n, e1m]) | ((first | (with_reducible refine zA ?_ ?_)) <;> intro qb <;> (have qp := qb; try simp only [psq] at qp) <;> simp [-qt, -qd, -ql, rgs, vK, e1, e1n, e1m, qb])
    · have hf : zG0 t l n = some (gt l i) := by rw [zS (xs := l) (i := i) (by omega), List.find?_cons] at hJ; simpa [qp] using hJ.symm
      refine ⟨by simp [hf], zK⟩
    · have hf : (l.drop (i + 1)).find? (fun e => (zH0 t n).contains e.node) = zG0 t l n := by rw [zS (xs := l) (i := i) (by omega), List.find?_cons] at hJ; simpa [qp] using hJ
      refine hnx.go () ?_ ?_ ?_ ?_ ?_ ?_
      · omega
      · simp [zM (show i < l.length by omega) hlim]
      · simp
      · exact zK
      · first | omega | (simp; omega)
      exact hf
    · have hf : zG0 t l n = none := by rw [← hJ, List.drop_eq_nil_of_le (by omega)]; rfl
      refine ⟨by simp [hf], zK⟩

theorem c_fits {p q : Bool} {t : List Nod} {l : List Evt} {e : Evt} (ht : zB2 t = true) : PC ctx.P 267 [.agg (vK e), .view p 5 (t.map vE), .view q 4 (l.map vK)] (.bool (fits t l e)) := by
  refine PC.lim (n := l.length) (x := .view q 4 (l.map vK)) (by simp) (.here (by simp)) ⟨_, Tryz.func267, by kernel_rfl, by kernel_rfl⟩ fun hlim => ?_
  by_cases hev : uB t e = true
  · have hb : 0 ≤ e.node ∧ e.node < t.length := by
      unfold uB at hev; split at hev
      · cases hev
      · rename_i h2; simpa [zM4] using h2
    refine PC.o okC Tryz.func267 rfl (.bool _) fun h nx hnx => ?_
    try simp [-qt, -qd, -ql, rgs, vK, yC hlim, hev]
    repeat' first | done | ((first | ((with_reducible show zT _ _ _ _ _ _); refine zB rfl fun _ => ?_) | ((with_reducible show zH _ _ _ _ _ _ _); refine zC rfl omA omA ?_) | ((with_reducible show zG _ _ _ 342 _ _); refine zD (c_isEvent (e := e)) ?_) | ((with_reducible show zG _ _ _ 91 _ _); refine zD (c_firstOf ht hb.1 hb.2) ?_) | (with_reducible refine zI (i := 1) [(0, [], []), (1, [], []), (2, [], []), (3, [], []), (4, [], []), (5, [], []), (6, [], []), (7, [], []), (8, [], []), (9, [], []), (10, [], []), (11, [], []), (12, [], []), (13, [], []), (14, [], []), (15, [], []), (16, [], []), (17, [], []), (18, [], []), (19, [], []), (20, [], [])] (by kernel_rfl) ?_)) <;> simp [-qt, -qd, -ql, rgs, vK, yC hlim, hev]) | ((first | (with_reducible refine zQ ?_ ?_) | (with_reducible refine zA ?_ ?_)) <;> intro qb <;> (have qp := qb; try simp only [psq] at qp) <;> simp [-qt, -qd, -ql, rgs, vK, yC hlim, hev, qb])
    all_goals (try clear hnx)
    all_goals first | (simp_all [fits]; done) | (simp_all [fits]; omega) | (rw [Bool.eq_iff_iff]; simp_all [fits]; done) | (rw [Bool.eq_iff_iff]; simp_all [fits]; omega) | omega | (simp only [fits]; grind) | grind
  · refine PC.o okC Tryz.func267 rfl (.bool _) fun h nx hnx => ?_
    try simp [-qt, -qd, -ql, rgs, vK, hev]
    repeat' first | done | ((first | ((with_reducible show zT _ _ _ _ _ _); refine zB rfl fun _ => ?_) | ((with_reducible show zH _ _ _ _ _ _ _); refine zC rfl omA omA ?_) | ((with_reducible show zG _ _ _ 342 _ _); refine zD (c_isEvent (e := e)) ?_) | (with_reducible refine zI (i := 1) [(0, [], []), (1, [], []), (2, [], []), (3, [], []), (4, [], []), (5, [], []), (6, [], []), (7, [], []), (8, [], []), (9, [], []), (10, [], []), (11, [], []), (12, [], []), (13, [], []), (14, [], []), (15, [], []), (16, [], []), (17, [], []), (18, [], []), (19, [], []), (20, [], [])] (by kernel_rfl) ?_)) <;> simp [-qt, -qd, -ql, rgs, vK, hev]) | ((first | (with_reducible refine zQ ?_ ?_) | (with_reducible refine zA ?_ ?_)) <;> intro qb <;> (have qp := qb; try simp only [psq] at qp) <;> simp [-qt, -qd, -ql, rgs, vK, hev, qb])
    all_goals (try clear hnx)
    all_goals first | (simp_all [fits]; done) | (simp_all [fits]; omega) | (rw [Bool.eq_iff_iff]; simp_all [fits]; done) | (rw [Bool.eq_iff_iff]; simp_all [fits]; omega) | omega | (simp only [fits]; grind) | grind
end Go.AE.Tryz
end

section
/- Contracts of the program's readers: events, worlds. -/
set_option linter.unusedSimpArgs false
set_option linter.unusedVariables false
set_option maxRecDepth 8000
set_option maxHeartbeats 2000000
namespace Go.AE.Tryz
open Go.Proofs
open List renaming map_take → qt, map_drop → qd, map_tail → ql

theorem c_EventsOk {p q : Bool} {t : List Nod} {l : List Evt} : PC ctx.P 162 [.view p 5 (t.map vE), .view q 4 (l.map vK)] (.bool (yR t l)) := by
  refine PC.lim (n := l.length) (x := .view q 4 (l.map vK)) (by simp) (.here (by simp)) ⟨_, Tryz.func162, by kernel_rfl, by kernel_rfl⟩ fun hlim => ?_
  by_cases ht : zB2 t = true
  · refine PC.o okC Tryz.func162 rfl (.bool _) fun h nx hnx => ?_
    try simp [-qt, -qd, -ql, rgs, ht]
    repeat' first | done | ((first | ((with_reducible show zT _ _ _ _ _ _); refine zB rfl fun _ => ?_) | ((with_reducible show zH _ _ _ _ _ _ _); refine zC rfl omA omA ?_) | ((with_reducible show yA _ _ _ _ _ _ _ _); refine vJ rfl omA omA ?_) | ((with_reducible show yA _ _ _ _ _ _ _ _); refine yO rfl omA omA ?_) | ((with_reducible show yA _ _ _ _ _ _ _ _); refine yY rfl omA omA omA ?_) | ((with_reducible show yE _ _ _ _ _ _ _ _ _ _ _); refine vC rfl omA omA ?_) | ((with_reducible show yE _ _ _ _ _ _ _ _ _ _ _); refine yL rfl omA omA ?_) | ((with_reducible show yE _ _ _ _ _ _ _ _ _ _ _); refine yU rfl omA omA omA ?_) | ((with_reducible show zG _ _ _ 266 _ _); refine zD (c_TreeOk) ?_) | (with_reducible refine zI (i := 6) [(0, [], []), (1, [], []), (2, [], []), (3, [], []), (4, [], []), (5, [], []), (6, [], [])] (by kernel_rfl) ?_)) <;> simp [-qt, -qd, -ql, rgs, ht]) | ((first | (with_reducible refine zA ?_ ?_)) <;> intro qb <;> (have qp := qb; try simp only [psq] at qp) <;> simp [-qt, -qd, -ql, rgs, ht, qb])
    refine zU [4, 5, 6, 12, 13, 14, 15, 16, 17, 18, 19, 20, 21, 22, 23, 24] (l.length) (fun (i : Nat) a => [(12, .int .i64 i)]) (fun i_ a_ h_ _ => (fun i (_ : Unit) _ => uF (fun i e => fits t (l.take i.toNat) e) (l.drop i) i = uF (fun i e => fits t (l.take i.toNat) e) l 0) i_ a_ h_) (()) (by simp) ?_ zP (Nat.le_refl _) ?_
    · simp
    · intro i a tm h' n' hle hJ hE hn' next hnx
      try dsimp only at hJ
      have hK : KeepB nx h' h := KeepB.sub hE zK (by omega)
      simp [-qt, -qd, -ql]
      try simp [-qt, -qd, -ql, rgs]
      repeat' first | done | ((first | ((with_reducible show zT _ _ _ _ _ _); refine zB rfl fun _ => ?_) | ((with_reducible show zH _ _ _ _ _ _ _); refine zC rfl omA omA ?_) | ((with_reducible show yA _ _ _ _ _ _ _ _); refine vJ rfl omA omA ?_) | ((with_reducible show yA _ _ _ _ _ _ _ _); refine yO rfl omA omA ?_) | ((with_reducible show yA _ _ _ _ _ _ _ _); refine yY rfl omA omA omA ?_) | ((with_reducible show yE _ _ _ _ _ _ _ _ _ _ _); refine vC rfl omA omA ?_) | ((with_reducible show yE _ _ _ _ _ _ _ _ _ _ _); refine yL rfl omA omA ?_) | ((with_reducible show yE _ _ _ _ _ _ _ _ _ _ _); refine yU rfl omA omA omA ?_) | ((with_reducible show zG _ _ _ 267 _ _); refine zD (c_fits ht) ?_) | (with_reducible refine zI (i := 6) [(0, [], []), (1, [], []), (2, [], []), (3, [], []), (4, [], []), (5, [], []), (6, [], [])] (by kernel_rfl) ?_)) <;> simp [-qt, -qd, -ql, rgs]) | ((first | (with_reducible refine zA ?_ ?_)) <;> intro qb <;> (have qp := qb; try simp only [psq] at qp) <;> simp [-qt, -qd, -ql, rgs, qb])
      all_goals
        first
        | (have hlt : i < l.length := (by first | omega | (simp at *; omega))
           rw [zS hlt] at hJ
           first
           | (refine hnx.go (()) ?_ ?_ ?_ ?_ ?_ ?_; omega; (simp [zM hlt hlim]); (simp); exact zK; (first | omega | (simp; omega)); (try dsimp only); clear hnx; first | ((try simp only [List.drop_length, Int.toNat_natCast, uF, yR] at hJ ⊢); grind) | (simp_all [uF, yR]; done) | (simp_all; omega))
           | (refine ⟨?_, zK⟩; clear hnx; first | ((try simp only [List.drop_length, Int.toNat_natCast, uF, yR] at hJ ⊢); grind) | (simp_all [uF, yR]; done) | (simp_all; omega)))
        | (obtain rfl : i = l.length := (by first | omega | (simp at *; omega))
           refine ⟨?_, zK⟩; clear hnx; first | ((try simp only [List.drop_length, Int.toNat_natCast, uF, yR] at hJ ⊢); grind) | (simp_all [uF, yR]; done) | (simp_all; omega))
  · refine PC.o okC Tryz.func162 rfl (.bool _) fun h nx hnx => ?_
    try simp [-qt, -qd, -ql, rgs, ht]
    repeat' first | done | ((first | ((with_reducible show zT _ _ _ _ _ _); refine zB rfl fun _ => ?_) | ((with_reducible show zH _ _ _ _ _ _ _); refine zC rfl omA omA ?_) | ((with_reducible show yA _ _ _ _ _ _ _ _); refine vJ rfl omA omA ?_) | ((with_reducible show yA _ _ _ _ _ _ _ _); refine yO rfl omA omA ?_) | ((with_reducible show yA _ _ _ _ _ _ _ _); refine yY rfl omA omA omA ?_) | ((with_reducible show yE _ _ _ _ _ _ _ _ _ _ _); refine vC rfl omA omA ?_) | ((with_reducible show yE _ _ _ _ _ _ _ _ _ _ _); refine yL rfl omA omA ?_) | ((with_reducible show yE _ _ _ _ _ _ _ _ _ _ _); refine yU rfl omA omA omA ?_) | ((with_reducible show zG _ _ _ 266 _ _); refine zD (c_TreeOk) ?_) | (with_reducible refine zI (i := 6) [(0, [], []), (1, [], []), (2, [], []), (3, [], []), (4, [], []), (5, [], []), (6, [], [])] (by kernel_rfl) ?_)) <;> simp [-qt, -qd, -ql, rgs, ht]) | ((first | (with_reducible refine zA ?_ ?_)) <;> intro qb <;> (have qp := qb; try simp only [psq] at qp) <;> simp [-qt, -qd, -ql, rgs, ht, qb])
    all_goals (try clear hnx)
    all_goals first | (simp_all [yR]; done) | (simp_all [yR]; omega) | (rw [Bool.eq_iff_iff]; simp_all [yR]; done) | (rw [Bool.eq_iff_iff]; simp_all [yR]; omega) | omega | (simp only [yR]; grind) | grind
theorem c_AftersOk {F : Nat → Bool} {x : Afs} : PC ctx.P 169 [.agg (vD F x)] (.bool (uU x)) := by
  refine PC.lim (n := x.list.length) (x := .agg (vD F x)) (by simp) (.agg (x := .view (F 10) 5 (x.list.map yI)) (by simp [vD]) (.here (by simp))) ⟨_, Tryz.func169, by kernel_rfl, by kernel_rfl⟩ fun hlim => ?_
  by_cases hs : zC8 x.slots = true
  · have hl : x.slots.used.length = x.slots.ages.length := by simp [zC8] at hs; omega
    refine PC.o okC Tryz.func169 rfl (.bool _) fun h nx hnx => ?_
    try simp [-qt, -qd, -ql, rgs, vD, hs]
    repeat' first | done | ((first | ((with_reducible show zT _ _ _ _ _ _); refine zB rfl fun _ => ?_) | ((with_reducible show zH _ _ _ _ _ _ _); refine zC rfl omA omA ?_) | ((with_reducible show zG _ _ _ 276 _ _); refine zD (c_SlotsOk (s := x.slots) (F := F)) ?_) | ((with_reducible show zG _ _ _ 277 _ _); refine zD (c_size_After) ?_) | ((with_reducible show zG _ _ _ 278 _ _); refine zD (c_used (s := x.slots) (F := F)) ?_) | (with_reducible refine zI (i := 1) [(0, [], []), (1, [], []), (2, [], []), (3, [], []), (4, [], []), (5, [], []), (6, [], []), (8, [], []), (9, [], []), (7, [.tmp 13], []), (10, [], []), (11, [], []), (12, [], [])] (by kernel_rfl) ?_)) <;> simp [-qt, -qd, -ql, rgs, vD, hs]) | ((first | (with_reducible refine zQ ?_ ?_) | (with_reducible refine zE ?_ ?_) | (with_reducible refine zA ?_ ?_)) <;> intro qb <;> (have qp := qb; try simp only [psq] at qp) <;> simp [-qt, -qd, -ql, rgs, vD, hs, qb])
    · simp only [uU]; grind
    · refine zU [2, 3, 4, 21, 22, 23, 24, 25, 26, 27, 28, 29, 30, 31, 32, 33, 34, 35, 36, 37, 38, 39, 40, 41, 42, 43, 44, 45, 46, 47, 48] (x.list.length) (fun (i : Nat) a => [(21, .int .i64 i)]) (fun i_ a_ h_ _ => (fun i (_ : Unit) _ => uF (fun i y => uO y.node y.fn && (yN x.slots y.han && afsAt x.list y.han == i)) (x.list.drop i) i = uF (fun i y => uO y.node y.fn && (yN x.slots y.han && afsAt x.list y.han == i)) x.list 0) i_ a_ h_) (()) (by simp) ?_ zP (Nat.le_refl _) ?_
      · simp
      · intro i a tm h' n' hle hJ hE hn' next hnx
        try dsimp only at hJ
        have hK : KeepB nx h' h := KeepB.sub hE zK (by omega)
        simp [-qt, -qd, -ql]
        have e1 : h' (nx) = some (.obj (vD F x)) := by have := hE (nx) (by omega); simpa [vD] using this
        have e1n : ∀ k, ((nx) = n' + k) = False := fun k => by simp only [eq_iff_iff, iff_false]; omega
        have e1m : ((nx) = n') = False := by simp only [eq_iff_iff, iff_false]; omega
        try simp [-qt, -qd, -ql, rgs, vD, yI, e1, e1n, e1m]
        repeat' first | done | ((first | ((with_reducible show zT _ _ _ _ _ _); refine zB rfl fun _ => ?_) | ((with_reducible show zH _ _ _ _ _ _ _); refine zC rfl omA omA ?_) | ((with_reducible show zG _ _ _ 279 _ _); refine zD (c_isAfter) ?_) | ((with_reducible show zG _ _ _ 280 _ _); refine zD (c_holds (s := x.slots) (F := F) (x := (gt x.list (i : Int)).han) hl) ?_) | ((with_reducible show zG _ _ _ 281 _ _); refine zD (c_afsAt (a := x) (F := F) (x := (gt x.list (i : Int)).han)) ?_) | (with_reducible refine zI (i := 1) [(0, [], []), (1, [], []), (2, [], []), (3, [], []), (4, [], []), (5, [], []), (6, [], []), (8, [], []), (9, [], []), (7, [.tmp 13], []), (10, [], []), (11, [], []), (12, [], [])] (by kernel_rfl) ?_)) <;> simp [-qt, -qd, -ql, rgs, vD, yI, e1, e1n, e1m]) | ((first | (with_reducible refine zQ ?_ ?_) | (with_reducible refine zE ?_ ?_) | (with_reducible refine zA ?_ ?_)) <;> intro qb <;> (have qp := qb; try simp only [psq] at qp) <;> simp [-qt, -qd, -ql, rgs, vD, yI, e1, e1n, e1m, qb])
        all_goals
          first
          | (have hlt : i < x.list.length := (by first | omega | (simp at *; omega))
             rw [zS hlt] at hJ
             first
             | (refine hnx.go (()) ?_ ?_ ?_ ?_ ?_ ?_; omega; (simp [zM hlt hlim]); (simp); exact zK; (first | omega | (simp; omega)); (try dsimp only); clear hnx; first | ((try simp only [List.drop_length, Int.toNat_natCast, uF, uU] at hJ ⊢); grind) | (simp_all [uF, uU]; done) | (simp_all; omega))
             | (refine ⟨?_, zK⟩; clear hnx; first | ((try simp only [List.drop_length, Int.toNat_natCast, uF, uU] at hJ ⊢); grind) | (simp_all [uF, uU]; done) | (simp_all; omega)))
          | (obtain rfl : i = x.list.length := (by first | omega | (simp at *; omega))
             refine ⟨?_, zK⟩; clear hnx; first | ((try simp only [List.drop_length, Int.toNat_natCast, uF, uU] at hJ ⊢); grind) | (simp_all [uF, uU]; done) | (simp_all; omega))
  · refine PC.o okC Tryz.func169 rfl (.bool _) fun h nx hnx => ?_
    try simp [-qt, -qd, -ql, rgs, vD, hs]
    repeat' first | done | ((first | ((with_reducible show zT _ _ _ _ _ _); refine zB rfl fun _ => ?_) | ((with_reducible show zH _ _ _ _ _ _ _); refine zC rfl omA omA ?_) | ((with_reducible show zG _ _ _ 276 _ _); refine zD (c_SlotsOk (s := x.slots) (F := F)) ?_) | (with_reducible refine zI (i := 1) [(0, [], []), (1, [], []), (2, [], []), (3, [], []), (4, [], []), (5, [], []), (6, [], []), (8, [], []), (9, [], []), (7, [.tmp 13], []), (10, [], []), (11, [], []), (12, [], [])] (by kernel_rfl) ?_)) <;> simp [-qt, -qd, -ql, rgs, vD, hs]) | ((first | (with_reducible refine zQ ?_ ?_) | (with_reducible refine zE ?_ ?_) | (with_reducible refine zA ?_ ?_)) <;> intro qb <;> (have qp := qb; try simp only [psq] at qp) <;> simp [-qt, -qd, -ql, rgs, vD, hs, qb])
    all_goals (try clear hnx)
    all_goals first | (simp_all [uU]; done) | (simp_all [uU]; omega) | (rw [Bool.eq_iff_iff]; simp_all [uU]; done) | (rw [Bool.eq_iff_iff]; simp_all [uU]; omega) | omega | (simp only [uU]; grind) | grind
theorem c_GroupOk {p : Bool} {g : Grp} : PC ctx.P 292 [.agg (vA p g)] (.bool (zI1 g)) := by
  refine PC.lim (n := g.waits.length) (x := .agg (vA p g)) (by simp) (.agg (x := .view p 1 (g.waits.map iv)) (by simp [vA]) (.here (by simp))) ⟨_, Tryz.func292, by kernel_rfl, by kernel_rfl⟩ fun hlim => ?_
  refine PC.o okC Tryz.func292 rfl (.bool _) fun h nx hnx => ?_
  try simp [-qt, -qd, -ql, rgs, vA]
  repeat' first | done | ((first | ((with_reducible show zT _ _ _ _ _ _); refine zB rfl fun _ => ?_) | ((with_reducible show zH _ _ _ _ _ _ _); refine zC rfl omA omA ?_) | ((with_reducible show yA _ _ _ _ _ _ _ _); refine vJ rfl omA omA ?_) | ((with_reducible show yA _ _ _ _ _ _ _ _); refine yO rfl omA omA ?_) | ((with_reducible show yA _ _ _ _ _ _ _ _); refine yY rfl omA omA omA ?_) | ((with_reducible show zG _ _ _ 165 _ _); refine zD (vG) ?_)) <;> simp [-qt, -qd, -ql, rgs, vA]) | ((first | (with_reducible refine zE ?_ ?_) | (with_reducible refine zA ?_ ?_)) <;> intro qb <;> (have qp := qb; try simp only [psq] at qp) <;> simp [-qt, -qd, -ql, rgs, vA, qb])
  all_goals first | (clear hnx; simp only [zI1]; grind) | skip
  all_goals
    refine zU [2, 3, 4, 58, 59, 60, 61, 62, 63, 64, 65, 66, 67, 68, 69, 70, 71, 72, 73, 74] (g.waits.length) (fun (i : Nat) a => [(58, .int .i64 i)]) (fun i_ a_ h_ _ => (fun i (_ : Unit) _ => uF (fun i n => inR n 0 59 && !(g.waits.take i.toNat).contains n) (g.waits.drop i) i = uF (fun i n => inR n 0 59 && !(g.waits.take i.toNat).contains n) g.waits 0) i_ a_ h_) (()) (by simp) ?_ zP (Nat.le_refl _) ?_
    · simp
    · intro i a tm h' n' hle hJ hE hn' next hnx
      try dsimp only at hJ
      have hK : KeepB nx h' h := KeepB.sub hE zK (by omega)
      simp [-qt, -qd, -ql]
      have e1 : h' (nx) = some (.obj (vA p g)) := by have := hE (nx) (by omega); simpa [vA] using this
      have e1n : ∀ k, ((nx) = n' + k) = False := fun k => by simp only [eq_iff_iff, iff_false]; omega
      have e1m : ((nx) = n') = False := by simp only [eq_iff_iff, iff_false]; omega
      try simp [-qt, -qd, -ql, rgs, vA, iv, e1, e1n, e1m]
      repeat' first | done | ((first | ((with_reducible show zT _ _ _ _ _ _); refine zB rfl fun _ => ?_) | ((with_reducible show zH _ _ _ _ _ _ _); refine zC rfl omA omA ?_) | ((with_reducible show yA _ _ _ _ _ _ _ _); refine vJ rfl omA omA ?_) | ((with_reducible show yA _ _ _ _ _ _ _ _); refine yO rfl omA omA ?_) | ((with_reducible show yA _ _ _ _ _ _ _ _); refine yY rfl omA omA omA ?_) | ((with_reducible show zG _ _ _ 165 _ _); refine zD (vG) ?_) | ((with_reducible show zG _ _ _ 88 _ _); refine zD (c_Contains) ?_)) <;> simp [-qt, -qd, -ql, rgs, vA, iv, e1, e1n, e1m]) | ((first | (with_reducible refine zE ?_ ?_) | (with_reducible refine zA ?_ ?_)) <;> intro qb <;> (have qp := qb; try simp only [psq] at qp) <;> simp [-qt, -qd, -ql, rgs, vA, iv, e1, e1n, e1m, qb])
      all_goals
        first
        | (have hlt : i < g.waits.length := (by first | omega | (simp at *; omega))
           rw [zS hlt] at hJ
           first
           | (refine hnx.go (()) ?_ ?_ ?_ ?_ ?_ ?_; omega; (simp [zM hlt hlim]); (simp); exact zK; (first | omega | (simp; omega)); (try dsimp only); clear hnx; first | ((try simp only [List.drop_length, Int.toNat_natCast, uF, zI1] at hJ ⊢); grind) | (simp_all [uF, zI1]; done) | (simp_all; omega))
           | (refine ⟨?_, zK⟩; clear hnx; first | ((try simp only [List.drop_length, Int.toNat_natCast, uF, zI1] at hJ ⊢); grind) | (simp_all [uF, zI1]; done) | (simp_all; omega)))
        | (obtain rfl : i = g.waits.length := (by first | omega | (simp at *; omega))
           refine ⟨?_, zK⟩; clear hnx; first | ((try simp only [List.drop_length, Int.toNat_natCast, uF, zI1] at hJ ⊢); grind) | (simp_all [uF, zI1]; done) | (simp_all; omega))
end Go.AE.Tryz
end

section
/- Contracts of the program's readers: worlds. -/
set_option linter.unusedSimpArgs false
set_option linter.unusedVariables false
set_option maxRecDepth 8000
set_option maxHeartbeats 4000000
namespace Go.AE.Tryz
open Go.Proofs
open List renaming map_take → qt, map_drop → qd, map_tail → ql

theorem c_isGroup {F : Nat → Bool} {p : Bool} {w : Wld} {g : Grp} : PC ctx.P 177 [.agg (wldV F w), .agg (vA p g)] (.bool (zB4 w g)) := by
  refine PC.o okC Tryz.func177 rfl (.bool _) fun h nx hnx => ?_
  try simp [-qt, -qd, -ql, rgs, wldV, vE]
  repeat' first | done | ((first | ((with_reducible show zH _ _ _ _ _ _ _); refine zC rfl omA omA ?_) | ((with_reducible show zG _ _ _ 292 _ _); refine zD (c_GroupOk (g := g) (p := p)) ?_) | ((with_reducible show zG _ _ _ 172 _ _); refine zD (zC2) ?_) | ((with_reducible show zG _ _ _ 268 _ _); refine yQ (uM (q := fun i => !vV i w.tasks) (fv := .fn 293 [.vptr (wldV F w)]) (fun x _ => c_isGroup1)) (by first | exact .bool _ | exact .int _ _ | exact .str _) (by repeat' first | exact Bors.nil | refine Bors.cons ?_ ?_ | exact Bor.same _ | refine Bor.fn1 ?_ | refine Bor.bnd1 ?_ | refine Bor.agg1 ?_ | refine Bor.ptr0 (by first | (simp; done) | (simp; rfl) | assumption | (simp [*]; done)) ?_ | refine Bor.ref0 (by first | (simp; done) | (simp; rfl) | (simp [iv, bv]; done)) (by simp) (by simp)) ?_)) <;> simp [-qt, -qd, -ql, rgs, wldV, vE]) | ((first | (with_reducible refine zE ?_ ?_)) <;> intro qb <;> (have qp := qb; try simp only [psq] at qp) <;> simp [-qt, -qd, -ql, rgs, wldV, vE, qb])
  all_goals (try clear hnx)
  all_goals first | (simp_all [zB4]; done) | (simp_all [zB4]; omega) | (rw [Bool.eq_iff_iff]; simp_all [zB4]; done) | (rw [Bool.eq_iff_iff]; simp_all [zB4]; omega) | omega | (simp only [zB4]; grind) | grind
theorem c_WorldOk {F : Nat → Bool} {w : Wld} : PC ctx.P 68 [.agg (wldV F w)] (.bool (zE1 w)) := by
  refine PC.o okC Tryz.func68 rfl (.bool _) fun h nx hnx => ?_
  try simp [-qt, -qd, -ql, rgs, wldV]
  repeat' first | done | ((first | ((with_reducible show zT _ _ _ _ _ _); refine zB rfl fun _ => ?_) | ((with_reducible show zG _ _ _ 160 _ _); refine zD (c_all_Prog (q := zD2) (.fn _ _) (fun x _ => c_ProgOk)) ?_) | ((with_reducible show zG _ _ _ 162 _ _); refine zD (c_EventsOk) ?_) | ((with_reducible show zG _ _ _ 163 _ _); refine zD (c_isSpread (s := w.spread) (F := F)) ?_) | ((with_reducible show zG _ _ _ 82 _ _); refine yQ (c_all_Event (q := fun e => inR e.time 0 w.now) (fv := .fn 164 [.vptr (wldV F w)]) (.fn _ _) (fun x _ => c_WorldOk1)) (by first | exact .bool _ | exact .int _ _ | exact .str _) (by repeat' first | exact Bors.nil | refine Bors.cons ?_ ?_ | exact Bor.same _ | refine Bor.fn1 ?_ | refine Bor.bnd1 ?_ | refine Bor.agg1 ?_ | refine Bor.ptr0 (by first | (simp; done) | (simp; rfl) | assumption | (simp [*]; done)) ?_ | refine Bor.ref0 (by first | (simp; done) | (simp; rfl) | (simp [iv, bv]; done)) (by simp) (by simp)) ?_) | ((with_reducible show zG _ _ _ 166 _ _); refine zD (c_TimersOk (t := w.timers) (F := F)) ?_) | ((with_reducible show zG _ _ _ 167 _ _); refine zD (c_all_Timer (q := uR w) (.bnd _ _) (fun x _ => c_isTimer (F := F))) ?_) | ((with_reducible show zG _ _ _ 169 _ _); refine zD (c_AftersOk (x := w.afters) (F := F)) ?_) | ((with_reducible show zG _ _ _ 170 _ _); refine yQ (c_all_After (q := fun a => vV a.node w.tree) (fv := .fn 171 [.vptr (wldV F w)]) (.fn _ _) (fun x _ => c_WorldOk2)) (by first | exact .bool _ | exact .int _ _ | exact .str _) (by repeat' first | exact Bors.nil | refine Bors.cons ?_ ?_ | exact Bor.same _ | refine Bor.fn1 ?_ | refine Bor.bnd1 ?_ | refine Bor.agg1 ?_ | refine Bor.ptr0 (by first | (simp; done) | (simp; rfl) | assumption | (simp [*]; done)) ?_ | refine Bor.ref0 (by first | (simp; done) | (simp; rfl) | (simp [iv, bv]; done)) (by simp) (by simp)) ?_) | ((with_reducible show zG _ _ _ 173 _ _); refine zD (c_TasksOk) ?_) | ((with_reducible show zG _ _ _ 174 _ _); refine zD (c_all_Task (q := zC6 w) (.bnd _ _) (fun x _ => c_isTask (F := F))) ?_) | ((with_reducible show zG _ _ _ 176 _ _); refine zD (c_all_Group (q := zB4 w) (.bnd _ _) (fun x _ => c_isGroup (F := F))) ?_) | ((with_reducible show zG _ _ _ 178 _ _); refine zD (c_all_Sight (q := zB5 w) (.bnd _ _) (fun x _ => c_isSight (F := F))) ?_) | ((with_reducible show zG _ _ _ 180 _ _); refine zD (c_all_int64 (q := fun n => inR n 0 99) (.fn _ _) (fun x _ => c_WorldOk3)) ?_) | ((with_reducible show zG _ _ _ 180 _ _); refine zD (c_all_int64 (q := fun n => inR n 0 99) (.fn _ _) (fun x _ => c_WorldOk4)) ?_)) <;> simp [-qt, -qd, -ql, rgs, wldV]) | ((first | (with_reducible refine zE ?_ ?_) | (with_reducible refine zA ?_ ?_)) <;> intro qb <;> (have qp := qb; try simp only [psq] at qp) <;> simp [-qt, -qd, -ql, rgs, wldV, qb])
  all_goals (try clear hnx)
  all_goals first | (simp_all [zE1]; done) | (simp_all [zE1]; omega) | (rw [Bool.eq_iff_iff]; simp_all [zE1]; done) | (rw [Bool.eq_iff_iff]; simp_all [zE1]; omega) | omega | (simp only [zE1]; grind) | grind
end Go.AE.Tryz
end

section
/- Contracts of the program's requests: what is asked of a world, and what it makes of a copy. -/
set_option linter.unusedSimpArgs false
set_option linter.unusedVariables false
set_option maxRecDepth 8000
set_option maxHeartbeats 4000000
namespace Go.AE.Tryz
open Go.Proofs
open List renaming map_take → qt, map_drop → qd, map_tail → ql
theorem zO (X : WI) (w : Wld) : (∀ x ∈ zD6 X w, x.one = true) = True := by simp [zD6]
theorem yG (X : WI) (w : Wld) : (zD6 X w).length = 17 := rfl
theorem zZ (X : WI) (w : Wld) : (zD6 X w).take 17 = zD6 X w := rfl
theorem zB1 {F : Nat → Bool} {w : Wld} : (∀ x ∈ wldV F w, x.one = true) = True := by simp [wldV]
theorem wldV_len (F : Nat → Bool) (w : Wld) : (wldV F w).length = 17 := rfl
theorem wldV_take (F : Nat → Bool) (w : Wld) : (wldV F w).take 17 = wldV F w := rfl
theorem w_cloned {F : Nat → Bool} {w : Wld} (hs : zC4 w ≤ 1048576) : WC ctx.P 224 [.agg (wldV F w)] (fun X => .agg (zD6 X w)) w := WC.of (w_clonedA hs)
theorem w_asked {F : Nat → Bool} {w w' : Wld} {b : Bool} {g : FuncId} {qs : List (Nat × List AV × List AV)} (hs : zC4 w ≤ 1048576) (hd : zE1 w = true → DoOk ctx.P g qs w w' b) :
    AC ctx.P 109 [.agg (wldV F w), .fn g (qs.map fun q => .ptr q.1 0)] (fun h _ => ∀ q ∈ qs, h q.1 = some (.obj q.2.1))
    (AskQ qs w w' b) := by
  refine AC.ghostT ?_
  refine AC.o okC Tryz.func109 rfl fun h nx hfr hnx hpre => ?_
  have hqn : ∀ q ∈ qs, q.1 < nx := fun q hq => hnx q.1 (by rw [hpre q hq]; simp)
  by_cases hw : zE1 w = true
  · try simp [-qt, -qd, -ql, rgs, hw, zB1, wldV_len, wldV_take]
    repeat' first | done | ((first | ((with_reducible show zG _ _ _ 68 _ _); refine zD (c_WorldOk (w := w) (F := F)) ?_)) <;> simp [-qt, -qd, -ql, rgs, hw, zB1, wldV_len, wldV_take]) | ((first | (with_reducible refine zE ?_ ?_) | (with_reducible refine zA ?_ ?_)) <;> intro qb <;> (have qp := qb; try simp only [psq] at qp) <;> simp [-qt, -qd, -ql, rgs, hw, zB1, wldV_len, wldV_take, qb])
    refine call_wc (w_cloned (F := F) hs) ?_
    intro X1 h1 n1 V1 hid1 hle1 hfr1
    dsimp only at hid1 hle1 hfr1
    have nX : ∀ j, j < nx + 9 → j ∉ X1.ids := fun j hj hm => by have := hid1 j hm; omega
    try simp [-qt, -qd, -ql, rgs, hw, zO X1 w, yG, zZ]
    repeat' first | done | ((first | (with_reducible refine zE ?_ ?_) | (with_reducible refine zA ?_ ?_)) <;> intro qb <;> (have qp := qb; try simp only [psq] at qp) <;> simp [-qt, -qd, -ql, rgs, hw, zO X1 w, yG, zZ, qb])
    generalize hH : upd (upd h1 (nx + 8) _) (nx + 8) (some (Ent.obj (zD6 X1 w))) = H2
    have V2 : WV H2 X1 w := hH ▸ (V1.keep fun id hid => by have := hid1 id hid; repeat rw [zJ _ _ _ _ (by omega)])
    have o2 : H2 (nx + 8) = some (.obj (zD6 X1 w)) := by rw [← hH, zL]
    have a2 : H2 nx = some (.obj (wldV F w)) := by
      rw [← hH]
      repeat rw [zJ _ _ _ _ (by omega)]
      rw [hfr1 nx (nX _ (by omega))]
      repeat (first | exact zL .. | rw [zJ _ _ _ _ (by omega)])
    have z2 : H2 (nx + 1) = some (.obj [AV.int IntKind.i64 0, AV.nil, AV.nil, AV.nil, AV.nil, AV.nil, AV.nil, AV.nil, AV.int IntKind.i64 0, AV.nil, AV.nil, AV.nil, AV.nil, AV.nil, AV.nil, AV.nil, AV.nil]) := by
      rw [← hH]
      repeat rw [zJ _ _ _ _ (by omega)]
      rw [hfr1 (nx + 1) (nX _ (by omega))]
      exact zL ..
    have K2 : ∀ j, j < nx → H2 j = h j := fun j hj => by
      rw [← hH]
      repeat rw [zJ _ _ _ _ (by omega)]
      rw [hfr1 j (nX _ (by omega))]
      repeat rw [zJ _ _ _ _ (by omega)]
    clear hH
    have qn : ∀ j, nx ≤ j → ∀ q ∈ qs, j ≠ q.1 := fun j hj q hq => by have := hqn q hq; omega
    refine vB (hd hw (nx + 8) X1) ⟨o2, V2, fun q hq => ⟨by dsimp only; rw [K2 _ (hqn q hq)]; exact hpre q hq, by have := hqn q hq; omega⟩⟩ ?_
    rintro r h3 n3 ⟨rfl, hb, hq3, hf3⟩ hle3 hfr3
    dsimp only at hb hf3 hle3
    have a3 := hf3 nx (by omega) (by omega) (nX _ (by omega)) (qn _ (by omega))
    have z3 := hf3 (nx + 1) (by omega) (by omega) (nX _ (by omega)) (qn _ (by omega))
    rw [a2] at a3
    rw [z2] at z3
    have K3 : ∀ j, j < nx → (∀ q ∈ qs, j ≠ q.1) → h3 j = h j := fun j hj hq => by rw [hf3 j (by omega) (by omega) (nX _ (by omega)) hq, K2 j hj]
    cases b with
    | false =>
      try simp [-qt, -qd, -ql, rgs, a3, z3, zB1, wldV_len, wldV_take]
      repeat' first | done | ((first | (with_reducible refine zE ?_ ?_) | (with_reducible refine zA ?_ ?_)) <;> intro qb <;> (have qp := qb; try simp only [psq] at qp) <;> simp [-qt, -qd, -ql, rgs, a3, z3, zB1, wldV_len, wldV_take, qb])
      refine call_wc (w_cloned (F := F) hs) ?_
      intro X4 h4 n4 V4 hid4 hle4 hfr4
      dsimp only at hid4 hle4 hfr4
      have z4 := hfr4 (nx + 1) (fun hm => by have := hid4 _ hm; omega)
      rw [z3] at z4
      try simp [-qt, -qd, -ql, rgs, z4, zO X4 w, yG, zZ]
      repeat' first | done | ((first | (with_reducible refine zE ?_ ?_) | (with_reducible refine zA ?_ ?_)) <;> intro qb <;> (have qp := qb; try simp only [psq] at qp) <;> simp [-qt, -qd, -ql, rgs, z4, zO X4 w, yG, zZ, qb])
      have e1 : askW w w' false = w := by simp [askW, hw]
      have e2 : askB w w' false = false := by simp [askB]
      refine .done ⟨⟨X4, by rw [e1, e2], by rw [e1]; exact V4.keep fun id hid => (by have := hid4 id hid; repeat rw [zJ _ _ _ _ (by omega)]), fun id hid => by have := hid4 id hid; omega⟩, fun q hq => ?_, fun j hj hq => ?_⟩
      · have := hqn q hq
        rw [if_pos hw, zJ _ _ _ _ (by omega), hfr4 _ (fun hm => by have := hid4 _ hm; omega)]
        exact hq3 q hq
      · rw [zJ _ _ _ _ (by omega), hfr4 _ (fun hm => by have := hid4 _ hm; omega)]
        exact K3 j hj hq
    | true =>
      obtain ⟨X3, o3, V3, hid3⟩ := hb rfl
      try simp [-qt, -qd, -ql, rgs, a3, z3, o3, zO X3 w', yG, zZ]
      repeat' first | done | ((first | (with_reducible refine zE ?_ ?_) | (with_reducible refine zA ?_ ?_)) <;> intro qb <;> (have qp := qb; try simp only [psq] at qp) <;> simp [-qt, -qd, -ql, rgs, a3, z3, o3, zO X3 w', yG, zZ, qb])
      refine yQ (c_WorldOk (w := w') (F := FF)) (.bool _) ?hb2 ?_
      case hb2 => exact .cons (.agg1 V3.bors) .nil
      by_cases hw2 : zE1 w' = true
      · try simp [-qt, -qd, -ql, rgs, a3, z3, o3, hw2, zO X3 w', yG, zZ]
        repeat' first | done | ((first | (with_reducible refine zE ?_ ?_) | (with_reducible refine zA ?_ ?_)) <;> intro qb <;> (have qp := qb; try simp only [psq] at qp) <;> simp [-qt, -qd, -ql, rgs, a3, z3, o3, hw2, zO X3 w', yG, zZ, qb])
        have e1 : askW w w' true = w' := by simp [askW, hw, hw2]
        have e2 : askB w w' true = true := by simp [askB, hw, hw2]
        have hb3 : ∀ id ∈ X3.ids, nx + 9 ≤ id ∧ id < n3 := fun id hid => by
          rcases hid3 id hid with q | q
          · have := hid1 id q; omega
          · omega
        refine .done ⟨⟨X3, by rw [e1, e2], by rw [e1]; exact V3.keep fun id hid => (by have := hb3 id hid; rw [zJ _ _ _ _ (by omega)]), fun id hid => by have := hb3 id hid; omega⟩, fun q hq => ?_, fun j hj hq => ?_⟩
        · have := hqn q hq
          rw [if_pos hw, zJ _ _ _ _ (by omega)]
          exact hq3 q hq
        · rw [zJ _ _ _ _ (by omega)]
          exact K3 j hj hq
      · try simp [-qt, -qd, -ql, rgs, a3, z3, o3, hw2, zB1, wldV_len, wldV_take]
        repeat' first | done | ((first | (with_reducible refine zE ?_ ?_) | (with_reducible refine zA ?_ ?_)) <;> intro qb <;> (have qp := qb; try simp only [psq] at qp) <;> simp [-qt, -qd, -ql, rgs, a3, z3, o3, hw2, zB1, wldV_len, wldV_take, qb])
        refine call_wc (w_cloned (F := F) hs) ?_
        intro X4 h4 n4 V4 hid4 hle4 hfr4
        dsimp only at hid4 hle4 hfr4
        have z4 := hfr4 (nx + 1) (fun hm => by have := hid4 _ hm; omega)
        rw [z3] at z4
        try simp [-qt, -qd, -ql, rgs, z4, zO X4 w, yG, zZ]
        repeat' first | done | ((first | (with_reducible refine zE ?_ ?_) | (with_reducible refine zA ?_ ?_)) <;> intro qb <;> (have qp := qb; try simp only [psq] at qp) <;> simp [-qt, -qd, -ql, rgs, z4, zO X4 w, yG, zZ, qb])
        have e1 : askW w w' true = w := by simp [askW, hw, hw2]
        have e2 : askB w w' true = false := by simp [askB, hw2]
        refine .done ⟨⟨X4, by rw [e1, e2], by rw [e1]; exact V4.keep fun id hid => (by have := hid4 id hid; repeat rw [zJ _ _ _ _ (by omega)]), fun id hid => by have := hid4 id hid; omega⟩, fun q hq => ?_, fun j hj hq => ?_⟩
        · have := hqn q hq
          rw [if_pos hw, zJ _ _ _ _ (by omega), hfr4 _ (fun hm => by have := hid4 _ hm; omega)]
          exact hq3 q hq
        · rw [zJ _ _ _ _ (by omega), hfr4 _ (fun hm => by have := hid4 _ hm; omega)]
          exact K3 j hj hq
  · try simp [-qt, -qd, -ql, rgs, hw, zB1, wldV_len, wldV_take]
    repeat' first | done | ((first | ((with_reducible show zG _ _ _ 68 _ _); refine zD (c_WorldOk (w := w) (F := F)) ?_)) <;> simp [-qt, -qd, -ql, rgs, hw, zB1, wldV_len, wldV_take]) | ((first | (with_reducible refine zE ?_ ?_) | (with_reducible refine zA ?_ ?_)) <;> intro qb <;> (have qp := qb; try simp only [psq] at qp) <;> simp [-qt, -qd, -ql, rgs, hw, zB1, wldV_len, wldV_take, qb])
    exact AskQ.bad hw hpre hqn (fun j hj => by repeat rw [zJ _ _ _ _ (by omega)]) (by omega)
end Go.AE.Tryz
end

section
/- Contracts of the reference's readers: slots, heaps, timers. -/
set_option linter.unusedSimpArgs false
set_option linter.unusedVariables false
set_option maxRecDepth 8000
set_option maxHeartbeats 2000000
namespace Go.AE.Tryz
open Go.Proofs
open List renaming map_take → qt, map_drop → qd, map_tail → ql

theorem zA8 {x lo hi : Int} : PC ctx.P 252 [.int .i64 x, .int .i64 lo, .int .i64 hi] (.bool (inR x lo hi)) := by
  refine PC.o okC Tryz.func252 rfl (.bool _) fun h nx hnx => ?_
  try simp [-qt, -qd, -ql, rgs, inR]
  repeat' first | done | ((first | (with_reducible refine zE ?_ ?_)) <;> intro qb <;> (have qp := qb; try simp only [psq] at qp) <;> simp [-qt, -qd, -ql, rgs, inR, qb])
theorem zH3 {F : Nat → Bool} {s : Slt} : PC ctx.P 321 [.agg (yW F s)] (.bool (zC8 s)) := by
  refine PC.lim (n := s.ages.length) (x := .agg (yW F s)) (by simp) (.agg (x := .view (F 8) 1 (s.ages.map iv)) (by simp [yW]) (.here (by simp))) ⟨_, Tryz.func321, by kernel_rfl, by kernel_rfl⟩ fun hlim => ?_
  refine PC.o okC Tryz.func321 rfl (.bool _) fun h nx hnx => ?_
  try simp [-qt, -qd, -ql, rgs, yW]
  repeat' first | done | ((first | ((with_reducible show zT _ _ _ _ _ _); refine zB rfl fun _ => ?_) | ((with_reducible show zH _ _ _ _ _ _ _); refine zC rfl omA omA ?_) | ((with_reducible show zG _ _ _ 252 _ _); refine zD (zA8) ?_)) <;> simp [-qt, -qd, -ql, rgs, yW]) | ((first | (with_reducible refine zE ?_ ?_) | (with_reducible refine zA ?_ ?_)) <;> intro qb <;> (have qp := qb; try simp only [psq] at qp) <;> simp [-qt, -qd, -ql, rgs, yW, qb])
  all_goals first | (clear hnx; simp [zC8]; grind) | skip
  refine zU [2, 3, 18, 19, 20, 21, 22, 23, 24, 25, 26, 27, 28, 29, 30, 31] (s.ages.length) (fun (i : Nat) a => [(3, .int .i64 i)]) (fun i_ a_ h_ _ => (fun i (_ : Unit) _ => ((s.ages.drop i).any fun a => !inR a 0 1000000) = s.ages.any fun a => !inR a 0 1000000) i_ a_ h_) (()) (by simp) ?_ zP (Nat.le_refl _) ?_
  · simp
  · intro i a tm h' n' hle hJ hE hn' next hnx
    try dsimp only at hJ
    have hK : KeepB nx h' h := KeepB.sub hE zK (by omega)
    simp [-qt, -qd, -ql]
    have e1 : h' (nx) = some (.obj (yW F s)) := by have := hE (nx) (by omega); simpa [yW] using this
    have e1n : ∀ k, ((nx) = n' + k) = False := fun k => by simp only [eq_iff_iff, iff_false]; omega
    have e1m : ((nx) = n') = False := by simp only [eq_iff_iff, iff_false]; omega
    try simp [-qt, -qd, -ql, rgs, yW, iv, e1, e1n, e1m]
    repeat' first | done | ((first | ((with_reducible show zT _ _ _ _ _ _); refine zB rfl fun _ => ?_) | ((with_reducible show zH _ _ _ _ _ _ _); refine zC rfl omA omA ?_) | ((with_reducible show zG _ _ _ 252 _ _); refine zD (zA8) ?_)) <;> simp [-qt, -qd, -ql, rgs, yW, iv, e1, e1n, e1m]) | ((first | (with_reducible refine zE ?_ ?_) | (with_reducible refine zA ?_ ?_)) <;> intro qb <;> (have qp := qb; try simp only [psq] at qp) <;> simp [-qt, -qd, -ql, rgs, yW, iv, e1, e1n, e1m, qb])
    all_goals
      first
      | (have hlt : i < s.ages.length := (by first | omega | (simp at *; omega))
         rw [zS hlt] at hJ
         first
         | (refine hnx.go (()) ?_ ?_ ?_ ?_ ?_ ?_; omega; (simp [zM hlt hlim]); (simp); exact zK; (first | omega | (simp; omega)); (try dsimp only); clear hnx; first | ((try simp only [List.drop_length, Int.toNat_natCast, List.any_cons, List.any_nil, zC8] at hJ ⊢); grind) | (simp_all [List.any_cons, List.any_nil, zC8]; done) | (simp_all; omega))
         | (refine ⟨?_, zK⟩; clear hnx; first | ((try simp only [List.drop_length, Int.toNat_natCast, List.any_cons, List.any_nil, zC8] at hJ ⊢); grind) | (simp_all [List.any_cons, List.any_nil, zC8]; done) | (simp_all; omega)))
      | (obtain rfl : i = s.ages.length := (by first | omega | (simp at *; omega))
         refine ⟨?_, zK⟩; clear hnx; first | ((try simp only [List.drop_length, Int.toNat_natCast, List.any_cons, List.any_nil, zC8] at hJ ⊢); grind) | (simp_all [List.any_cons, List.any_nil, zC8]; done) | (simp_all; omega))
theorem s_UsedIn {F : Nat → Bool} {s : Slt} : PC ctx.P 322 [.agg (yW F s)] (.int .i64 (if zC8 s then cntB id s.used else -1)) := by
  refine PC.lim (n := s.used.length) (x := .agg (yW F s)) (by simp) (.agg (x := .view (F 9) 1 (s.used.map bv)) (by simp [yW]) (.here (by simp))) ⟨_, Tryz.func322, by kernel_rfl, by kernel_rfl⟩ fun hlim => ?_
  refine PC.o okC Tryz.func322 rfl (.int _ _) fun h nx hnx => ?_
  try simp [-qt, -qd, -ql, rgs, yW]
  repeat' first | done | ((first | ((with_reducible show zT _ _ _ _ _ _); refine zB rfl fun _ => ?_) | ((with_reducible show zH _ _ _ _ _ _ _); refine zC rfl omA omA ?_) | ((with_reducible show zG _ _ _ 321 _ _); refine zD (zH3 (s := s) (F := F)) ?_)) <;> simp [-qt, -qd, -ql, rgs, yW]) | ((first | (with_reducible refine zA ?_ ?_)) <;> intro qb <;> (have qp := qb; try simp only [psq] at qp) <;> simp [-qt, -qd, -ql, rgs, yW, qb])
  all_goals first | (clear hnx; simp_all; done) | skip
  refine zU [3, 4, 8, 9, 10, 11, 12, 13, 14, 15, 16, 17, 18, 19, 20, 21] (s.used.length) (fun (i : Nat) a => [(4, .int .i64 i), (3, .int .i64 a)]) (fun i_ a_ h_ _ => (fun i (a : Int) _ => a + cntB id (s.used.drop i) = cntB id s.used ∧ 0 ≤ a ∧ a ≤ i) i_ a_ h_) (0) (by simp) ?_ zP (Nat.le_refl _) ?_
  · simp
  · intro i a tm h' n' hle hJ hE hn' next hnx
    try dsimp only at hJ
    have hK : KeepB nx h' h := KeepB.sub hE zK (by omega)
    simp [-qt, -qd, -ql]
    have e1 : h' (nx) = some (.obj (yW F s)) := by have := hE (nx) (by omega); simpa [yW] using this
    have e1n : ∀ k, ((nx) = n' + k) = False := fun k => by simp only [eq_iff_iff, iff_false]; omega
    have e1m : ((nx) = n') = False := by simp only [eq_iff_iff, iff_false]; omega
    try simp [-qt, -qd, -ql, rgs, yW, bv, e1, e1n, e1m]
    repeat' first | done | ((first | ((with_reducible show zT _ _ _ _ _ _); refine zB rfl fun _ => ?_) | ((with_reducible show zH _ _ _ _ _ _ _); refine zC rfl omA omA ?_)) <;> simp [-qt, -qd, -ql, rgs, yW, bv, e1, e1n, e1m]) | ((first | (with_reducible refine zA ?_ ?_)) <;> intro qb <;> (have qp := qb; try simp only [psq] at qp) <;> simp [-qt, -qd, -ql, rgs, yW, bv, e1, e1n, e1m, qb])
    · rw [zS (by omega)] at hJ
      refine hnx.go (a + 1) (by omega) (by simp [zM (i := i) (n := s.used.length) (by omega) hlim, zF (x := a + 1) (by simp only [LIM] at hlim; omega)]) (by simp) zK (by first | omega | (simp; omega)) ?_
      try dsimp only
      simp [cntB, qb] at hJ ⊢
      omega
    · rw [zS (by omega)] at hJ
      refine hnx.go (a) (by omega) (by simp [zM (i := i) (n := s.used.length) (by omega) hlim]) (by simp) zK (by first | omega | (simp; omega)) ?_
      try dsimp only
      simp [cntB, qb] at hJ ⊢
      omega
    · refine ⟨?_, zK⟩
      rw [List.drop_eq_nil_of_le (by omega)] at hJ
      simp [cntB, *] at hJ ⊢
      omega
theorem s_Holds {F : Nat → Bool} {s : Slt} {x : Han} : PC ctx.P 323 [.agg (yW F s), .agg (uW x)] (.bool (zC8 s && yN s x)) := by
  refine PC.lim (n := s.ages.length) (x := .agg (yW F s)) (by simp) (.agg (x := .view (F 8) 1 (s.ages.map iv)) (by simp [yW]) (.here (by simp))) ⟨_, Tryz.func323, by kernel_rfl, by kernel_rfl⟩ fun hlim => ?_
  by_cases hs : zC8 s = true
  · have hl := sltOk_len hs
    refine PC.o okC Tryz.func323 rfl (.bool _) fun h nx hnx => ?_
    try simp [-qt, -qd, -ql, rgs, yW, uW, iv, bv, hs, yC hlim]
    repeat' first | done | ((first | ((with_reducible show zT _ _ _ _ _ _); refine zB rfl fun _ => ?_) | ((with_reducible show zH _ _ _ _ _ _ _); refine zC rfl omA omA ?_) | ((with_reducible show zG _ _ _ 321 _ _); refine zD (zH3 (s := s) (F := F)) ?_) | ((with_reducible show zG _ _ _ 252 _ _); refine zD (zA8) ?_) | (with_reducible refine zI (i := 1) [(0, [], []), (1, [], []), (2, [], []), (3, [], []), (4, [], []), (5, [], []), (6, [], []), (7, [], []), (8, [], []), (9, [], []), (10, [], []), (11, [], []), (12, [], []), (13, [], []), (14, [], []), (15, [], []), (16, [], []), (17, [], []), (18, [], []), (19, [], []), (20, [], []), (21, [], []), (22, [], []), (23, [], []), (24, [], []), (25, [], []), (26, [], []), (27, [], []), (28, [], []), (29, [], []), (30, [], [])] (by kernel_rfl) ?_)) <;> simp [-qt, -qd, -ql, rgs, yW, uW, iv, bv, hs, yC hlim]) | ((first | (with_reducible refine zQ ?_ ?_)) <;> intro qb <;> (have qp := qb; try simp only [psq] at qp) <;> simp [-qt, -qd, -ql, rgs, yW, uW, iv, bv, hs, yC hlim, qb])
    all_goals (try clear hnx)
    all_goals first | (simp_all [yN, vV]; done) | (simp_all [yN, vV]; omega) | (rw [Bool.eq_iff_iff]; simp_all [yN, vV]; done) | (rw [Bool.eq_iff_iff]; simp_all [yN, vV]; omega) | omega | (simp only [yN, vV]; grind) | grind
  · refine PC.o okC Tryz.func323 rfl (.bool _) fun h nx hnx => ?_
    try simp [-qt, -qd, -ql, rgs, hs]
    repeat' first | done | ((first | ((with_reducible show zT _ _ _ _ _ _); refine zB rfl fun _ => ?_) | ((with_reducible show zH _ _ _ _ _ _ _); refine zC rfl omA omA ?_) | ((with_reducible show zG _ _ _ 321 _ _); refine zD (zH3 (s := s) (F := F)) ?_) | (with_reducible refine zI (i := 1) [(0, [], []), (1, [], []), (2, [], []), (3, [], []), (4, [], []), (5, [], []), (6, [], []), (7, [], []), (8, [], []), (9, [], []), (10, [], []), (11, [], []), (12, [], []), (13, [], []), (14, [], []), (15, [], []), (16, [], []), (17, [], []), (18, [], []), (19, [], []), (20, [], []), (21, [], []), (22, [], []), (23, [], []), (24, [], []), (25, [], []), (26, [], []), (27, [], []), (28, [], []), (29, [], []), (30, [], [])] (by kernel_rfl) ?_)) <;> simp [-qt, -qd, -ql, rgs, hs]) | ((first | (with_reducible refine zQ ?_ ?_)) <;> intro qb <;> (have qp := qb; try simp only [psq] at qp) <;> simp [-qt, -qd, -ql, rgs, hs, qb])
    all_goals (try clear hnx)
    all_goals first | (simp_all [yN]; done) | (simp_all [yN]; omega) | (rw [Bool.eq_iff_iff]; simp_all [yN]; done) | (rw [Bool.eq_iff_iff]; simp_all [yN]; omega) | omega | (simp only [yN]; grind) | grind
end Go.AE.Tryz
end

section
/- Contracts of the reference's readers: heaps, timers, trees, events. -/
set_option linter.unusedSimpArgs false
set_option linter.unusedVariables false
set_option maxRecDepth 8000
set_option maxHeartbeats 4000000
namespace Go.AE.Tryz
open Go.Proofs
open List renaming map_take → qt, map_drop → qd, map_tail → ql

theorem s_l3Ahead {a b : Twg} : PC ctx.P 379 [.agg (yX a), .agg (yX b)] (.bool (decide (zA7 a b < 0))) := by
  rw [twgCmp_lt]
  refine PC.o okC Tryz.func379 rfl (.bool _) fun h nx hnx => ?_
  try simp [-qt, -qd, -ql, rgs, yX]
  repeat' first | done | ((first | (with_reducible refine zE ?_ ?_)) <;> intro qb <;> (have qp := qb; try simp only [psq] at qp) <;> simp [-qt, -qd, -ql, rgs, yX, qb])
  all_goals (try clear hnx)
  all_goals first | (simp_all []; done) | (simp_all []; omega) | (rw [Bool.eq_iff_iff]; simp_all []; done) | (rw [Bool.eq_iff_iff]; simp_all []; omega) | omega | (simp only []; grind) | grind
theorem s_l3Parts {p : Bool} {l : List Twg} (hp : 0 < l.length) (h0 : 0 ≤ (gt l 0).lefts) (h1 : (gt l 0).lefts < l.length) :
    PC ctx.P 378 [.view p 3 (l.map yX)] (.tup [.view p 3 ((l.tail.take (gt l 0).lefts.toNat).map yX), .view p 3 ((l.drop ((gt l 0).lefts.toNat + 1)).map yX), .bool true]) := by
  refine PC.lim (n := l.length) (x := .view p 3 (l.map yX)) (by simp) (.here (by simp)) ⟨_, Tryz.func378, by kernel_rfl, by kernel_rfl⟩ fun hlim => ?_
  simp only [LIM] at hlim
  have q1 : (1 + (gt l 0).lefts).toNat = (gt l 0).lefts.toNat + 1 := by omega
  have q2 : inR (gt l 0).lefts 0 ((l.length : Int) - 1) = true := by rw [zC1]; omega
  refine PC.o okC Tryz.func378 rfl (.tup _ (by simp [-List.map_take, -List.map_drop]; exact ⟨.vmap uA, .vmap uA⟩)) fun h nx hnx => ?_
  try simp [-qt, -qd, -ql, rgs, yX, zF (x := 1 + (gt l 0).lefts) (by omega), zF (x := (l.length : Int) - 1) (by omega), q1, q2]
  repeat' first | done | ((first | ((with_reducible show zT _ _ _ _ _ _); refine zB rfl fun _ => ?_) | ((with_reducible show zH _ _ _ _ _ _ _); refine zC rfl omA omA ?_) | ((with_reducible show yA _ _ _ _ _ _ _ _); refine vJ rfl omA omA ?_) | ((with_reducible show yA _ _ _ _ _ _ _ _); refine yO rfl omA omA ?_) | ((with_reducible show yA _ _ _ _ _ _ _ _); refine yY rfl omA omA omA ?_) | ((with_reducible show yE _ _ _ _ _ _ _ _ _ _ _); refine vC rfl omA omA ?_) | ((with_reducible show yE _ _ _ _ _ _ _ _ _ _ _); refine yL rfl omA omA ?_) | ((with_reducible show yE _ _ _ _ _ _ _ _ _ _ _); refine yU rfl omA omA omA ?_) | ((with_reducible show zG _ _ _ 252 _ _); refine zD (zA8) ?_) | (with_reducible refine zI (i := 4) [(0, [], []), (1, [], []), (2, [], []), (3, [], []), (4, [], []), (5, [], []), (6, [], []), (7, [], []), (8, [], []), (9, [], []), (10, [], [])] (by kernel_rfl) ?_)) <;> simp [-qt, -qd, -ql, rgs, yX, zF (x := 1 + (gt l 0).lefts) (by omega), zF (x := (l.length : Int) - 1) (by omega), q1, q2]) | ((first | (with_reducible refine zA ?_ ?_)) <;> intro qb <;> (have qp := qb; try simp only [psq] at qp) <;> simp [-qt, -qd, -ql, rgs, yX, zF (x := 1 + (gt l 0).lefts) (by omega), zF (x := (l.length : Int) - 1) (by omega), q1, q2, qb])
theorem s_l3PartsN {p : Bool} {l : List Twg} (hp : 0 < l.length) (h0 : ¬ (0 ≤ (gt l 0).lefts ∧ (gt l 0).lefts < l.length)) :
    PC ctx.P 378 [.view p 3 (l.map yX)] (.tup [.view true 3 [], .view true 3 [], .bool false]) := by
  refine PC.lim (n := l.length) (x := .view p 3 (l.map yX)) (by simp) (.here (by simp)) ⟨_, Tryz.func378, by kernel_rfl, by kernel_rfl⟩ fun hlim => ?_
  simp only [LIM] at hlim
  have q2 : inR (gt l 0).lefts 0 ((l.length : Int) - 1) = false := by rw [zL4]; omega
  refine PC.o okC Tryz.func378 rfl (.tup _ (by simp; exact .view' (by simp))) fun h nx hnx => ?_
  try simp [-qt, -qd, -ql, rgs, yX, zF (x := (l.length : Int) - 1) (by omega), q2]
  repeat' first | done | ((first | ((with_reducible show zT _ _ _ _ _ _); refine zB rfl fun _ => ?_) | ((with_reducible show zH _ _ _ _ _ _ _); refine zC rfl omA omA ?_) | ((with_reducible show yA _ _ _ _ _ _ _ _); refine vJ rfl omA omA ?_) | ((with_reducible show yA _ _ _ _ _ _ _ _); refine yO rfl omA omA ?_) | ((with_reducible show yA _ _ _ _ _ _ _ _); refine yY rfl omA omA omA ?_) | ((with_reducible show yE _ _ _ _ _ _ _ _ _ _ _); refine vC rfl omA omA ?_) | ((with_reducible show yE _ _ _ _ _ _ _ _ _ _ _); refine yL rfl omA omA ?_) | ((with_reducible show yE _ _ _ _ _ _ _ _ _ _ _); refine yU rfl omA omA omA ?_) | ((with_reducible show zG _ _ _ 252 _ _); refine zD (zA8) ?_) | (with_reducible refine zI (i := 4) [(0, [], []), (1, [], []), (2, [], []), (3, [], []), (4, [], []), (5, [], []), (6, [], []), (7, [], []), (8, [], []), (9, [], []), (10, [], [])] (by kernel_rfl) ?_)) <;> simp [-qt, -qd, -ql, rgs, yX, zF (x := (l.length : Int) - 1) (by omega), q2]) | ((first | (with_reducible refine zA ?_ ?_)) <;> intro qb <;> (have qp := qb; try simp only [psq] at qp) <;> simp [-qt, -qd, -ql, rgs, yX, zF (x := (l.length : Int) - 1) (by omega), q2, qb])
theorem s_l3RankN {p : Bool} : ∀ (n : Nat) (l : List Twg), l.length ≤ n → PC ctx.P 359 [.view p 3 (l.map yX)] (.int .i64 (rkI l)) := by
  intro n
  induction n with
  | zero =>
    intro l hl
    obtain rfl : l = [] := by simpa using hl
    refine PC.o okC Tryz.func359 rfl (.int _ _) fun h nx hnx => ?_
    try simp [-qt, -qd, -ql, rgs, rkI_nil]
    repeat' first | done | ((first | ((with_reducible show zT _ _ _ _ _ _); refine zB rfl fun _ => ?_) | ((with_reducible show zH _ _ _ _ _ _ _); refine zC rfl omA omA ?_) | (with_reducible refine zI (i := 4) [(0, [], []), (1, [], []), (2, [], []), (3, [], []), (4, [], []), (5, [], []), (6, [], []), (7, [], []), (8, [], []), (9, [], []), (10, [], []), (11, [], []), (12, [], []), (13, [], []), (14, [], []), (15, [], []), (16, [], []), (17, [], []), (18, [], []), (19, [], []), (20, [], []), (21, [], []), (22, [], []), (23, [], []), (24, [], []), (25, [], []), (26, [], []), (27, [], []), (28, [], []), (29, [], []), (30, [], []), (31, [], [])] (by kernel_rfl) ?_)) <;> simp [-qt, -qd, -ql, rgs, rkI_nil]) | ((first | (with_reducible refine zQ ?_ ?_) | (with_reducible refine zE ?_ ?_) | (with_reducible refine zA ?_ ?_)) <;> intro qb <;> (have qp := qb; try simp only [psq] at qp) <;> simp [-qt, -qd, -ql, rgs, rkI_nil, qb])
  | succ n ih =>
    intro l hl
    refine PC.lim (n := l.length) (x := .view p 3 (l.map yX)) (by simp) (.here (by simp)) ⟨_, Tryz.func359, by kernel_rfl, by kernel_rfl⟩ fun hlim => ?_
    by_cases hp : 0 < l.length
    · by_cases hb : 0 ≤ (gt l 0).lefts ∧ (gt l 0).lefts < l.length
      · have i1 := ih (l.tail.take (gt l 0).lefts.toNat) (by simp; omega)
        have i2 := ih (l.drop ((gt l 0).lefts.toNat + 1)) (by simp; omega)
        have e := rkI_step hp hb.1 hb.2
        have hr := rkI_le (l.drop ((gt l 0).lefts.toNat + 1))
        simp only [LIM] at hlim
        simp only [List.length_drop] at hr
        refine PC.o okC Tryz.func359 rfl (.int _ _) fun h nx hnx => ?_
        try simp [-qt, -qd, -ql, rgs, yX, zF (x := rkI (l.drop ((gt l 0).lefts.toNat + 1)) + 1) (by omega)]
        repeat' first | done | ((first | ((with_reducible show zT _ _ _ _ _ _); refine zB rfl fun _ => ?_) | ((with_reducible show zH _ _ _ _ _ _ _); refine zC rfl omA omA ?_) | ((with_reducible show zG _ _ _ 378 _ _); refine zD (s_l3Parts hp hb.1 hb.2) ?_) | ((with_reducible show zG _ _ _ 379 _ _); refine zD (s_l3Ahead (a := gt l 0)) ?_) | (refine zD (i1) ?_) | (refine zD (i2) ?_) | (with_reducible refine zI (i := 4) [(0, [], []), (1, [], []), (2, [], []), (3, [], []), (4, [], []), (5, [], []), (6, [], []), (7, [], []), (8, [], []), (9, [], []), (10, [], []), (11, [], []), (12, [], []), (13, [], []), (14, [], []), (15, [], []), (16, [], []), (17, [], []), (18, [], []), (19, [], []), (20, [], []), (21, [], []), (22, [], []), (23, [], []), (24, [], []), (25, [], []), (26, [], []), (27, [], []), (28, [], []), (29, [], []), (30, [], []), (31, [], [])] (by kernel_rfl) ?_)) <;> simp [-qt, -qd, -ql, rgs, yX, zF (x := rkI (l.drop ((gt l 0).lefts.toNat + 1)) + 1) (by omega)]) | ((first | (with_reducible refine zQ ?_ ?_) | (with_reducible refine zE ?_ ?_) | (with_reducible refine zA ?_ ?_)) <;> intro qb <;> (have qp := qb; try simp only [psq] at qp) <;> simp [-qt, -qd, -ql, rgs, yX, zF (x := rkI (l.drop ((gt l 0).lefts.toNat + 1)) + 1) (by omega), qb])
        all_goals (clear ih i1 i2 hnx; rw [e]; grind)
      · have e := rkI_bad hp hb
        refine PC.o okC Tryz.func359 rfl (.int _ _) fun h nx hnx => ?_
        try simp [-qt, -qd, -ql, rgs, e]
        repeat' first | done | ((first | ((with_reducible show zT _ _ _ _ _ _); refine zB rfl fun _ => ?_) | ((with_reducible show zH _ _ _ _ _ _ _); refine zC rfl omA omA ?_) | ((with_reducible show zG _ _ _ 378 _ _); refine zD (s_l3PartsN hp hb) ?_) | (with_reducible refine zI (i := 4) [(0, [], []), (1, [], []), (2, [], []), (3, [], []), (4, [], []), (5, [], []), (6, [], []), (7, [], []), (8, [], []), (9, [], []), (10, [], []), (11, [], []), (12, [], []), (13, [], []), (14, [], []), (15, [], []), (16, [], []), (17, [], []), (18, [], []), (19, [], []), (20, [], []), (21, [], []), (22, [], []), (23, [], []), (24, [], []), (25, [], []), (26, [], []), (27, [], []), (28, [], []), (29, [], []), (30, [], []), (31, [], [])] (by kernel_rfl) ?_)) <;> simp [-qt, -qd, -ql, rgs, e]) | ((first | (with_reducible refine zQ ?_ ?_) | (with_reducible refine zE ?_ ?_) | (with_reducible refine zA ?_ ?_)) <;> intro qb <;> (have qp := qb; try simp only [psq] at qp) <;> simp [-qt, -qd, -ql, rgs, e, qb])
        all_goals omega
    · obtain rfl : l = [] := by cases l <;> simp at hp ⊢
      refine PC.o okC Tryz.func359 rfl (.int _ _) fun h nx hnx => ?_
      try simp [-qt, -qd, -ql, rgs, rkI_nil]
      repeat' first | done | ((first | ((with_reducible show zT _ _ _ _ _ _); refine zB rfl fun _ => ?_) | ((with_reducible show zH _ _ _ _ _ _ _); refine zC rfl omA omA ?_) | (with_reducible refine zI (i := 4) [(0, [], []), (1, [], []), (2, [], []), (3, [], []), (4, [], []), (5, [], []), (6, [], []), (7, [], []), (8, [], []), (9, [], []), (10, [], []), (11, [], []), (12, [], []), (13, [], []), (14, [], []), (15, [], []), (16, [], []), (17, [], []), (18, [], []), (19, [], []), (20, [], []), (21, [], []), (22, [], []), (23, [], []), (24, [], []), (25, [], []), (26, [], []), (27, [], []), (28, [], []), (29, [], []), (30, [], []), (31, [], [])] (by kernel_rfl) ?_)) <;> simp [-qt, -qd, -ql, rgs, rkI_nil]) | ((first | (with_reducible refine zQ ?_ ?_) | (with_reducible refine zE ?_ ?_) | (with_reducible refine zA ?_ ?_)) <;> intro qb <;> (have qp := qb; try simp only [psq] at qp) <;> simp [-qt, -qd, -ql, rgs, rkI_nil, qb])
theorem s_l3Rank {p : Bool} {l : List Twg} : PC ctx.P 359 [.view p 3 (l.map yX)] (.int .i64 (rkI l)) := s_l3RankN _ _ (Nat.le_refl _)
theorem s_l3Twice {p : Bool} {l : List Twg} : PC ctx.P 358 [.view p 3 (l.map yX)] (.bool (!zM2 l)) := by
  refine PC.lim (n := l.length) (x := .view p 3 (l.map yX)) (by simp) (.here (by simp)) ⟨_, Tryz.func358, by kernel_rfl, by kernel_rfl⟩ fun hlim => ?_
  refine PC.o okC Tryz.func358 rfl (.bool _) fun h nx hnx => ?_
  try simp [-qt, -qd, -ql, rgs]
  repeat' first | done | ((first | ((with_reducible show zT _ _ _ _ _ _); refine zB rfl fun _ => ?_) | ((with_reducible show zH _ _ _ _ _ _ _); refine zC rfl omA omA ?_) | (with_reducible refine zI (i := 7) [(0, [], []), (1, [], []), (2, [], []), (3, [], []), (4, [], []), (5, [], []), (6, [], []), (7, [], []), (8, [], []), (9, [], []), (10, [], [])] (by kernel_rfl) ?_)) <;> simp [-qt, -qd, -ql, rgs]) | ((first | (with_reducible refine zA ?_ ?_)) <;> intro qb <;> (have qp := qb; try simp only [psq] at qp) <;> simp [-qt, -qd, -ql, rgs, qb])
  refine zU [2, 3, 4, 5, 6, 7, 8, 9, 10, 11, 12, 13, 14, 15, 16, 17, 18, 19, 20, 21, 22, 23, 24, 25, 26] (l.length) (fun (i : Nat) a => [(3, .int .i64 i)]) (fun i_ a_ h_ _ => (fun i (_ : Unit) _ => uF (fun i x => !(decide (0 ≤ zJ9 (l.take i.toNat) x.seq))) (l.drop i) i = zM2 l) i_ a_ h_) (()) (by simp) ?_ zP (Nat.le_refl _) ?_
  · simp [zM2]
  · intro i a tm h' n' hle hJ hE hn' next hnx
    try dsimp only at hJ
    have hK : KeepB nx h' h := KeepB.sub hE zK (by omega)
    simp [-qt, -qd, -ql]
    try simp [-qt, -qd, -ql, rgs]
    repeat' first | done | ((first | ((with_reducible show zT _ _ _ _ _ _); refine zB rfl fun _ => ?_) | ((with_reducible show zH _ _ _ _ _ _ _); refine zC rfl omA omA ?_) | (with_reducible refine zI (i := 7) [(0, [], []), (1, [], []), (2, [], []), (3, [], []), (4, [], []), (5, [], []), (6, [], []), (7, [], []), (8, [], []), (9, [], []), (10, [], [])] (by kernel_rfl) ?_)) <;> simp [-qt, -qd, -ql, rgs]) | ((first | (with_reducible refine zA ?_ ?_)) <;> intro qb <;> (have qp := qb; try simp only [psq] at qp) <;> simp [-qt, -qd, -ql, rgs, qb])
    · refine zU [2, 4, 11, 12, 13, 14, 15, 16, 17, 18, 19, 20, 21, 22, 23, 24, 25, 26] (i) (fun (i : Nat) a => [(4, .int .i64 i)]) (fun i_ a_ h_ _ => (fun j (_ : Unit) _ => yV (fun y => y.seq == (gt l (i : Int)).seq) ((l.take i).drop j) j = zJ9 (l.take i) (gt l (i : Int)).seq) i_ a_ h_) (()) (by simp) ?_ zP (Nat.le_refl _) ?_
      · simp [zJ9]
      · intro j b tm2 h2 n2 hle2 hJ2 hE2 hn2 next2 hnx2
        try dsimp only at hJ2
        have hK2 : KeepB nx h2 h := KeepB.sub hE2 zK (by omega)
        simp [-qt, -qd, -ql]
        try simp [-qt, -qd, -ql, rgs, yX]
        repeat' first | done | ((first | ((with_reducible show zT _ _ _ _ _ _); refine zB rfl fun _ => ?_) | ((with_reducible show zH _ _ _ _ _ _ _); refine zC rfl omA omA ?_) | (with_reducible refine zI (i := 7) [(0, [], []), (1, [], []), (2, [], []), (3, [], []), (4, [], []), (5, [], []), (6, [], []), (7, [], []), (8, [], []), (9, [], []), (10, [], [])] (by kernel_rfl) ?_)) <;> simp [-qt, -qd, -ql, rgs, yX]) | ((first | (with_reducible refine zA ?_ ?_)) <;> intro qb <;> (have qp := qb; try simp only [psq] at qp) <;> simp [-qt, -qd, -ql, rgs, yX, qb])
        · have r := idx_here (by omega) (by omega) hJ2 (by simp; omega)
          exact ⟨seqs_false (by omega) hJ (by omega), zK⟩
        · refine hnx2.go () (by omega) (by simp [zM (show j < l.length by omega) hlim]) (by simp) zK (by first | omega | (simp; omega)) ?_
          exact idx_on (by omega) (by omega) hJ2 (by simp; omega)
        · have r := idx_end (by omega) hJ2
          refine hnx.go () (by omega) (by simp [zM (show i < l.length by omega) hlim]) (by simp) zK (by first | omega | (simp; omega)) ?_
          exact seqs_next (by omega) hJ (by omega)
    · refine ⟨?_, zK⟩
      rw [List.drop_eq_nil_of_le (by omega)] at hJ
      exact hJ.symm
theorem s_HeapOk {p : Bool} {l : List Twg} : PC ctx.P 307 [.view p 3 (l.map yX)] (.bool (zF0 l)) := by
  rw [heapOk_eq]
  refine PC.o okC Tryz.func307 rfl (.bool _) fun h nx hnx => ?_
  try simp [-qt, -qd, -ql, rgs]
  repeat' first | done | ((first | ((with_reducible show zT _ _ _ _ _ _); refine zB rfl fun _ => ?_) | ((with_reducible show zG _ _ _ 358 _ _); refine zD (s_l3Twice) ?_) | ((with_reducible show zG _ _ _ 359 _ _); refine zD (s_l3Rank) ?_)) <;> simp [-qt, -qd, -ql, rgs]) | ((first | (with_reducible refine zE ?_ ?_)) <;> intro qb <;> (have qp := qb; try simp only [psq] at qp) <;> simp [-qt, -qd, -ql, rgs, qb])
  all_goals (try clear hnx)
  all_goals first | (simp_all []; done) | (simp_all []; omega) | (rw [Bool.eq_iff_iff]; simp_all []; done) | (rw [Bool.eq_iff_iff]; simp_all []; omega) | omega | (simp only []; grind) | grind
theorem s_l4At {F : Nat → Bool} {t : Tms} {s : Int} : PC ctx.P 234 [.agg (uT F t), .int .i64 s] (.int .i64 (zF9 t.list s)) := by
  refine PC.lim (n := t.list.length) (x := .agg (uT F t)) (by simp) (.agg (x := .view (F 7) 5 (t.list.map vN)) (by simp [uT]) (.here (by simp))) ⟨_, Tryz.func234, by kernel_rfl, by kernel_rfl⟩ fun hlim => ?_
  refine PC.o okC Tryz.func234 rfl (.int _ _) fun h nx hnx => ?_
  try simp [-qt, -qd, -ql, rgs, uT]
  repeat' first | done | ((first | ((with_reducible show zT _ _ _ _ _ _); refine zB rfl fun _ => ?_) | ((with_reducible show zH _ _ _ _ _ _ _); refine zC rfl omA omA ?_)) <;> simp [-qt, -qd, -ql, rgs, uT]) | ((first | (with_reducible refine zA ?_ ?_)) <;> intro qb <;> (have qp := qb; try simp only [psq] at qp) <;> simp [-qt, -qd, -ql, rgs, uT, qb])
  refine zU [4, 5, 6, 7, 8, 9, 10, 11, 12, 13, 14, 15, 16, 17, 18, 19, 20, 21] (t.list.length) (fun (i : Nat) a => [(5, .int .i64 i)]) (fun i_ a_ h_ _ => (fun i (_ : Unit) _ => yV (fun x => x.seq == s) (t.list.drop i) i = zF9 t.list s) i_ a_ h_) (()) (by simp) ?_ zP (Nat.le_refl _) ?_
  · simp [zF9]
  · intro i a tm h' n' hle hJ hE hn' next hnx
    try dsimp only at hJ
    have hK : KeepB nx h' h := KeepB.sub hE zK (by omega)
    simp [-qt, -qd, -ql]
    have e1 : h' (nx) = some (.obj (uT F t)) := by have := hE (nx) (by omega); simpa [uT] using this
    have e1n : ∀ k, ((nx) = n' + k) = False := fun k => by simp only [eq_iff_iff, iff_false]; omega
    have e1m : ((nx) = n') = False := by simp only [eq_iff_iff, iff_false]; omega
    try simp [-qt, -qd, -ql, rgs, uT, vN, e1, e1n, e1m]
    repeat' first | done | ((first | ((with_reducible show zT _ _ _ _ _ _); refine zB rfl fun _ => ?_) | ((with_reducible show zH _ _ _ _ _ _ _); refine zC rfl omA omA ?_)) <;> simp [-qt, -qd, -ql, rgs, uT, vN, e1, e1n, e1m]) | ((first | (with_reducible refine zA ?_ ?_)) <;> intro qb <;> (have qp := qb; try simp only [psq] at qp) <;> simp [-qt, -qd, -ql, rgs, uT, vN, e1, e1n, e1m, qb])
    all_goals
      first
      | (have hlt : i < t.list.length := (by first | omega | (simp at *; omega))
         rw [zS hlt] at hJ
         first
         | (refine hnx.go (()) ?_ ?_ ?_ ?_ ?_ ?_; omega; (simp [zM hlt hlim]); (simp); exact zK; (first | omega | (simp; omega)); (try dsimp only); clear hnx; first | ((try simp only [List.drop_length, Int.toNat_natCast, yV] at hJ ⊢); grind) | (simp_all [yV]; done) | (simp_all; omega))
         | (refine ⟨?_, zK⟩; clear hnx; first | ((try simp only [List.drop_length, Int.toNat_natCast, yV] at hJ ⊢); grind) | (simp_all [yV]; done) | (simp_all; omega)))
      | (obtain rfl : i = t.list.length := (by first | omega | (simp at *; omega))
         refine ⟨?_, zK⟩; clear hnx; first | ((try simp only [List.drop_length, Int.toNat_natCast, yV] at hJ ⊢); grind) | (simp_all [yV]; done) | (simp_all; omega))
theorem s_l4Timer {x : Tmr} {n : Int} (h : -9223372036854775808 < n ∧ n < 9223372036854775808) : PC ctx.P 308 [.agg (vN x), .int .i64 n] (.bool (tmr1 x n)) := by
  refine PC.o okC Tryz.func308 rfl (.bool _) fun h nx hnx => ?_
  try simp [-qt, -qd, -ql, rgs, vN, zF (x := n - 1) (by omega)]
  repeat' first | done | ((first | ((with_reducible show zG _ _ _ 252 _ _); refine zD (zA8) ?_)) <;> simp [-qt, -qd, -ql, rgs, vN, zF (x := n - 1) (by omega)]) | ((first | (with_reducible refine zE ?_ ?_)) <;> intro qb <;> (have qp := qb; try simp only [psq] at qp) <;> simp [-qt, -qd, -ql, rgs, vN, zF (x := n - 1) (by omega), qb])
  all_goals (try clear hnx)
  all_goals first | (simp_all [tmr1]; done) | (simp_all [tmr1]; omega) | (rw [Bool.eq_iff_iff]; simp_all [tmr1]; done) | (rw [Bool.eq_iff_iff]; simp_all [tmr1]; omega) | omega | (simp only [tmr1]; grind) | grind
theorem s_TimersOk {F : Nat → Bool} {t : Tms} : PC ctx.P 208 [.agg (uT F t)] (.bool (uV t)) := by
  refine PC.lim (n := t.list.length) (x := .agg (uT F t)) (by simp) (.agg (x := .view (F 7) 5 (t.list.map vN)) (by simp [uT]) (.here (by simp))) ⟨_, Tryz.func208, by kernel_rfl, by kernel_rfl⟩ fun hlim => ?_
  refine PC.lim (n := t.heap.length) (x := .agg (uT F t)) (by simp) (.agg (x := .view (F 6) 3 (t.heap.map yX)) (by simp [uT]) (.here (by simp))) ⟨_, Tryz.func208, by kernel_rfl, by kernel_rfl⟩ fun hlim2 => ?_
  refine PC.o okC Tryz.func208 rfl (.bool _) fun h nx hnx => ?_
  try simp [-qt, -qd, -ql, rgs, uT]
  repeat' first | done | ((first | ((with_reducible show zT _ _ _ _ _ _); refine zB rfl fun _ => ?_) | ((with_reducible show zH _ _ _ _ _ _ _); refine zC rfl omA omA ?_) | ((with_reducible show zG _ _ _ 252 _ _); refine zD (zA8) ?_) | ((with_reducible show zG _ _ _ 307 _ _); refine zD (s_HeapOk) ?_) | (with_reducible refine zI (i := 7) [(0, [], []), (1, [], []), (2, [], []), (3, [], []), (4, [], []), (5, [], []), (6, [], []), (7, [], []), (8, [], []), (9, [], []), (10, [], []), (11, [], []), (12, [], []), (13, [], []), (14, [], []), (15, [], []), (16, [], []), (17, [], []), (18, [], []), (19, [], []), (20, [], []), (21, [], []), (22, [], []), (23, [], []), (24, [], []), (25, [], []), (26, [], []), (27, [], []), (28, [], [])] (by kernel_rfl) ?_) | (with_reducible refine zI (i := 14) [(0, [], []), (1, [], []), (2, [], []), (3, [], []), (4, [], []), (5, [], []), (6, [], []), (7, [], []), (8, [], [])] (by kernel_rfl) ?_) | (with_reducible refine zI (i := 15) [(0, [], []), (1, [], []), (2, [], []), (3, [], []), (4, [], []), (5, [], []), (6, [], []), (7, [], []), (8, [], []), (9, [], []), (10, [], []), (11, [], []), (12, [], []), (13, [], []), (14, [], []), (15, [], []), (16, [], []), (17, [], []), (18, [], []), (19, [], []), (20, [], []), (21, [], []), (22, [], []), (23, [], []), (24, [], []), (25, [], [])] (by kernel_rfl) ?_)) <;> simp [-qt, -qd, -ql, rgs, uT]) | ((first | (with_reducible refine zQ ?_ ?_) | (with_reducible refine zE ?_ ?_) | (with_reducible refine zA ?_ ?_)) <;> intro qb <;> (have qp := qb; try simp only [psq] at qp) <;> simp [-qt, -qd, -ql, rgs, uT, qb])
  · all_goals (try clear hnx)
    all_goals first | (simp_all [uV]; done) | (simp_all [uV]; omega) | (rw [Bool.eq_iff_iff]; simp_all [uV]; done) | (rw [Bool.eq_iff_iff]; simp_all [uV]; omega) | omega | (simp only [uV]; grind) | grind
  · simp [uV]; omega
  · all_goals (try clear hnx)
    all_goals first | (simp_all [uV]; done) | (simp_all [uV]; omega) | (rw [Bool.eq_iff_iff]; simp_all [uV]; done) | (rw [Bool.eq_iff_iff]; simp_all [uV]; omega) | omega | (simp only [uV]; grind) | grind
  · have hnl : -9223372036854775808 < t.next ∧ t.next < 9223372036854775808 := by omega
    refine zU [2, 3, 4, 23, 24, 25, 26, 27, 28, 29, 30, 31, 32, 33, 34, 35, 36, 37, 38, 39, 40, 41, 42, 43, 44, 45, 46, 47, 48, 49, 50, 51, 52, 53, 54, 55, 56, 57, 58, 59, 60, 61, 62, 63, 64, 65, 66] (t.list.length) (fun (i : Nat) a => [(4, .int .i64 i), (3, .int .i64 a.2)]) (fun i_ a_ h_ _ => (fun (i : Nat) (a : Int × Int) _ => a.1 = (if i = 0 then -1 else (gt t.list ((i : Int) - 1)).seq) ∧ -1 ≤ a.1 ∧ zE0 t.next (t.list.drop i) a.1 = zE0 t.next t.list (-1) ∧ a.2 + cntB (·.armed) (t.list.drop i) = cntB (·.armed) t.list ∧ 0 ≤ a.2 ∧ a.2 ≤ i) i_ a_ h_) ((-1, 0)) (by simp) ?_ zP (Nat.le_refl _) ?_
    · simp
    · intro i a tm h' n' hle hJ hE hn' next hnx
      try dsimp only at hJ
      have hK : KeepB nx h' h := KeepB.sub hE zK (by omega)
      simp [-qt, -qd, -ql]
      have e1 : h' (nx) = some (.obj (uT F t)) := by have := hE (nx) (by omega); simpa [uT] using this
      have e1n : ∀ k, ((nx) = n' + k) = False := fun k => by simp only [eq_iff_iff, iff_false]; omega
      have e1m : ((nx) = n') = False := by simp only [eq_iff_iff, iff_false]; omega
      simp only [LIM] at hlim
      try simp [-qt, -qd, -ql, rgs, uT, vN, e1, e1n, e1m, zF (x := (i : Int) - 1) (by omega)]
      repeat' first | done | ((first | ((with_reducible show zT _ _ _ _ _ _); refine zB rfl fun _ => ?_) | ((with_reducible show zH _ _ _ _ _ _ _); refine zC rfl omA omA ?_) | ((with_reducible show zG _ _ _ 308 _ _); refine zD (s_l4Timer hnl) ?_) | (with_reducible refine zI (i := 7) [(0, [], []), (1, [], []), (2, [], []), (3, [], []), (4, [], []), (5, [], []), (6, [], []), (7, [], []), (8, [], []), (9, [], []), (10, [], []), (11, [], []), (12, [], []), (13, [], []), (14, [], []), (15, [], []), (16, [], []), (17, [], []), (18, [], []), (19, [], []), (20, [], []), (21, [], []), (22, [], []), (23, [], []), (24, [], []), (25, [], []), (26, [], []), (27, [], []), (28, [], [])] (by kernel_rfl) ?_) | (with_reducible refine zI (i := 14) [(0, [], []), (1, [], []), (2, [], []), (3, [], []), (4, [], []), (5, [], []), (6, [], []), (7, [], []), (8, [], [])] (by kernel_rfl) ?_) | (with_reducible refine zI (i := 15) [(0, [], []), (1, [], []), (2, [], []), (3, [], []), (4, [], []), (5, [], []), (6, [], []), (7, [], []), (8, [], []), (9, [], []), (10, [], []), (11, [], []), (12, [], []), (13, [], []), (14, [], []), (15, [], []), (16, [], []), (17, [], []), (18, [], []), (19, [], []), (20, [], []), (21, [], []), (22, [], []), (23, [], []), (24, [], []), (25, [], [])] (by kernel_rfl) ?_)) <;> simp [-qt, -qd, -ql, rgs, uT, vN, e1, e1n, e1m, zF (x := (i : Int) - 1) (by omega)]) | ((first | (with_reducible refine zQ ?_ ?_) | (with_reducible refine zE ?_ ?_) | (with_reducible refine zA ?_ ?_)) <;> intro qb <;> (have qp := qb; try simp only [psq] at qp) <;> simp [-qt, -qd, -ql, rgs, uT, vN, e1, e1n, e1m, zF (x := (i : Int) - 1) (by omega), qb])
      all_goals
        first
        | (have hlt : i < t.list.length := (by omega)
           obtain ⟨j0, j1, j2, j3, j4, j5⟩ := hJ
           rw [zS hlt] at j2 j3
           simp only [zE0, zL9] at j2 j3
           first
           | (refine ⟨?_, zK⟩; clear hnx; simp only [uV, tmr1, inR] at *; grind)
           | (refine hnx.go ((gt t.list (i : Int)).seq, a.2 + 1) ?_ ?_ ?_ ?_ ?_ ?_; omega; (simp [zF (x := (i : Int) + 1) (by omega), zF (x := a.2 + 1) (by omega)]); simp; exact zK; (first | omega | (simp; omega)); (clear hnx; dsimp only; simp only [tmr1, inR] at *; grind))
           | (refine hnx.go ((gt t.list (i : Int)).seq, a.2) ?_ ?_ ?_ ?_ ?_ ?_; omega; (simp [zF (x := (i : Int) + 1) (by omega)]); simp; exact zK; (first | omega | (simp; omega)); (clear hnx; dsimp only; simp only [tmr1, inR] at *; grind)))
        | skip
      · have hfin : zE0 t.next t.list (-1) = true ∧ a.2 = cntB (·.armed) t.list := by
          obtain ⟨j0, j1, j2, j3, j4, j5⟩ := hJ
          rw [List.drop_eq_nil_of_le (by omega)] at j2 j3
          simp only [zE0, cntB_nil] at j2 j3
          exact ⟨j2.symm, by omega⟩
        refine zU [2, 5, 6, 67, 68, 69, 70, 71, 72, 73, 74, 75, 76, 77, 78, 79, 80, 81, 82, 83, 84, 85, 86, 87, 88, 89, 90, 91, 92, 93, 94, 95, 96, 97, 98, 99, 100, 101, 102, 103, 104, 105, 106, 107] (t.heap.length) (fun (i : Nat) a => [(5, .int .i64 i)]) (fun i_ a_ h_ _ => (fun j (_ : Unit) _ => (t.heap.drop j).any (fun h => decide (zF9 t.list h.seq < 0) || (!(gt t.list (zF9 t.list h.seq)).armed || (gt t.list (zF9 t.list h.seq)).due != h.due)) = t.heap.any (fun h => decide (zF9 t.list h.seq < 0) || (!(gt t.list (zF9 t.list h.seq)).armed || (gt t.list (zF9 t.list h.seq)).due != h.due))) i_ a_ h_) (()) (by simp) ?_ zP (Nat.le_refl _) ?_
        · simp
        · intro j b tm2 h2 n2 hle2 hJ2 hE2 hn2 next2 hnx2
          try dsimp only at hJ2
          have hK2 : KeepB nx h2 h := KeepB.sub hE2 zK (by omega)
          simp [-qt, -qd, -ql]
          have hat := tmsAt_lt t.list (gt t.heap (j : Int)).seq
          have e2 := (hE2 (nx) (by omega)).trans e1
          have e2n : ∀ k, ((nx) = n2 + k) = False := fun k => by simp only [eq_iff_iff, iff_false]; omega
          have e2m : ((nx) = n2) = False := by simp only [eq_iff_iff, iff_false]; omega
          try simp [-qt, -qd, -ql, rgs, uT, vN, yX, e2, e2n, e2m]
          repeat' first | done | ((first | ((with_reducible show zT _ _ _ _ _ _); refine zB rfl fun _ => ?_) | ((with_reducible show zH _ _ _ _ _ _ _); refine zC rfl omA omA ?_) | ((with_reducible show zG _ _ _ 234 _ _); refine zD (s_l4At (t := t) (F := F)) ?_) | (with_reducible refine zI (i := 7) [(0, [], []), (1, [], []), (2, [], []), (3, [], []), (4, [], []), (5, [], []), (6, [], []), (7, [], []), (8, [], []), (9, [], []), (10, [], []), (11, [], []), (12, [], []), (13, [], []), (14, [], []), (15, [], []), (16, [], []), (17, [], []), (18, [], []), (19, [], []), (20, [], []), (21, [], []), (22, [], []), (23, [], []), (24, [], []), (25, [], []), (26, [], []), (27, [], []), (28, [], [])] (by kernel_rfl) ?_) | (with_reducible refine zI (i := 14) [(0, [], []), (1, [], []), (2, [], []), (3, [], []), (4, [], []), (5, [], []), (6, [], []), (7, [], []), (8, [], [])] (by kernel_rfl) ?_) | (with_reducible refine zI (i := 15) [(0, [], []), (1, [], []), (2, [], []), (3, [], []), (4, [], []), (5, [], []), (6, [], []), (7, [], []), (8, [], []), (9, [], []), (10, [], []), (11, [], []), (12, [], []), (13, [], []), (14, [], []), (15, [], []), (16, [], []), (17, [], []), (18, [], []), (19, [], []), (20, [], []), (21, [], []), (22, [], []), (23, [], []), (24, [], []), (25, [], [])] (by kernel_rfl) ?_)) <;> simp [-qt, -qd, -ql, rgs, uT, vN, yX, e2, e2n, e2m]) | ((first | (with_reducible refine zQ ?_ ?_) | (with_reducible refine zE ?_ ?_) | (with_reducible refine zA ?_ ?_)) <;> intro qb <;> (have qp := qb; try simp only [psq] at qp) <;> simp [-qt, -qd, -ql, rgs, uT, vN, yX, e2, e2n, e2m, qb])
          all_goals clear hJ hnx
          all_goals
            first
            | (have hlt : j < t.heap.length := (by first | omega | (simp at *; omega))
               rw [zS hlt] at hJ2
               first
               | (refine hnx2.go (()) ?_ ?_ ?_ ?_ ?_ ?_; omega; (simp [zM hlt hlim2]); (simp); exact zK; (first | omega | (simp; omega)); (try dsimp only); clear hnx2; first | ((try simp only [List.drop_length, Int.toNat_natCast, List.any_cons, List.any_nil, uV] at hJ2 ⊢); grind) | (simp_all [List.any_cons, List.any_nil, uV]; done) | (simp_all; omega))
               | (refine ⟨?_, zK⟩; clear hnx2; first | ((try simp only [List.drop_length, Int.toNat_natCast, List.any_cons, List.any_nil, uV] at hJ2 ⊢); grind) | (simp_all [List.any_cons, List.any_nil, uV]; done) | (simp_all; omega)))
            | (obtain rfl : j = t.heap.length := (by first | omega | (simp at *; omega))
               refine ⟨?_, zK⟩; clear hnx2; first | ((try simp only [List.drop_length, Int.toNat_natCast, List.any_cons, List.any_nil, uV] at hJ2 ⊢); grind) | (simp_all [List.any_cons, List.any_nil, uV]; done) | (simp_all; omega))

theorem s_l5Node {n : Nod} : PC ctx.P 336 [.agg (vE n)] (.bool (nod1 n)) := by
  refine PC.o okC Tryz.func336 rfl (.bool _) fun h nx hnx => ?_
  try simp [-qt, -qd, -ql, rgs, vE]
  repeat' first | done | ((first | ((with_reducible show zG _ _ _ 252 _ _); refine zD (zA8) ?_)) <;> simp [-qt, -qd, -ql, rgs, vE]) | ((first | (with_reducible refine zE ?_ ?_) | (with_reducible refine zA ?_ ?_)) <;> intro qb <;> (have qp := qb; try simp only [psq] at qp) <;> simp [-qt, -qd, -ql, rgs, vE, qb])
  all_goals (try clear hnx)
  all_goals first | (simp_all [nod1, zI8]; done) | (simp_all [nod1, zI8]; omega) | (rw [Bool.eq_iff_iff]; simp_all [nod1, zI8]; done) | (rw [Bool.eq_iff_iff]; simp_all [nod1, zI8]; omega) | omega | (simp only [nod1, zI8]; grind) | grind
theorem s_TreeOk {p : Bool} {t : List Nod} : PC ctx.P 251 [.view p 5 (t.map vE)] (.bool (zB2 t)) := by
  rw [treeOk_eq]
  refine PC.lim (n := t.length) (x := .view p 5 (t.map vE)) (by simp) (.here (by simp)) ⟨_, Tryz.func251, by kernel_rfl, by kernel_rfl⟩ fun hlim => ?_
  have hlim2 := hlim
  simp only [LIM] at hlim2
  refine PC.o okC Tryz.func251 rfl (.bool _) fun h nx hnx => ?_
  try simp [-qt, -qd, -ql, rgs]
  repeat' first | done | ((first | ((with_reducible show zT _ _ _ _ _ _); refine zB rfl fun _ => ?_) | ((with_reducible show zH _ _ _ _ _ _ _); refine zC rfl omA omA ?_)) <;> simp [-qt, -qd, -ql, rgs]) | ((first | (with_reducible refine zA ?_ ?_)) <;> intro qb <;> (have qp := qb; try simp only [psq] at qp) <;> simp [-qt, -qd, -ql, rgs, qb])
  · simp_all; omega
  · refine zU [2, 3, 7, 8, 9, 10, 11, 12, 13, 14, 15, 16, 17, 18, 19, 20, 21, 22, 23, 24, 25, 26, 27, 28, 29, 30, 31, 32, 33, 34, 35, 36, 37, 38, 39] (t.length) (fun (i : Nat) a => [(3, .int .i64 i)]) (fun i_ a_ h_ _ => (fun i (_ : Unit) _ => uF (fun i n => zE9 n i) (t.drop i) i = uF (fun i n => zE9 n i) t 0) i_ a_ h_) (()) (by simp) ?_ zP (Nat.le_refl _) ?_
    · simp
    · intro i a tm h' n' hle hJ hE hn' next hnx
      try dsimp only at hJ
      have hK : KeepB nx h' h := KeepB.sub hE zK (by omega)
      simp [-qt, -qd, -ql]
      try simp [-qt, -qd, -ql, rgs, vE, zF (x := (i : Int)) (by omega), zF (x := (i : Int) - 1) (by omega)]
      repeat' first | done | ((first | ((with_reducible show zT _ _ _ _ _ _); refine zB rfl fun _ => ?_) | ((with_reducible show zH _ _ _ _ _ _ _); refine zC rfl omA omA ?_) | ((with_reducible show zG _ _ _ 336 _ _); refine zD (s_l5Node) ?_) | ((with_reducible show zG _ _ _ 252 _ _); refine zD (zA8) ?_)) <;> simp [-qt, -qd, -ql, rgs, vE, zF (x := (i : Int)) (by omega), zF (x := (i : Int) - 1) (by omega)]) | ((first | (with_reducible refine zA ?_ ?_)) <;> intro qb <;> (have qp := qb; try simp only [psq] at qp) <;> simp [-qt, -qd, -ql, rgs, vE, zF (x := (i : Int)) (by omega), zF (x := (i : Int) - 1) (by omega), qb])
      all_goals
        first
        | (have hlt : i < t.length := (by first | omega | (simp at *; omega))
           rw [zS hlt] at hJ
           first
           | (refine hnx.go (()) ?_ ?_ ?_ ?_ ?_ ?_; omega; (simp [zM hlt hlim]); (simp); exact zK; (first | omega | (simp; omega)); (try dsimp only); clear hnx; first | ((try simp only [List.drop_length, Int.toNat_natCast, uF, zG4] at hJ ⊢); grind) | (simp_all [uF, zG4]; done) | (simp_all; omega))
           | (refine ⟨?_, zK⟩; clear hnx; first | ((try simp only [List.drop_length, Int.toNat_natCast, uF, zG4] at hJ ⊢); grind) | (simp_all [uF, zG4]; done) | (simp_all; omega)))
        | (obtain rfl : i = t.length := (by first | omega | (simp at *; omega))
           refine ⟨?_, zK⟩; clear hnx; first | ((try simp only [List.drop_length, Int.toNat_natCast, uF, zG4] at hJ ⊢); grind) | (simp_all [uF, zG4]; done) | (simp_all; omega))
theorem s_l5Has {p : Bool} {t : List Nod} {n : Int} : PC ctx.P 302 [.view p 5 (t.map vE), .int .i64 n] (.bool (zB2 t && vV n t)) := by
  refine PC.lim (n := t.length) (x := .view p 5 (t.map vE)) (by simp) (.here (by simp)) ⟨_, Tryz.func302, by kernel_rfl, by kernel_rfl⟩ fun hlim => ?_
  refine PC.o okC Tryz.func302 rfl (.bool _) fun h nx hnx => ?_
  try simp [-qt, -qd, -ql, rgs, yC hlim]
  repeat' first | done | ((first | ((with_reducible show zT _ _ _ _ _ _); refine zB rfl fun _ => ?_) | ((with_reducible show zG _ _ _ 251 _ _); refine zD (s_TreeOk) ?_) | ((with_reducible show zG _ _ _ 252 _ _); refine zD (zA8) ?_)) <;> simp [-qt, -qd, -ql, rgs, yC hlim]) | ((first | (with_reducible refine zE ?_ ?_)) <;> intro qb <;> (have qp := qb; try simp only [psq] at qp) <;> simp [-qt, -qd, -ql, rgs, yC hlim, qb])
  all_goals (try clear hnx)
  all_goals first | (simp_all [vV]; done) | (simp_all [vV]; omega) | (rw [Bool.eq_iff_iff]; simp_all [vV]; done) | (rw [Bool.eq_iff_iff]; simp_all [vV]; omega) | omega | (simp only [vV]; grind) | grind
theorem s_l6In {p : Bool} {xs : List Int} {n : Int} : PC ctx.P 304 [.view p 1 (xs.map iv), .int .i64 n] (.bool (xs.contains n)) := by
  refine PC.lim (n := xs.length) (x := .view p 1 (xs.map iv)) (by simp) (.here (by simp)) ⟨_, Tryz.func304, by kernel_rfl, by kernel_rfl⟩ fun hlim => ?_
  refine PC.o okC Tryz.func304 rfl (.bool _) fun h nx hnx => ?_
  try simp [-qt, -qd, -ql, rgs]
  repeat' first | done | ((first | ((with_reducible show zT _ _ _ _ _ _); refine zB rfl fun _ => ?_) | ((with_reducible show zH _ _ _ _ _ _ _); refine zC rfl omA omA ?_)) <;> simp [-qt, -qd, -ql, rgs]) | ((first | (with_reducible refine zA ?_ ?_)) <;> intro qb <;> (have qp := qb; try simp only [psq] at qp) <;> simp [-qt, -qd, -ql, rgs, qb])
  refine zU [4, 5, 6, 7, 8, 9, 10, 11, 12, 13, 14, 15, 16, 17] (xs.length) (fun (i : Nat) a => [(5, .int .i64 i)]) (fun i_ a_ h_ _ => (fun i (_ : Unit) _ => ((xs.drop i).any fun x => x == n) = xs.contains n) i_ a_ h_) (()) (by simp) ?_ zP (Nat.le_refl _) ?_
  · simp [any_contains']
  · intro i a tm h' n' hle hJ hE hn' next hnx
    try dsimp only at hJ
    have hK : KeepB nx h' h := KeepB.sub hE zK (by omega)
    simp [-qt, -qd, -ql]
    try simp [-qt, -qd, -ql, rgs, iv]
    repeat' first | done | ((first | ((with_reducible show zT _ _ _ _ _ _); refine zB rfl fun _ => ?_) | ((with_reducible show zH _ _ _ _ _ _ _); refine zC rfl omA omA ?_)) <;> simp [-qt, -qd, -ql, rgs, iv]) | ((first | (with_reducible refine zA ?_ ?_)) <;> intro qb <;> (have qp := qb; try simp only [psq] at qp) <;> simp [-qt, -qd, -ql, rgs, iv, qb])
    all_goals
      first
      | (have hlt : i < xs.length := (by first | omega | (simp at *; omega))
         rw [zS hlt] at hJ
         first
         | (refine hnx.go (()) ?_ ?_ ?_ ?_ ?_ ?_; omega; (simp [zM hlt hlim]); (simp); exact zK; (first | omega | (simp; omega)); (try dsimp only); clear hnx; first | ((try simp only [List.drop_length, Int.toNat_natCast, List.any_cons, List.any_nil] at hJ ⊢); grind) | (simp_all [List.any_cons, List.any_nil]; done) | (simp_all; omega))
         | (refine ⟨?_, zK⟩; clear hnx; first | ((try simp only [List.drop_length, Int.toNat_natCast, List.any_cons, List.any_nil] at hJ ⊢); grind) | (simp_all [List.any_cons, List.any_nil]; done) | (simp_all; omega)))
      | (obtain rfl : i = xs.length := (by first | omega | (simp at *; omega))
         refine ⟨?_, zK⟩; clear hnx; first | ((try simp only [List.drop_length, Int.toNat_natCast, List.any_cons, List.any_nil] at hJ ⊢); grind) | (simp_all [List.any_cons, List.any_nil]; done) | (simp_all; omega))
end Go.AE.Tryz
end

section
/- Contracts of the reference's readers: chains, events, functions, tasks, groups. -/
set_option linter.unusedSimpArgs false
set_option linter.unusedVariables false
set_option maxRecDepth 8000
set_option maxHeartbeats 4000000
namespace Go.AE.Tryz
open Go.Proofs
open List renaming map_take → qt, map_drop → qd, map_tail → ql

theorem s_ChainOf {p : Bool} {t : List Nod} {n : Int} (ht : zB2 t = true) (h0 : 0 ≤ n) (h1 : n < t.length) : PC ctx.P 194 [.view p 5 (t.map vE), .int .i64 n] (.view true 1 ((zH0 t n).map iv)) := by
  have hl60 := treeOk_len ht
  have hin : vV n t = true := by rw [zM4]; omega
  refine PC.o okC Tryz.func194 rfl (.vmap zC3) fun h nx hnx => ?_
  try simp [-qt, -qd, -ql, rgs, ht, hin]
  repeat' first | done | ((first | ((with_reducible show zH _ _ _ _ _ _ _); refine zC rfl omA omA ?_) | ((with_reducible show zG _ _ _ 302 _ _); refine zD (s_l5Has) ?_) | ((with_reducible show zC9 _ _ _ _ _ _ _ _); refine zW rfl rfl (by decide) (by decide) (by first | (simp [-qt, -qd, -ql, rgs, ht, hin]; done) | (simp [-qt, -qd, -ql, rgs, ht, hin]; rfl)) (by first | (simp [-qt, -qd, -ql, rgs, ht, hin]; done) | (simp [-qt, -qd, -ql, rgs, ht, hin]; rfl)) (by first | (simp; done) | (simp; omega)) (by first | (simp only [yK, LIM] at *; simp; omega) | (simp only [yK]; simp; omega)) (by simp [iv, bv]) ?_)) <;> simp [-qt, -qd, -ql, rgs, ht, hin]) | ((first | (with_reducible refine zE ?_ ?_) | (with_reducible refine zA ?_ ?_)) <;> intro qb <;> (have qp := qb; try simp only [psq] at qp) <;> simp [-qt, -qd, -ql, rgs, ht, hin, qb])
  refine go_dnP (h0 := h) (nx0 := nx) [4, 5, 6, 14, 15, 16, 17, 18, 19, 20, 21, 22, 23, 24, 25, 26, 27, 28, 29, 30, 31, 32, 33, 34, 35, 36, 37] (fun a => [(6, .int .i64 a.1), (5, .ref a.2.2 1 0 a.2.1.length)]) (fun a => a.1.toNat) (fun (a : Int × List Int × Nat) h' n' => 0 ≤ a.1 ∧ a.1 < t.length ∧ nx ≤ a.2.2 ∧ h' a.2.2 = some (.row 1 (a.2.1.map iv)) ∧ a.2.1 ++ zH0 t a.1 = zH0 t n ∧ (a.2.1.length : Int) + a.1 ≤ n ∧ a.2.2 < n') ((n, [], nx + 1)) (by simp) ?_ zK (by omega) ?_
  · simp [h0, h1, iv]
  · intro a tm h' n' hJ hE hn' next hnx
    try dsimp only at hJ
    have hK : KeepB nx h' h := KeepB.sub hE zK (by omega)
    obtain ⟨m, pre, id⟩ := a
    obtain ⟨g0, g1, g2, g3, g4, g5, g6⟩ := hJ
    dsimp only at g0 g1 g2 g3 g4 g5 g6 ⊢
    have hs := chain_step ht g0 g1
    have hu := zG6 ht g0 g1
    have k1 : ∀ k, (id = n' + k) = False := fun k => by simp only [eq_iff_iff, iff_false]; omega
    try simp [-qt, -qd, -ql, rgs, vE, g3, k1, iv]
    repeat' first | done | ((first | ((with_reducible show zH _ _ _ _ _ _ _); refine zC rfl omA omA ?_) | ((with_reducible show zC9 _ _ _ _ _ _ _ _); refine zW rfl rfl (by decide) (by decide) (by first | (simp [-qt, -qd, -ql, rgs, vE, g3, k1, iv]; done) | (simp [-qt, -qd, -ql, rgs, vE, g3, k1, iv]; rfl)) (by first | (simp [-qt, -qd, -ql, rgs, vE, g3, k1, iv]; done) | (simp [-qt, -qd, -ql, rgs, vE, g3, k1, iv]; rfl)) (by first | (simp; done) | (simp; omega)) (by first | (simp only [yK, LIM] at *; simp; omega) | (simp only [yK]; simp; omega)) (by simp [iv, bv]) ?_)) <;> simp [-qt, -qd, -ql, rgs, vE, g3, k1, iv]) | ((first | (with_reducible refine zE ?_ ?_) | (with_reducible refine zA ?_ ?_)) <;> intro qb <;> (have qp := qb; try simp only [psq] at qp) <;> simp [-qt, -qd, -ql, rgs, vE, g3, k1, iv, qb])
    all_goals first
      | (refine ⟨?_, zK⟩; rw [if_pos (by simp; omega)] at hs; rw [← g4, hs]; first | (rw [List.take_of_length_le (by simp)]; simp [iv]) | (simp [iv]))
      | (have hu' := hu (by omega)
         refine hnx.go ((gt t m).up, pre ++ [m], n' + 3) (by simp; omega) (by simp) (by simp) zK (by first | omega | (simp; omega)) ?_
         dsimp only
         refine ⟨by omega, by omega, by omega, by simp [iv], ?_, by simp; omega, by simp⟩
         rw [if_neg (by simp; omega)] at hs
         rw [← g4, hs]; simp)
theorem s_IsDue {a b : Int} : PC ctx.P 80 [.int .i64 a, .int .i64 b] (.bool (isDue a b)) := by
  refine PC.o okC Tryz.func80 rfl (.bool _) fun h nx hnx => ?_
  try simp [-qt, -qd, -ql, rgs, isDue, zI8]
  repeat' first | done | ((first | (with_reducible refine zE ?_ ?_)) <;> intro qb <;> (have qp := qb; try simp only [psq] at qp) <;> simp [-qt, -qd, -ql, rgs, isDue, zI8, qb])
theorem s_l6Event {p : Bool} {t : List Nod} {e : Evt} : PC ctx.P 335 [.view p 5 (t.map vE), .agg (vK e)] (.bool (uB t e)) := by
  refine PC.lim (n := t.length) (x := .view p 5 (t.map vE)) (by simp) (.here (by simp)) ⟨_, Tryz.func335, by kernel_rfl, by kernel_rfl⟩ fun hlim => ?_
  refine PC.o okC Tryz.func335 rfl (.bool _) fun h nx hnx => ?_
  try simp [-qt, -qd, -ql, rgs, vK, vE, yC hlim]
  repeat' first | done | ((first | ((with_reducible show zT _ _ _ _ _ _); refine zB rfl fun _ => ?_) | ((with_reducible show zH _ _ _ _ _ _ _); refine zC rfl omA omA ?_) | ((with_reducible show zG _ _ _ 252 _ _); refine zD (zA8) ?_) | ((with_reducible show zG _ _ _ 80 _ _); refine zD (s_IsDue) ?_)) <;> simp [-qt, -qd, -ql, rgs, vK, vE, yC hlim]) | ((first | (with_reducible refine zE ?_ ?_) | (with_reducible refine zA ?_ ?_)) <;> intro qb <;> (have qp := qb; try simp only [psq] at qp) <;> simp [-qt, -qd, -ql, rgs, vK, vE, yC hlim, qb])
  all_goals (try clear hnx)
  all_goals first | (simp_all [uB, vV]; done) | (simp_all [uB, vV]; omega) | (rw [Bool.eq_iff_iff]; simp_all [uB, vV]; done) | (rw [Bool.eq_iff_iff]; simp_all [uB, vV]; omega) | omega | (simp only [uB, vV]; grind) | grind
theorem s_l6First {p q : Bool} {t : List Nod} {l : List Evt} {n : Int} (ht : zB2 t = true) (h0 : 0 ≤ n) (h1 : n < t.length) :
    PC ctx.P 199 [.view p 5 (t.map vE), .view q 4 (l.map vK), .int .i64 n] (.int .i64 (yV (fun e => (zH0 t n).contains e.node) l 0)) := by
  refine PC.lim (n := l.length) (x := .view q 4 (l.map vK)) (by simp) (.here (by simp)) ⟨_, Tryz.func199, by kernel_rfl, by kernel_rfl⟩ fun hlim => ?_
  refine PC.o okC Tryz.func199 rfl (.int _ _) fun h nx hnx => ?_
  try simp [-qt, -qd, -ql, rgs]
  repeat' first | done | ((first | ((with_reducible show zT _ _ _ _ _ _); refine zB rfl fun _ => ?_) | ((with_reducible show zH _ _ _ _ _ _ _); refine zC rfl omA omA ?_) | ((with_reducible show zG _ _ _ 194 _ _); refine zD (s_ChainOf ht h0 h1) ?_)) <;> simp [-qt, -qd, -ql, rgs]) | ((first | (with_reducible refine zA ?_ ?_)) <;> intro qb <;> (have qp := qb; try simp only [psq] at qp) <;> simp [-qt, -qd, -ql, rgs, qb])
  refine zU [6, 8, 12, 13, 14, 15, 16, 17, 18, 19, 20, 21, 22, 23, 24, 25] (l.length) (fun (i : Nat) a => [(8, .int .i64 i)]) (fun i_ a_ h_ _ => (fun i (_ : Unit) _ => yV (fun e => (zH0 t n).contains e.node) (l.drop i) i = yV (fun e => (zH0 t n).contains e.node) l 0) i_ a_ h_) (()) (by simp) ?_ zP (Nat.le_refl _) ?_
  · simp
  · intro i a tm h' n' hle hJ hE hn' next hnx
    try dsimp only at hJ
    have hK : KeepB nx h' h := KeepB.sub hE zK (by omega)
    simp [-qt, -qd, -ql]
    try simp [-qt, -qd, -ql, rgs, vK]
    repeat' first | done | ((first | ((with_reducible show zT _ _ _ _ _ _); refine zB rfl fun _ => ?_) | ((with_reducible show zH _ _ _ _ _ _ _); refine zC rfl omA omA ?_) | ((with_reducible show zG _ _ _ 304 _ _); refine zD (s_l6In) ?_)) <;> simp [-qt, -qd, -ql, rgs, vK]) | ((first | (with_reducible refine zA ?_ ?_)) <;> intro qb <;> (have qp := qb; try simp only [psq] at qp) <;> simp [-qt, -qd, -ql, rgs, vK, qb])
    all_goals
      first
      | (have hlt : i < l.length := (by first | omega | (simp at *; omega))
         rw [zS hlt] at hJ
         first
         | (refine hnx.go (()) ?_ ?_ ?_ ?_ ?_ ?_; omega; (simp [zM hlt hlim]); (simp); exact zK; (first | omega | (simp; omega)); (try dsimp only); clear hnx; first | ((try simp only [List.drop_length, Int.toNat_natCast, yV] at hJ ⊢); grind) | (simp_all [yV]; done) | (simp_all; omega))
         | (refine ⟨?_, zK⟩; clear hnx; first | ((try simp only [List.drop_length, Int.toNat_natCast, yV] at hJ ⊢); grind) | (simp_all [yV]; done) | (simp_all; omega)))
      | (obtain rfl : i = l.length := (by first | omega | (simp at *; omega))
         refine ⟨?_, zK⟩; clear hnx; first | ((try simp only [List.drop_length, Int.toNat_natCast, yV] at hJ ⊢); grind) | (simp_all [yV]; done) | (simp_all; omega))
theorem s_EventsOk {p q : Bool} {t : List Nod} {l : List Evt} : PC ctx.P 250 [.view p 5 (t.map vE), .view q 4 (l.map vK)] (.bool (yR t l)) := by
  refine PC.lim (n := l.length) (x := .view q 4 (l.map vK)) (by simp) (.here (by simp)) ⟨_, Tryz.func250, by kernel_rfl, by kernel_rfl⟩ fun hlim => ?_
  by_cases ht : zB2 t = true
  · refine PC.o okC Tryz.func250 rfl (.bool _) fun h nx hnx => ?_
    try simp [-qt, -qd, -ql, rgs, ht]
    repeat' first | done | ((first | ((with_reducible show zT _ _ _ _ _ _); refine zB rfl fun _ => ?_) | ((with_reducible show zH _ _ _ _ _ _ _); refine zC rfl omA omA ?_) | ((with_reducible show yA _ _ _ _ _ _ _ _); refine vJ rfl omA omA ?_) | ((with_reducible show yA _ _ _ _ _ _ _ _); refine yO rfl omA omA ?_) | ((with_reducible show yA _ _ _ _ _ _ _ _); refine yY rfl omA omA omA ?_) | ((with_reducible show yE _ _ _ _ _ _ _ _ _ _ _); refine vC rfl omA omA ?_) | ((with_reducible show yE _ _ _ _ _ _ _ _ _ _ _); refine yL rfl omA omA ?_) | ((with_reducible show yE _ _ _ _ _ _ _ _ _ _ _); refine yU rfl omA omA omA ?_) | ((with_reducible show zG _ _ _ 251 _ _); refine zD (s_TreeOk) ?_) | (with_reducible refine zI (i := 6) [(0, [], []), (1, [], []), (2, [], []), (3, [], []), (4, [], []), (5, [], []), (6, [], []), (7, [], []), (8, [], []), (9, [], []), (10, [], []), (11, [], []), (12, [], []), (13, [], []), (14, [], []), (15, [], []), (16, [], []), (17, [], []), (18, [], []), (19, [], []), (20, [], []), (21, [], []), (22, [], []), (23, [], []), (24, [], []), (25, [], []), (26, [], []), (27, [], []), (28, [], []), (29, [], []), (30, [], []), (31, [], []), (32, [], []), (33, [], []), (34, [], []), (35, [], []), (36, [], []), (37, [], [])] (by kernel_rfl) ?_)) <;> simp [-qt, -qd, -ql, rgs, ht]) | ((first | (with_reducible refine zQ ?_ ?_) | (with_reducible refine zA ?_ ?_)) <;> intro qb <;> (have qp := qb; try simp only [psq] at qp) <;> simp [-qt, -qd, -ql, rgs, ht, qb])
    refine zU [4, 5, 9, 10, 11, 12, 13, 14, 15, 16, 17, 18, 19, 20, 21, 22, 23, 24, 25, 26, 27, 28, 29, 30, 31, 32, 33, 34, 35, 36, 37, 38, 39, 40, 41, 42, 43, 44, 45, 46, 47, 48, 49, 50, 51, 52] (l.length) (fun (i : Nat) a => [(5, .int .i64 i)]) (fun i_ a_ h_ _ => (fun i (_ : Unit) _ => uF (fun i e => fits t (l.take i.toNat) e) (l.drop i) i = uF (fun i e => fits t (l.take i.toNat) e) l 0) i_ a_ h_) (()) (by simp) ?_ zP (Nat.le_refl _) ?_
    · simp
    · intro i a tm h' n' hle hJ hE hn' next hnx
      try dsimp only at hJ
      have hK : KeepB nx h' h := KeepB.sub hE zK (by omega)
      simp [-qt, -qd, -ql]
      have hlim' := hlim
      simp only [LIM] at hlim'
      have hnode : uB t (gt l (i : Int)) = true → 0 ≤ (gt l (i : Int)).node ∧ (gt l (i : Int)).node < t.length := isEvent_in
      try simp [-qt, -qd, -ql, rgs, vK, zF (x := (i : Int) - 1) (by omega)]
      repeat' first | done | ((first | ((with_reducible show zT _ _ _ _ _ _); refine zB rfl fun _ => ?_) | ((with_reducible show zH _ _ _ _ _ _ _); refine zC rfl omA omA ?_) | ((with_reducible show yA _ _ _ _ _ _ _ _); refine vJ rfl omA omA ?_) | ((with_reducible show yA _ _ _ _ _ _ _ _); refine yO rfl omA omA ?_) | ((with_reducible show yA _ _ _ _ _ _ _ _); refine yY rfl omA omA omA ?_) | ((with_reducible show yE _ _ _ _ _ _ _ _ _ _ _); refine vC rfl omA omA ?_) | ((with_reducible show yE _ _ _ _ _ _ _ _ _ _ _); refine yL rfl omA omA ?_) | ((with_reducible show yE _ _ _ _ _ _ _ _ _ _ _); refine yU rfl omA omA omA ?_) | ((with_reducible show zG _ _ _ 335 _ _); refine zD (s_l6Event (e := gt l (i : Int))) ?_) | ((with_reducible show zG _ _ _ 199 _ _); refine zD (s_l6First ht (hnode (by assumption)).1 (hnode (by assumption)).2) ?_) | (with_reducible refine zI (i := 6) [(0, [], []), (1, [], []), (2, [], []), (3, [], []), (4, [], []), (5, [], []), (6, [], []), (7, [], []), (8, [], []), (9, [], []), (10, [], []), (11, [], []), (12, [], []), (13, [], []), (14, [], []), (15, [], []), (16, [], []), (17, [], []), (18, [], []), (19, [], []), (20, [], []), (21, [], []), (22, [], []), (23, [], []), (24, [], []), (25, [], []), (26, [], []), (27, [], []), (28, [], []), (29, [], []), (30, [], []), (31, [], []), (32, [], []), (33, [], []), (34, [], []), (35, [], []), (36, [], []), (37, [], [])] (by kernel_rfl) ?_)) <;> simp [-qt, -qd, -ql, rgs, vK, zF (x := (i : Int) - 1) (by omega)]) | ((first | (with_reducible refine zQ ?_ ?_) | (with_reducible refine zA ?_ ?_)) <;> intro qb <;> (have qp := qb; try simp only [psq] at qp) <;> simp [-qt, -qd, -ql, rgs, vK, zF (x := (i : Int) - 1) (by omega), qb])
      all_goals first
        | (have hlt : i < l.length := (by omega)
           rw [zS hlt] at hJ
           simp only [uF, Int.toNat_natCast, fits_eq hlt] at hJ
           first
           | (refine hnx.go () (by omega) (by simp [zM hlt hlim]) (by simp) zK (by first | omega | (simp; omega)) ?_; clear hnx; grind)
           | (refine ⟨?_, zK⟩; clear hnx; simp only [yR]; grind))
        | (refine ⟨?_, zK⟩; rw [List.drop_eq_nil_of_le (by omega)] at hJ; clear hnx; simp only [uF, yR] at hJ ⊢; grind)
  · refine PC.o okC Tryz.func250 rfl (.bool _) fun h nx hnx => ?_
    try simp [-qt, -qd, -ql, rgs, ht]
    repeat' first | done | ((first | ((with_reducible show zT _ _ _ _ _ _); refine zB rfl fun _ => ?_) | ((with_reducible show zH _ _ _ _ _ _ _); refine zC rfl omA omA ?_) | ((with_reducible show yA _ _ _ _ _ _ _ _); refine vJ rfl omA omA ?_) | ((with_reducible show yA _ _ _ _ _ _ _ _); refine yO rfl omA omA ?_) | ((with_reducible show yA _ _ _ _ _ _ _ _); refine yY rfl omA omA omA ?_) | ((with_reducible show yE _ _ _ _ _ _ _ _ _ _ _); refine vC rfl omA omA ?_) | ((with_reducible show yE _ _ _ _ _ _ _ _ _ _ _); refine yL rfl omA omA ?_) | ((with_reducible show yE _ _ _ _ _ _ _ _ _ _ _); refine yU rfl omA omA omA ?_) | ((with_reducible show zG _ _ _ 251 _ _); refine zD (s_TreeOk) ?_) | (with_reducible refine zI (i := 6) [(0, [], []), (1, [], []), (2, [], []), (3, [], []), (4, [], []), (5, [], []), (6, [], []), (7, [], []), (8, [], []), (9, [], []), (10, [], []), (11, [], []), (12, [], []), (13, [], []), (14, [], []), (15, [], []), (16, [], []), (17, [], []), (18, [], []), (19, [], []), (20, [], []), (21, [], []), (22, [], []), (23, [], []), (24, [], []), (25, [], []), (26, [], []), (27, [], []), (28, [], []), (29, [], []), (30, [], []), (31, [], []), (32, [], []), (33, [], []), (34, [], []), (35, [], []), (36, [], []), (37, [], [])] (by kernel_rfl) ?_)) <;> simp [-qt, -qd, -ql, rgs, ht]) | ((first | (with_reducible refine zQ ?_ ?_) | (with_reducible refine zA ?_ ?_)) <;> intro qb <;> (have qp := qb; try simp only [psq] at qp) <;> simp [-qt, -qd, -ql, rgs, ht, qb])
    all_goals (try clear hnx)
    all_goals first | (simp_all [yR]; done) | (simp_all [yR]; omega) | (rw [Bool.eq_iff_iff]; simp_all [yR]; done) | (rw [Bool.eq_iff_iff]; simp_all [yR]; omega) | omega | (simp only [yR]; grind) | grind
end Go.AE.Tryz
end

section
/- Contracts of the reference's readers: chains, events, functions, tasks, groups. -/
set_option linter.unusedSimpArgs false
set_option linter.unusedVariables false
set_option maxRecDepth 8000
set_option maxHeartbeats 4000000
namespace Go.AE.Tryz
open Go.Proofs
open List renaming map_take → qt, map_drop → qd, map_tail → ql

theorem s_l9Leash {n : Int} : PC ctx.P 374 [.int .i64 n] (.bool (inR n (-1) 59)) := by
  refine PC.o okC Tryz.func374 rfl (.bool _) fun h nx hnx => ?_
  try simp [-qt, -qd, -ql, rgs]
  repeat' first | done | ((first | ((with_reducible show zG _ _ _ 252 _ _); refine zD (zA8) ?_)) <;> simp [-qt, -qd, -ql, rgs])
theorem s_InsOk {x : Inn} : PC ctx.P 334 [.agg (vU x)] (.bool (zI3 x)) := by
  refine PC.o okC Tryz.func334 rfl (.bool _) fun h nx hnx => ?_
  try simp [-qt, -qd, -ql, rgs, vU]
  repeat' first | done | ((first | ((with_reducible show zG _ _ _ 374 _ _); refine zD (s_l9Leash) ?_) | ((with_reducible show zG _ _ _ 252 _ _); refine zD (zA8) ?_)) <;> simp [-qt, -qd, -ql, rgs, vU]) | ((first | (with_reducible refine zE ?_ ?_) | (with_reducible refine zA ?_ ?_)) <;> intro qb <;> (have qp := qb; try simp only [psq] at qp) <;> simp [-qt, -qd, -ql, rgs, vU, qb])
  all_goals (try clear hnx)
  all_goals first | (simp_all [zI3, zE8, hasB, inR]; done) | (simp_all [zI3, zE8, hasB, inR]; omega) | (rw [Bool.eq_iff_iff]; simp_all [zI3, zE8, hasB, inR]; done) | (rw [Bool.eq_iff_iff]; simp_all [zI3, zE8, hasB, inR]; omega) | omega | (simp only [zI3, zE8, hasB, inR]; grind) | grind
theorem s_ProgOk {p : Bool} {l : List Inn} : PC ctx.P 249 [.view p 3 (l.map vU)] (.bool (zD2 l)) := by
  refine PC.lim (n := l.length) (x := .view p 3 (l.map vU)) (by simp) (.here (by simp)) ⟨_, Tryz.func249, by kernel_rfl, by kernel_rfl⟩ fun hlim => ?_
  refine PC.o okC Tryz.func249 rfl (.bool _) fun h nx hnx => ?_
  try simp [-qt, -qd, -ql, rgs]
  repeat' first | done | ((first | ((with_reducible show zT _ _ _ _ _ _); refine zB rfl fun _ => ?_) | ((with_reducible show zH _ _ _ _ _ _ _); refine zC rfl omA omA ?_)) <;> simp [-qt, -qd, -ql, rgs]) | ((first | (with_reducible refine zA ?_ ?_)) <;> intro qb <;> (have qp := qb; try simp only [psq] at qp) <;> simp [-qt, -qd, -ql, rgs, qb])
  refine zU [2, 3, 4, 5, 6, 7, 8, 9, 10, 11, 12, 13, 14, 15] (l.length) (fun (i : Nat) a => [(3, .int .i64 i)]) (fun i_ a_ h_ _ => (fun i (_ : Unit) _ => ((l.drop i).any fun x => !zI3 x) = l.any fun x => !zI3 x) i_ a_ h_) (()) (by simp) ?_ zP (Nat.le_refl _) ?_
  · simp
  · intro i a tm h' n' hle hJ hE hn' next hnx
    try dsimp only at hJ
    have hK : KeepB nx h' h := KeepB.sub hE zK (by omega)
    simp [-qt, -qd, -ql]
    try simp [-qt, -qd, -ql, rgs]
    repeat' first | done | ((first | ((with_reducible show zT _ _ _ _ _ _); refine zB rfl fun _ => ?_) | ((with_reducible show zH _ _ _ _ _ _ _); refine zC rfl omA omA ?_) | ((with_reducible show zG _ _ _ 334 _ _); refine zD (s_InsOk) ?_)) <;> simp [-qt, -qd, -ql, rgs]) | ((first | (with_reducible refine zA ?_ ?_)) <;> intro qb <;> (have qp := qb; try simp only [psq] at qp) <;> simp [-qt, -qd, -ql, rgs, qb])
    all_goals
      first
      | (have hlt : i < l.length := (by first | omega | (simp at *; omega))
         rw [zS hlt] at hJ
         first
         | (refine hnx.go (()) ?_ ?_ ?_ ?_ ?_ ?_; omega; (simp [zM hlt hlim]); (simp); exact zK; (first | omega | (simp; omega)); (try dsimp only); clear hnx; first | ((try simp only [List.drop_length, Int.toNat_natCast, List.any_cons, List.any_nil, zD2] at hJ ⊢); grind) | (simp_all [List.any_cons, List.any_nil, zD2]; done) | (simp_all; omega))
         | (refine ⟨?_, zK⟩; clear hnx; first | ((try simp only [List.drop_length, Int.toNat_natCast, List.any_cons, List.any_nil, zD2] at hJ ⊢); grind) | (simp_all [List.any_cons, List.any_nil, zD2]; done) | (simp_all; omega)))
      | (obtain rfl : i = l.length := (by first | omega | (simp at *; omega))
         refine ⟨?_, zK⟩; clear hnx; first | ((try simp only [List.drop_length, Int.toNat_natCast, List.any_cons, List.any_nil, zD2] at hJ ⊢); grind) | (simp_all [List.any_cons, List.any_nil, zD2]; done) | (simp_all; omega))
theorem s_l10Waits {t : Tsk} : PC ctx.P 357 [.agg (vQ t)] (.bool (tsk1 t)) := by
  refine PC.o okC Tryz.func357 rfl (.bool _) fun h nx hnx => ?_
  try simp [-qt, -qd, -ql, rgs, vQ]
  repeat' first | done | ((first | ((with_reducible show zG _ _ _ 252 _ _); refine zD (zA8) ?_)) <;> simp [-qt, -qd, -ql, rgs, vQ]) | ((first | (with_reducible refine zE ?_ ?_) | (with_reducible refine zA ?_ ?_)) <;> intro qb <;> (have qp := qb; try simp only [psq] at qp) <;> simp [-qt, -qd, -ql, rgs, vQ, qb])
  all_goals (try clear hnx)
  all_goals first | (simp_all [tsk1, inR]; done) | (simp_all [tsk1, inR]; omega) | (rw [Bool.eq_iff_iff]; simp_all [tsk1, inR]; done) | (rw [Bool.eq_iff_iff]; simp_all [tsk1, inR]; omega) | omega | (simp only [tsk1, inR]; grind) | grind
theorem s_TaskOk {t : Tsk} : PC ctx.P 306 [.agg (vQ t)] (.bool (zJ6 t)) := by
  rw [tskOk_eq]
  refine PC.o okC Tryz.func306 rfl (.bool _) fun h nx hnx => ?_
  try simp [-qt, -qd, -ql, rgs, vQ]
  repeat' first | done | ((first | ((with_reducible show zG _ _ _ 252 _ _); refine zD (zA8) ?_) | ((with_reducible show zG _ _ _ 357 _ _); refine zD (s_l10Waits (t := t)) ?_)) <;> simp [-qt, -qd, -ql, rgs, vQ]) | ((first | (with_reducible refine zE ?_ ?_) | (with_reducible refine zA ?_ ?_)) <;> intro qb <;> (have qp := qb; try simp only [psq] at qp) <;> simp [-qt, -qd, -ql, rgs, vQ, qb])
  all_goals (try clear hnx)
  all_goals first | (simp_all [tskS]; done) | (simp_all [tskS]; omega) | (rw [Bool.eq_iff_iff]; simp_all [tskS]; done) | (rw [Bool.eq_iff_iff]; simp_all [tskS]; omega) | omega | (simp only [tskS]; grind) | grind
theorem s_TasksOk {p : Bool} {l : List Tsk} : PC ctx.P 207 [.view p 9 (l.map vQ)] (.bool (zA1 l)) := by
  refine PC.lim (n := l.length) (x := .view p 9 (l.map vQ)) (by simp) (.here (by simp)) ⟨_, Tryz.func207, by kernel_rfl, by kernel_rfl⟩ fun hlim => ?_
  refine PC.o okC Tryz.func207 rfl (.bool _) fun h nx hnx => ?_
  try simp [-qt, -qd, -ql, rgs]
  repeat' first | done | ((first | ((with_reducible show zT _ _ _ _ _ _); refine zB rfl fun _ => ?_) | ((with_reducible show zH _ _ _ _ _ _ _); refine zC rfl omA omA ?_)) <;> simp [-qt, -qd, -ql, rgs]) | ((first | (with_reducible refine zA ?_ ?_)) <;> intro qb <;> (have qp := qb; try simp only [psq] at qp) <;> simp [-qt, -qd, -ql, rgs, qb])
  refine zU [2, 3, 4, 5, 6, 7, 8, 9, 10, 11, 12, 13, 14, 15] (l.length) (fun (i : Nat) a => [(3, .int .i64 i)]) (fun i_ a_ h_ _ => (fun i (_ : Unit) _ => ((l.drop i).any fun x => !zJ6 x) = l.any fun x => !zJ6 x) i_ a_ h_) (()) (by simp) ?_ zP (Nat.le_refl _) ?_
  · simp
  · intro i a tm h' n' hle hJ hE hn' next hnx
    try dsimp only at hJ
    have hK : KeepB nx h' h := KeepB.sub hE zK (by omega)
    simp [-qt, -qd, -ql]
    try simp [-qt, -qd, -ql, rgs]
    repeat' first | done | ((first | ((with_reducible show zT _ _ _ _ _ _); refine zB rfl fun _ => ?_) | ((with_reducible show zH _ _ _ _ _ _ _); refine zC rfl omA omA ?_) | ((with_reducible show zG _ _ _ 306 _ _); refine zD (s_TaskOk) ?_)) <;> simp [-qt, -qd, -ql, rgs]) | ((first | (with_reducible refine zA ?_ ?_)) <;> intro qb <;> (have qp := qb; try simp only [psq] at qp) <;> simp [-qt, -qd, -ql, rgs, qb])
    all_goals
      first
      | (have hlt : i < l.length := (by first | omega | (simp at *; omega))
         rw [zS hlt] at hJ
         first
         | (refine hnx.go (()) ?_ ?_ ?_ ?_ ?_ ?_; omega; (simp [zM hlt hlim]); (simp); exact zK; (first | omega | (simp; omega)); (try dsimp only); clear hnx; first | ((try simp only [List.drop_length, Int.toNat_natCast, List.any_cons, List.any_nil, zA1] at hJ ⊢); grind) | (simp_all [List.any_cons, List.any_nil, zA1]; done) | (simp_all; omega))
         | (refine ⟨?_, zK⟩; clear hnx; first | ((try simp only [List.drop_length, Int.toNat_natCast, List.any_cons, List.any_nil, zA1] at hJ ⊢); grind) | (simp_all [List.any_cons, List.any_nil, zA1]; done) | (simp_all; omega)))
      | (obtain rfl : i = l.length := (by first | omega | (simp at *; omega))
         refine ⟨?_, zK⟩; clear hnx; first | ((try simp only [List.drop_length, Int.toNat_natCast, List.any_cons, List.any_nil, zA1] at hJ ⊢); grind) | (simp_all [List.any_cons, List.any_nil, zA1]; done) | (simp_all; omega))
theorem s_GroupOk {p : Bool} {g : Grp} : PC ctx.P 256 [.agg (vA p g)] (.bool (zI1 g)) := by
  refine PC.lim (n := g.waits.length) (x := .agg (vA p g)) (by simp) (.agg (x := .view p 1 (g.waits.map iv)) (by simp [vA]) (.here (by simp))) ⟨_, Tryz.func256, by kernel_rfl, by kernel_rfl⟩ fun hlim => ?_
  refine PC.o okC Tryz.func256 rfl (.bool _) fun h nx hnx => ?_
  try simp [-qt, -qd, -ql, rgs, vA]
  repeat' first | done | ((first | ((with_reducible show zT _ _ _ _ _ _); refine zB rfl fun _ => ?_) | ((with_reducible show zH _ _ _ _ _ _ _); refine zC rfl omA omA ?_) | ((with_reducible show yA _ _ _ _ _ _ _ _); refine vJ rfl omA omA ?_) | ((with_reducible show yA _ _ _ _ _ _ _ _); refine yO rfl omA omA ?_) | ((with_reducible show yA _ _ _ _ _ _ _ _); refine yY rfl omA omA omA ?_) | ((with_reducible show yE _ _ _ _ _ _ _ _ _ _ _); refine vC rfl omA omA ?_) | ((with_reducible show yE _ _ _ _ _ _ _ _ _ _ _); refine yL rfl omA omA ?_) | ((with_reducible show yE _ _ _ _ _ _ _ _ _ _ _); refine yU rfl omA omA omA ?_) | ((with_reducible show zG _ _ _ 252 _ _); refine zD (zA8) ?_) | (with_reducible refine zI (i := 6) [(0, [], []), (1, [], []), (2, [], []), (3, [], []), (4, [], []), (5, [], []), (6, [], []), (7, [], []), (8, [], []), (9, [], []), (10, [], []), (11, [], []), (12, [], []), (13, [], []), (14, [], []), (15, [], []), (16, [], []), (17, [], []), (18, [], [])] (by kernel_rfl) ?_)) <;> simp [-qt, -qd, -ql, rgs, vA]) | ((first | (with_reducible refine zQ ?_ ?_) | (with_reducible refine zE ?_ ?_) | (with_reducible refine zA ?_ ?_)) <;> intro qb <;> (have qp := qb; try simp only [psq] at qp) <;> simp [-qt, -qd, -ql, rgs, vA, qb])
  all_goals first | (clear hnx; simp only [zI1]; grind) | skip
  all_goals
    refine zU [2, 3, 38, 39, 40, 41, 42, 43, 44, 45, 46, 47, 48, 49, 50, 51, 52, 53, 54, 55, 56, 57, 58, 59, 60, 61, 62, 63] (g.waits.length) (fun (i : Nat) a => [(3, .int .i64 i)]) (fun i_ a_ h_ _ => (fun i (_ : Unit) _ => uF (fun i n => inR n 0 59 && !(g.waits.take i.toNat).contains n) (g.waits.drop i) i = uF (fun i n => inR n 0 59 && !(g.waits.take i.toNat).contains n) g.waits 0) i_ a_ h_) (()) (by simp) ?_ zP (Nat.le_refl _) ?_
    · simp
    · intro i a tm h' n' hle hJ hE hn' next hnx
      try dsimp only at hJ
      have hK : KeepB nx h' h := KeepB.sub hE zK (by omega)
      simp [-qt, -qd, -ql]
      have e1 : h' (nx) = some (.obj (vA p g)) := by have := hE (nx) (by omega); simpa [vA] using this
      have e1n : ∀ k, ((nx) = n' + k) = False := fun k => by simp only [eq_iff_iff, iff_false]; omega
      have e1m : ((nx) = n') = False := by simp only [eq_iff_iff, iff_false]; omega
      try simp [-qt, -qd, -ql, rgs, vA, iv, e1, e1n, e1m]
      repeat' first | done | ((first | ((with_reducible show zT _ _ _ _ _ _); refine zB rfl fun _ => ?_) | ((with_reducible show zH _ _ _ _ _ _ _); refine zC rfl omA omA ?_) | ((with_reducible show yA _ _ _ _ _ _ _ _); refine vJ rfl omA omA ?_) | ((with_reducible show yA _ _ _ _ _ _ _ _); refine yO rfl omA omA ?_) | ((with_reducible show yA _ _ _ _ _ _ _ _); refine yY rfl omA omA omA ?_) | ((with_reducible show yE _ _ _ _ _ _ _ _ _ _ _); refine vC rfl omA omA ?_) | ((with_reducible show yE _ _ _ _ _ _ _ _ _ _ _); refine yL rfl omA omA ?_) | ((with_reducible show yE _ _ _ _ _ _ _ _ _ _ _); refine yU rfl omA omA omA ?_) | ((with_reducible show zG _ _ _ 252 _ _); refine zD (zA8) ?_) | ((with_reducible show zG _ _ _ 304 _ _); refine zD (s_l6In) ?_) | (with_reducible refine zI (i := 6) [(0, [], []), (1, [], []), (2, [], []), (3, [], []), (4, [], []), (5, [], []), (6, [], []), (7, [], []), (8, [], []), (9, [], []), (10, [], []), (11, [], []), (12, [], []), (13, [], []), (14, [], []), (15, [], []), (16, [], []), (17, [], []), (18, [], [])] (by kernel_rfl) ?_)) <;> simp [-qt, -qd, -ql, rgs, vA, iv, e1, e1n, e1m]) | ((first | (with_reducible refine zQ ?_ ?_) | (with_reducible refine zE ?_ ?_) | (with_reducible refine zA ?_ ?_)) <;> intro qb <;> (have qp := qb; try simp only [psq] at qp) <;> simp [-qt, -qd, -ql, rgs, vA, iv, e1, e1n, e1m, qb])
      all_goals
        first
        | (have hlt : i < g.waits.length := (by first | omega | (simp at *; omega))
           rw [zS hlt] at hJ
           first
           | (refine hnx.go (()) ?_ ?_ ?_ ?_ ?_ ?_; omega; (simp [zM hlt hlim]); (simp); exact zK; (first | omega | (simp; omega)); (try dsimp only); clear hnx; first | ((try simp only [List.drop_length, Int.toNat_natCast, uF, zI1] at hJ ⊢); grind) | (simp_all [uF, zI1]; done) | (simp_all; omega))
           | (refine ⟨?_, zK⟩; clear hnx; first | ((try simp only [List.drop_length, Int.toNat_natCast, uF, zI1] at hJ ⊢); grind) | (simp_all [uF, zI1]; done) | (simp_all; omega)))
        | (obtain rfl : i = g.waits.length := (by first | omega | (simp at *; omega))
           refine ⟨?_, zK⟩; clear hnx; first | ((try simp only [List.drop_length, Int.toNat_natCast, uF, zI1] at hJ ⊢); grind) | (simp_all [uF, zI1]; done) | (simp_all; omega))
end Go.AE.Tryz
end

section
/- Contracts of the reference's readers: chains, events, functions, tasks, groups. -/
set_option linter.unusedSimpArgs false
set_option linter.unusedVariables false
set_option maxRecDepth 8000
set_option maxHeartbeats 4000000
namespace Go.AE.Tryz
open Go.Proofs
open List renaming map_take → qt, map_drop → qd, map_tail → ql

theorem s_SpreadOk {F : Nat → Bool} {p : Bool} {t : List Nod} {s : Spr} : PC ctx.P 142 [.view p 5 (t.map vE), .agg (zE7 F s)] (.bool (zB2 t && uN s t)) := by
  refine PC.lim (n := s.work.length) (x := .agg (zE7 F s)) (by simp) (.agg (x := .view (F 5) 1 (s.work.map iv)) (by simp [zE7]) (.here (by simp))) ⟨_, Tryz.func142, by kernel_rfl, by kernel_rfl⟩ fun hlim => ?_
  refine PC.lim (n := t.length) (x := .view p 5 (t.map vE)) (by simp) (.here (by simp)) ⟨_, Tryz.func142, by kernel_rfl, by kernel_rfl⟩ fun hlim2 => ?_
  refine PC.o okC Tryz.func142 rfl (.bool _) fun h nx hnx => ?_
  try simp [-qt, -qd, -ql, rgs, zE7]
  repeat' first | done | ((first | ((with_reducible show zT _ _ _ _ _ _); refine zB rfl fun _ => ?_) | ((with_reducible show zH _ _ _ _ _ _ _); refine zC rfl omA omA ?_) | ((with_reducible show zG _ _ _ 251 _ _); refine zD (s_TreeOk) ?_)) <;> simp [-qt, -qd, -ql, rgs, zE7]) | ((first | (with_reducible refine zE ?_ ?_) | (with_reducible refine zA ?_ ?_)) <;> intro qb <;> (have qp := qb; try simp only [psq] at qp) <;> simp [-qt, -qd, -ql, rgs, zE7, qb])
  all_goals first | (clear hnx; simp [uN]; grind) | skip
  refine zU [4, 5, 23, 24, 25, 26, 27, 28, 29, 30, 31, 32, 33, 34, 35, 36, 37, 38, 39] (s.work.length) (fun (i : Nat) a => [(5, .int .i64 i)]) (fun i_ a_ h_ _ => (fun i (_ : Unit) _ => ((s.work.drop i).any fun n => !vV n t) = s.work.any fun n => !vV n t) i_ a_ h_) (()) (by simp) ?_ zP (Nat.le_refl _) ?_
  · simp
  · intro i a tm h' n' hle hJ hE hn' next hnx
    try dsimp only at hJ
    have hK : KeepB nx h' h := KeepB.sub hE zK (by omega)
    simp [-qt, -qd, -ql]
    have e1 : h' (nx) = some (.obj (zE7 F s)) := by have := hE (nx) (by omega); simpa [zE7] using this
    have e1n : ∀ k, ((nx) = n' + k) = False := fun k => by simp only [eq_iff_iff, iff_false]; omega
    have e1m : ((nx) = n') = False := by simp only [eq_iff_iff, iff_false]; omega
    try simp [-qt, -qd, -ql, rgs, zE7, iv, yC hlim2, e1, e1n, e1m]
    repeat' first | done | ((first | ((with_reducible show zT _ _ _ _ _ _); refine zB rfl fun _ => ?_) | ((with_reducible show zH _ _ _ _ _ _ _); refine zC rfl omA omA ?_) | ((with_reducible show zG _ _ _ 252 _ _); refine zD (zA8) ?_)) <;> simp [-qt, -qd, -ql, rgs, zE7, iv, yC hlim2, e1, e1n, e1m]) | ((first | (with_reducible refine zE ?_ ?_) | (with_reducible refine zA ?_ ?_)) <;> intro qb <;> (have qp := qb; try simp only [psq] at qp) <;> simp [-qt, -qd, -ql, rgs, zE7, iv, yC hlim2, e1, e1n, e1m, qb])
    all_goals
      first
      | (have hlt : i < s.work.length := (by first | omega | (simp at *; omega))
         rw [zS hlt] at hJ
         first
         | (refine hnx.go (()) ?_ ?_ ?_ ?_ ?_ ?_; omega; (simp [zM hlt hlim]); (simp); exact zK; (first | omega | (simp; omega)); (try dsimp only); clear hnx; first | ((try simp only [List.drop_length, Int.toNat_natCast, List.any_cons, List.any_nil, uN, vV] at hJ ⊢); grind) | (simp_all [List.any_cons, List.any_nil, uN, vV]; done) | (simp_all; omega))
         | (refine ⟨?_, zK⟩; clear hnx; first | ((try simp only [List.drop_length, Int.toNat_natCast, List.any_cons, List.any_nil, uN, vV] at hJ ⊢); grind) | (simp_all [List.any_cons, List.any_nil, uN, vV]; done) | (simp_all; omega)))
      | (obtain rfl : i = s.work.length := (by first | omega | (simp at *; omega))
         refine ⟨?_, zK⟩; clear hnx; first | ((try simp only [List.drop_length, Int.toNat_natCast, List.any_cons, List.any_nil, uN, vV] at hJ ⊢); grind) | (simp_all [List.any_cons, List.any_nil, uN, vV]; done) | (simp_all; omega))
theorem s_AftersOk {F : Nat → Bool} {x : Afs} : PC ctx.P 231 [.agg (vD F x)] (.bool (uU x)) := by
  refine PC.lim (n := x.list.length) (x := .agg (vD F x)) (by simp) (.agg (x := .view (F 10) 5 (x.list.map yI)) (by simp [vD]) (.here (by simp))) ⟨_, Tryz.func231, by kernel_rfl, by kernel_rfl⟩ fun hlim => ?_
  by_cases hs : zC8 x.slots = true
  · refine PC.o okC Tryz.func231 rfl (.bool _) fun h nx hnx => ?_
    try simp [-qt, -qd, -ql, rgs, vD, hs]
    repeat' first | done | ((first | ((with_reducible show zT _ _ _ _ _ _); refine zB rfl fun _ => ?_) | ((with_reducible show zH _ _ _ _ _ _ _); refine zC rfl omA omA ?_) | ((with_reducible show zG _ _ _ 321 _ _); refine zD (zH3 (s := x.slots) (F := F)) ?_) | ((with_reducible show zG _ _ _ 322 _ _); refine zD (s_UsedIn (s := x.slots) (F := F)) ?_) | (with_reducible refine zI (i := 1) [(0, [], []), (1, [], []), (2, [], []), (3, [], []), (4, [], []), (5, [], []), (6, [], []), (7, [], []), (8, [], []), (9, [], []), (10, [.tmp 11], []), (11, [], []), (12, [], [])] (by kernel_rfl) ?_) | (with_reducible refine zI (i := 12) [(0, [], []), (1, [], []), (2, [], []), (3, [], []), (4, [], []), (5, [], []), (6, [], []), (7, [], []), (8, [], [])] (by kernel_rfl) ?_)) <;> simp [-qt, -qd, -ql, rgs, vD, hs]) | ((first | (with_reducible refine zQ ?_ ?_) | (with_reducible refine zE ?_ ?_) | (with_reducible refine zA ?_ ?_)) <;> intro qb <;> (have qp := qb; try simp only [psq] at qp) <;> simp [-qt, -qd, -ql, rgs, vD, hs, qb])
    · simp only [uU]; grind
    refine zU [2, 3, 4, 5, 19, 20, 21, 22, 23, 24, 25, 26, 27, 28, 29, 30, 31, 32, 33, 34, 35, 36, 37, 38, 39, 40, 41, 42, 43, 44, 45, 46, 47, 48, 49, 50, 51, 52, 53, 54, 55, 56, 57, 58, 59, 60, 61, 62] (x.list.length) (fun (i : Nat) a => [(3, .int .i64 i)]) (fun i_ a_ h_ _ => (fun (i : Nat) (_ : Unit) _ => uF (fun i y => uO y.node y.fn && (yN x.slots y.han && afsAt x.list y.han == i)) (x.list.drop i) i = uF (fun i y => uO y.node y.fn && (yN x.slots y.han && afsAt x.list y.han == i)) x.list 0) i_ a_ h_) (()) (by simp) ?_ zP (Nat.le_refl _) ?_
    · simp
    · intro i a tm h' n' hle hJ hE hn' next hnx
      try dsimp only at hJ
      have hK : KeepB nx h' h := KeepB.sub hE zK (by omega)
      simp [-qt, -qd, -ql]
      have e1 : h' (nx) = some (.obj (vD F x)) := by have := hE (nx) (by omega); simpa [vD] using this
      have e1n : ∀ k, ((nx) = n' + k) = False := fun k => by simp only [eq_iff_iff, iff_false]; omega
      have e1m : ((nx) = n') = False := by simp only [eq_iff_iff, iff_false]; omega
      try simp [-qt, -qd, -ql, rgs, vD, yI, e1, e1n, e1m, hs]
      repeat' first | done | ((first | ((with_reducible show zT _ _ _ _ _ _); refine zB rfl fun _ => ?_) | ((with_reducible show zH _ _ _ _ _ _ _); refine zC rfl omA omA ?_) | ((with_reducible show zG _ _ _ 323 _ _); refine zD (s_Holds (s := x.slots) (F := F) (x := (gt x.list (i : Int)).han)) ?_) | ((with_reducible show zG _ _ _ 252 _ _); refine zD (zA8) ?_) | (with_reducible refine zI (i := 1) [(0, [], []), (1, [], []), (2, [], []), (3, [], []), (4, [], []), (5, [], []), (6, [], []), (7, [], []), (8, [], []), (9, [], []), (10, [.tmp 11], []), (11, [], []), (12, [], [])] (by kernel_rfl) ?_) | (with_reducible refine zI (i := 12) [(0, [], []), (1, [], []), (2, [], []), (3, [], []), (4, [], []), (5, [], []), (6, [], []), (7, [], []), (8, [], [])] (by kernel_rfl) ?_)) <;> simp [-qt, -qd, -ql, rgs, vD, yI, e1, e1n, e1m, hs]) | ((first | (with_reducible refine zQ ?_ ?_) | (with_reducible refine zE ?_ ?_) | (with_reducible refine zA ?_ ?_)) <;> intro qb <;> (have qp := qb; try simp only [psq] at qp) <;> simp [-qt, -qd, -ql, rgs, vD, yI, e1, e1n, e1m, hs, qb])
      · have hlt : i < x.list.length := (by omega)
        rw [zS hlt] at hJ
        refine ⟨?_, zK⟩; clear hnx; simp only [uF] at hJ; simp only [uU]; grind
      · have hlt : i < x.list.length := (by omega)
        rw [zS hlt] at hJ
        refine ⟨?_, zK⟩; clear hnx; simp only [uF, uO] at hJ; simp only [uU, uO]; grind
      · have hlt : i < x.list.length := (by omega)
        rw [zS hlt] at hJ
        refine ⟨?_, zK⟩; clear hnx; simp only [uF, uO] at hJ; simp only [uU, uO]; grind
      · have hlt : i < x.list.length := (by omega)
        rw [zS hlt] at hJ
        refine zU [2, 5, 49, 50, 51, 52, 53, 54, 55, 56, 57, 58, 59, 60, 61, 62] (i) (fun (i : Nat) a => [(5, .int .i64 i)]) (fun i_ a_ h_ _ => (fun (j : Nat) (_ : Unit) _ => yV (fun y => y.han == (gt x.list (i : Int)).han) ((x.list.take i).drop j) j = yV (fun y => y.han == (gt x.list (i : Int)).han) (x.list.take i) 0) i_ a_ h_) (()) (by simp) ?_ zP (Nat.le_refl _) ?_
        · simp
        · intro j b tm2 h2 n2 hle2 hJ2 hE2 hn2 next2 hnx2
          try dsimp only at hJ2
          have hK2 : KeepB nx h2 h := KeepB.sub hE2 zK (by omega)
          simp [-qt, -qd, -ql]
          have e2 : h2 (nx) = some (.obj (vD F x)) := by have := hE2 (nx) (by omega); simpa [e1, e1n, e1m, vD] using this
          have e2n : ∀ k, ((nx) = n2 + k) = False := fun k => by simp only [eq_iff_iff, iff_false]; omega
          have e2m : ((nx) = n2) = False := by simp only [eq_iff_iff, iff_false]; omega
          have e3 : h2 (n' + 10) = some (.obj (yI (gt x.list (i : Int)))) := by have := hE2 (n' + 10) (by omega); simpa [yI] using this
          have e3n : ∀ k, ((n' + 10) = n2 + k) = False := fun k => by simp only [eq_iff_iff, iff_false]; omega
          have e3m : ((n' + 10) = n2) = False := by simp only [eq_iff_iff, iff_false]; omega
          try simp [-qt, -qd, -ql, rgs, vD, yI, e2, e2n, e2m, e3, e3n, e3m, uW, lfOf, uK, cellEq]
          repeat' first | done | ((first | ((with_reducible show zT _ _ _ _ _ _); refine zB rfl fun _ => ?_) | ((with_reducible show zH _ _ _ _ _ _ _); refine zC rfl omA omA ?_) | (with_reducible refine zI (i := 1) [(0, [], []), (1, [], []), (2, [], []), (3, [], []), (4, [], []), (5, [], []), (6, [], []), (7, [], []), (8, [], []), (9, [], []), (10, [.tmp 11], []), (11, [], []), (12, [], [])] (by kernel_rfl) ?_) | (with_reducible refine zI (i := 12) [(0, [], []), (1, [], []), (2, [], []), (3, [], []), (4, [], []), (5, [], []), (6, [], []), (7, [], []), (8, [], [])] (by kernel_rfl) ?_)) <;> simp [-qt, -qd, -ql, rgs, vD, yI, e2, e2n, e2m, e3, e3n, e3m, uW, lfOf, uK, cellEq]) | ((first | (with_reducible refine zQ ?_ ?_) | (with_reducible refine zE ?_ ?_) | (with_reducible refine zA ?_ ?_)) <;> intro qb <;> (have qp := qb; try simp only [psq] at qp) <;> simp [-qt, -qd, -ql, rgs, vD, yI, e2, e2n, e2m, e3, e3n, e3m, uW, lfOf, uK, cellEq, qb])
          · rw [han_eq] at qb
            have r := idx_here (by omega) (by omega) hJ2 qb
            have hh := afsAt_here hlt
            rw [r] at hh
            refine ⟨?_, zK⟩; clear hnx hnx2; simp only [uF, uO] at hJ; simp only [uU, uO]; grind
          · rw [han_eq] at qb
            refine hnx2.go () (by omega) (by simp [zM (show j < x.list.length by omega) hlim]) (by simp) zK (by first | omega | (simp; omega)) ?_
            exact idx_on (by omega) (by omega) hJ2 qb
          · have r := idx_end (by omega) hJ2
            have hh := afsAt_here hlt
            rw [r] at hh
            refine hnx.go () (by omega) (by simp [zM hlt hlim]) (by simp) zK (by first | omega | (simp; omega)) ?_
            clear hnx hnx2; dsimp only; simp only [uF, uO] at hJ ⊢; grind
      · refine ⟨?_, zK⟩; rw [List.drop_eq_nil_of_le (by omega)] at hJ; clear hnx; simp only [uF] at hJ; simp only [uU]; grind
  · refine PC.o okC Tryz.func231 rfl (.bool _) fun h nx hnx => ?_
    try simp [-qt, -qd, -ql, rgs, vD, hs]
    repeat' first | done | ((first | ((with_reducible show zT _ _ _ _ _ _); refine zB rfl fun _ => ?_) | ((with_reducible show zH _ _ _ _ _ _ _); refine zC rfl omA omA ?_) | ((with_reducible show zG _ _ _ 321 _ _); refine zD (zH3 (s := x.slots) (F := F)) ?_) | (with_reducible refine zI (i := 1) [(0, [], []), (1, [], []), (2, [], []), (3, [], []), (4, [], []), (5, [], []), (6, [], []), (7, [], []), (8, [], []), (9, [], []), (10, [.tmp 11], []), (11, [], []), (12, [], [])] (by kernel_rfl) ?_) | (with_reducible refine zI (i := 12) [(0, [], []), (1, [], []), (2, [], []), (3, [], []), (4, [], []), (5, [], []), (6, [], []), (7, [], []), (8, [], [])] (by kernel_rfl) ?_)) <;> simp [-qt, -qd, -ql, rgs, vD, hs]) | ((first | (with_reducible refine zQ ?_ ?_) | (with_reducible refine zE ?_ ?_) | (with_reducible refine zA ?_ ?_)) <;> intro qb <;> (have qp := qb; try simp only [psq] at qp) <;> simp [-qt, -qd, -ql, rgs, vD, hs, qb])
    all_goals (try clear hnx)
    all_goals first | (simp_all [uU]; done) | (simp_all [uU]; omega) | (rw [Bool.eq_iff_iff]; simp_all [uU]; done) | (rw [Bool.eq_iff_iff]; simp_all [uU]; omega) | omega | (simp only [uU]; grind) | grind
end Go.AE.Tryz
end

section
/- Contracts of the reference's readers: worlds. -/
set_option linter.unusedSimpArgs false
set_option linter.unusedVariables false
set_option maxRecDepth 8000
set_option maxHeartbeats 4000000
namespace Go.AE.Tryz
open Go.Proofs
open List renaming map_take → qt, map_drop → qd, map_tail → ql

theorem s_Numbers {p : Bool} {l : List Int} {m : Int} : PC ctx.P 148 [.view p 1 (l.map iv), .int .i64 m] (.bool (zM0 (fun n => inR n 0 m) l && decide (l.length ≤ 2000))) := by
  refine PC.lim (n := l.length) (x := .view p 1 (l.map iv)) (by simp) (.here (by simp)) ⟨_, Tryz.func148, by kernel_rfl, by kernel_rfl⟩ fun hlim => ?_
  refine PC.o okC Tryz.func148 rfl (.bool _) fun h nx hnx => ?_
  try simp [-qt, -qd, -ql, rgs]
  repeat' first | done | ((first | ((with_reducible show zT _ _ _ _ _ _); refine zB rfl fun _ => ?_) | ((with_reducible show zH _ _ _ _ _ _ _); refine zC rfl omA omA ?_)) <;> simp [-qt, -qd, -ql, rgs]) | ((first | (with_reducible refine zA ?_ ?_)) <;> intro qb <;> (have qp := qb; try simp only [psq] at qp) <;> simp [-qt, -qd, -ql, rgs, qb])
  refine zU [4, 5, 6, 7, 8, 9, 10, 11, 12, 13, 14, 15, 16, 17, 18] (l.length) (fun (i : Nat) a => [(5, .int .i64 i)]) (fun i_ a_ h_ _ => (fun i (_ : Unit) _ => zM0 (fun n => inR n 0 m) (l.drop i) = zM0 (fun n => inR n 0 m) l) i_ a_ h_) (()) (by simp) ?_ zP (Nat.le_refl _) ?_
  · simp
  · intro i a tm h' n' hle hJ hE hn' next hnx
    try dsimp only at hJ
    have hK : KeepB nx h' h := KeepB.sub hE zK (by omega)
    simp [-qt, -qd, -ql]
    try simp [-qt, -qd, -ql, rgs, iv]
    repeat' first | done | ((first | ((with_reducible show zT _ _ _ _ _ _); refine zB rfl fun _ => ?_) | ((with_reducible show zH _ _ _ _ _ _ _); refine zC rfl omA omA ?_) | ((with_reducible show zG _ _ _ 252 _ _); refine zD (zA8) ?_)) <;> simp [-qt, -qd, -ql, rgs, iv]) | ((first | (with_reducible refine zA ?_ ?_)) <;> intro qb <;> (have qp := qb; try simp only [psq] at qp) <;> simp [-qt, -qd, -ql, rgs, iv, qb])
    all_goals
      first
      | (have hlt : i < l.length := (by first | omega | (simp at *; omega))
         rw [zS hlt] at hJ
         first
         | (refine hnx.go (()) ?_ ?_ ?_ ?_ ?_ ?_; omega; (simp [zM hlt hlim]); (simp); exact zK; (first | omega | (simp; omega)); (try dsimp only); clear hnx; first | ((try simp only [List.drop_length, Int.toNat_natCast, zV, yD] at hJ ⊢); grind) | (simp_all [zV, yD]; done) | (simp_all; omega))
         | (refine ⟨?_, zK⟩; clear hnx; first | ((try simp only [List.drop_length, Int.toNat_natCast, zV, yD] at hJ ⊢); grind) | (simp_all [zV, yD]; done) | (simp_all; omega)))
      | (obtain rfl : i = l.length := (by first | omega | (simp at *; omega))
         refine ⟨?_, zK⟩; clear hnx; first | ((try simp only [List.drop_length, Int.toNat_natCast, zV, yD] at hJ ⊢); grind) | (simp_all [zV, yD]; done) | (simp_all; omega))
theorem s_Progs {p r : Bool} {l : List (List Inn)} : PC ctx.P 140 [.view p 1 (l.map (zB6 r))] (.bool (zM0 zD2 l && decide (l.length ≤ 8))) := by
  refine PC.lim (n := l.length) (x := .view p 1 (l.map (zB6 r))) (by simp) (.here (by simp)) ⟨_, Tryz.func140, by kernel_rfl, by kernel_rfl⟩ fun hlim => ?_
  refine PC.o okC Tryz.func140 rfl (.bool _) fun h nx hnx => ?_
  try simp [-qt, -qd, -ql, rgs]
  repeat' first | done | ((first | ((with_reducible show zT _ _ _ _ _ _); refine zB rfl fun _ => ?_) | ((with_reducible show zH _ _ _ _ _ _ _); refine zC rfl omA omA ?_)) <;> simp [-qt, -qd, -ql, rgs]) | ((first | (with_reducible refine zA ?_ ?_)) <;> intro qb <;> (have qp := qb; try simp only [psq] at qp) <;> simp [-qt, -qd, -ql, rgs, qb])
  refine zU [2, 3, 4, 5, 6, 7, 8, 9, 10, 11, 12, 13, 14, 15] (l.length) (fun (i : Nat) a => [(3, .int .i64 i)]) (fun i_ a_ h_ _ => (fun i (_ : Unit) _ => zM0 zD2 (l.drop i) = zM0 zD2 l) i_ a_ h_) (()) (by simp) ?_ zP (Nat.le_refl _) ?_
  · simp
  · intro i a tm h' n' hle hJ hE hn' next hnx
    try dsimp only at hJ
    have hK : KeepB nx h' h := KeepB.sub hE zK (by omega)
    simp [-qt, -qd, -ql]
    try simp [-qt, -qd, -ql, rgs, zB6]
    repeat' first | done | ((first | ((with_reducible show zT _ _ _ _ _ _); refine zB rfl fun _ => ?_) | ((with_reducible show zH _ _ _ _ _ _ _); refine zC rfl omA omA ?_) | ((with_reducible show zG _ _ _ 249 _ _); refine zD (s_ProgOk) ?_)) <;> simp [-qt, -qd, -ql, rgs, zB6]) | ((first | (with_reducible refine zA ?_ ?_)) <;> intro qb <;> (have qp := qb; try simp only [psq] at qp) <;> simp [-qt, -qd, -ql, rgs, zB6, qb])
    all_goals
      first
      | (have hlt : i < l.length := (by first | omega | (simp at *; omega))
         rw [zS hlt] at hJ
         first
         | (refine hnx.go (()) ?_ ?_ ?_ ?_ ?_ ?_; omega; (simp [zM hlt hlim]); (simp); exact zK; (first | omega | (simp; omega)); (try dsimp only); clear hnx; first | ((try simp only [List.drop_length, Int.toNat_natCast, zV, yD] at hJ ⊢); grind) | (simp_all [zV, yD]; done) | (simp_all; omega))
         | (refine ⟨?_, zK⟩; clear hnx; first | ((try simp only [List.drop_length, Int.toNat_natCast, zV, yD] at hJ ⊢); grind) | (simp_all [zV, yD]; done) | (simp_all; omega)))
      | (obtain rfl : i = l.length := (by first | omega | (simp at *; omega))
         refine ⟨?_, zK⟩; clear hnx; first | ((try simp only [List.drop_length, Int.toNat_natCast, zV, yD] at hJ ⊢); grind) | (simp_all [zV, yD]; done) | (simp_all; omega))
theorem s_Node {F : Nat → Bool} {w : Wld} {n : Int} : PC ctx.P 253 [.agg (wldV F w), .int .i64 n] (.bool (vV n w.tree)) := by
  refine PC.lim (n := w.tree.length) (x := .agg (wldV F w)) (by simp) (.agg (x := .view (F 2) 5 (w.tree.map vE)) (by simp [wldV]) (.here (by simp))) ⟨_, Tryz.func253, by kernel_rfl, by kernel_rfl⟩ fun hlim => ?_
  refine PC.o okC Tryz.func253 rfl (.bool _) fun h nx hnx => ?_
  try simp [-qt, -qd, -ql, rgs, wldV, yC hlim, vV]
  repeat' first | done | ((first | ((with_reducible show zT _ _ _ _ _ _); refine zB rfl fun _ => ?_) | ((with_reducible show zG _ _ _ 252 _ _); refine zD (zA8) ?_)) <;> simp [-qt, -qd, -ql, rgs, wldV, yC hlim, vV])
theorem s_Task {F : Nat → Bool} {w : Wld} {n : Int} : PC ctx.P 254 [.agg (wldV F w), .int .i64 n] (.bool (vV n w.tasks)) := by
  refine PC.lim (n := w.tasks.length) (x := .agg (wldV F w)) (by simp) (.agg (x := .view (F 11) 9 (w.tasks.map vQ)) (by simp [wldV]) (.here (by simp))) ⟨_, Tryz.func254, by kernel_rfl, by kernel_rfl⟩ fun hlim => ?_
  refine PC.o okC Tryz.func254 rfl (.bool _) fun h nx hnx => ?_
  try simp [-qt, -qd, -ql, rgs, wldV, yC hlim, vV]
  repeat' first | done | ((first | ((with_reducible show zT _ _ _ _ _ _); refine zB rfl fun _ => ?_) | ((with_reducible show zG _ _ _ 252 _ _); refine zD (zA8) ?_)) <;> simp [-qt, -qd, -ql, rgs, wldV, yC hlim, vV])
theorem s_Group {F : Nat → Bool} {w : Wld} {n : Int} : PC ctx.P 255 [.agg (wldV F w), .int .i64 n] (.bool (vV n w.groups)) := by
  refine PC.lim (n := w.groups.length) (x := .agg (wldV F w)) (by simp) (.agg (x := .view (F 12) 5 (w.groups.map (vA (F 13)))) (by simp [wldV]) (.here (by simp))) ⟨_, Tryz.func255, by kernel_rfl, by kernel_rfl⟩ fun hlim => ?_
  refine PC.o okC Tryz.func255 rfl (.bool _) fun h nx hnx => ?_
  try simp [-qt, -qd, -ql, rgs, wldV, yC hlim, vV]
  repeat' first | done | ((first | ((with_reducible show zT _ _ _ _ _ _); refine zB rfl fun _ => ?_) | ((with_reducible show zG _ _ _ 252 _ _); refine zD (zA8) ?_)) <;> simp [-qt, -qd, -ql, rgs, wldV, yC hlim, vV])
theorem s_Events {F : Nat → Bool} {w : Wld} : PC ctx.P 141 [.agg (wldV F w)] (.bool (yR w.tree w.events && w.events.all (fun e => inR e.time 0 w.now))) := by
  refine PC.lim (n := w.events.length) (x := .agg (wldV F w)) (by simp) (.agg (x := .view (F 3) 4 (w.events.map vK)) (by simp [wldV]) (.here (by simp))) ⟨_, Tryz.func141, by kernel_rfl, by kernel_rfl⟩ fun hlim => ?_
  rw [evTimes_eq]
  refine PC.o okC Tryz.func141 rfl (.bool _) fun h nx hnx => ?_
  try simp [-qt, -qd, -ql, rgs, wldV, vK, yC hlim]
  repeat' first | done | ((first | ((with_reducible show zT _ _ _ _ _ _); refine zB rfl fun _ => ?_) | ((with_reducible show zH _ _ _ _ _ _ _); refine zC rfl omA omA ?_) | ((with_reducible show zG _ _ _ 250 _ _); refine zD (s_EventsOk) ?_) | (with_reducible refine zI (i := 2) [(0, [], []), (1, [], []), (2, [], []), (3, [], []), (4, [], []), (5, [], []), (6, [], []), (7, [], []), (8, [], []), (9, [], []), (10, [], []), (11, [], []), (12, [], []), (13, [], []), (14, [], []), (15, [], []), (16, [], []), (17, [], []), (18, [], []), (19, [], []), (20, [], []), (21, [], []), (22, [], []), (23, [], []), (24, [], []), (25, [], []), (26, [], []), (27, [], []), (28, [], []), (29, [], [])] (by kernel_rfl) ?_)) <;> simp [-qt, -qd, -ql, rgs, wldV, vK, yC hlim]) | ((first | (with_reducible refine zQ ?_ ?_)) <;> intro qb <;> (have qp := qb; try simp only [psq] at qp) <;> simp [-qt, -qd, -ql, rgs, wldV, vK, yC hlim, qb])
  all_goals (try clear hnx)
  all_goals first | (simp_all []; done) | (simp_all []; omega) | (rw [Bool.eq_iff_iff]; simp_all []; done) | (rw [Bool.eq_iff_iff]; simp_all []; omega) | omega | (simp only []; grind) | grind
theorem s_Timers {F : Nat → Bool} {w : Wld} : PC ctx.P 143 [.agg (wldV F w)] (.bool (uV w.timers && zM0 (uR w) w.timers.list)) := by
  refine PC.lim (n := w.timers.list.length) (x := .agg (wldV F w)) (by simp) (.agg (x := .view (F 7) 5 (w.timers.list.map vN)) (by simp [wldV]) (.here (by simp))) ⟨_, Tryz.func143, by kernel_rfl, by kernel_rfl⟩ fun hlim => ?_
  refine PC.o okC Tryz.func143 rfl (.bool _) fun h nx hnx => ?_
  try simp [-qt, -qd, -ql, rgs, wldV]
  repeat' first | done | ((first | ((with_reducible show zT _ _ _ _ _ _); refine zB rfl fun _ => ?_) | ((with_reducible show zH _ _ _ _ _ _ _); refine zC rfl omA omA ?_) | ((with_reducible show zG _ _ _ 208 _ _); refine zD (s_TimersOk (t := w.timers) (F := F)) ?_)) <;> simp [-qt, -qd, -ql, rgs, wldV]) | ((first | (with_reducible refine zE ?_ ?_) | (with_reducible refine zA ?_ ?_)) <;> intro qb <;> (have qp := qb; try simp only [psq] at qp) <;> simp [-qt, -qd, -ql, rgs, wldV, qb])
  all_goals first | (clear hnx; simp_all; done) | skip
  refine zU [2, 3, 4, 9, 10, 11, 12, 13, 14, 15, 16, 17, 18, 19, 20, 21, 22, 23, 24, 25, 26, 27, 28, 29, 30, 31, 32, 33, 34, 35, 36, 37, 38, 39, 40, 41, 42, 43, 44] (w.timers.list.length) (fun (i : Nat) a => [(3, .int .i64 i)]) (fun i_ a_ h_ _ => (fun i (_ : Unit) _ => zM0 (uR w) (w.timers.list.drop i) = zM0 (uR w) w.timers.list) i_ a_ h_) (()) (by simp) ?_ zP (Nat.le_refl _) ?_
  · simp
  · intro i a tm h' n' hle hJ hE hn' next hnx
    try dsimp only at hJ
    have hK : KeepB nx h' h := KeepB.sub hE zK (by omega)
    simp [-qt, -qd, -ql]
    have e1 : h' (nx) = some (.obj (wldV F w)) := by have := hE (nx) (by omega); simpa [wldV] using this
    have e1n : ∀ k, ((nx) = n' + k) = False := fun k => by simp only [eq_iff_iff, iff_false]; omega
    have e1m : ((nx) = n') = False := by simp only [eq_iff_iff, iff_false]; omega
    try simp [-qt, -qd, -ql, rgs, wldV, vN, e1, e1n, e1m]
    repeat' first | done | ((first | ((with_reducible show zT _ _ _ _ _ _); refine zB rfl fun _ => ?_) | ((with_reducible show zH _ _ _ _ _ _ _); refine zC rfl omA omA ?_) | ((with_reducible show zG _ _ _ 253 _ _); refine zD (s_Node (w := w) (F := F)) ?_) | ((with_reducible show zG _ _ _ 254 _ _); refine zD (s_Task (w := w) (F := F)) ?_)) <;> simp [-qt, -qd, -ql, rgs, wldV, vN, e1, e1n, e1m]) | ((first | (with_reducible refine zE ?_ ?_) | (with_reducible refine zA ?_ ?_)) <;> intro qb <;> (have qp := qb; try simp only [psq] at qp) <;> simp [-qt, -qd, -ql, rgs, wldV, vN, e1, e1n, e1m, qb])
    all_goals
      first
      | (have hlt : i < w.timers.list.length := (by first | omega | (simp at *; omega))
         rw [zS hlt] at hJ
         first
         | (refine hnx.go (()) ?_ ?_ ?_ ?_ ?_ ?_; omega; (simp [zM hlt hlim]); (simp); exact zK; (first | omega | (simp; omega)); (try dsimp only); clear hnx; first | ((try simp only [List.drop_length, Int.toNat_natCast, zV, yD, uR] at hJ ⊢); grind) | (simp_all [zV, yD, uR]; done) | (simp_all; omega))
         | (refine ⟨?_, zK⟩; clear hnx; first | ((try simp only [List.drop_length, Int.toNat_natCast, zV, yD, uR] at hJ ⊢); grind) | (simp_all [zV, yD, uR]; done) | (simp_all; omega)))
      | (obtain rfl : i = w.timers.list.length := (by first | omega | (simp at *; omega))
         refine ⟨?_, zK⟩; clear hnx; first | ((try simp only [List.drop_length, Int.toNat_natCast, zV, yD, uR] at hJ ⊢); grind) | (simp_all [zV, yD, uR]; done) | (simp_all; omega))
theorem s_Afters {F : Nat → Bool} {w : Wld} : PC ctx.P 144 [.agg (wldV F w)] (.bool (zM0 (fun a => vV a.node w.tree) w.afters.list && uU w.afters)) := by
  refine PC.lim (n := w.afters.list.length) (x := .agg (wldV F w)) (by simp) (.agg (x := .view (F 10) 5 (w.afters.list.map yI)) (by simp [wldV]) (.here (by simp))) ⟨_, Tryz.func144, by kernel_rfl, by kernel_rfl⟩ fun hlim => ?_
  refine PC.o okC Tryz.func144 rfl (.bool _) fun h nx hnx => ?_
  try simp [-qt, -qd, -ql, rgs, wldV]
  repeat' first | done | ((first | ((with_reducible show zT _ _ _ _ _ _); refine zB rfl fun _ => ?_) | ((with_reducible show zH _ _ _ _ _ _ _); refine zC rfl omA omA ?_) | (with_reducible refine zI (i := 4) [(0, [], []), (1, [], []), (2, [], []), (3, [], []), (4, [], []), (5, [], []), (6, [], []), (7, [], []), (8, [], []), (9, [], [])] (by kernel_rfl) ?_)) <;> simp [-qt, -qd, -ql, rgs, wldV]) | ((first | (with_reducible refine zA ?_ ?_)) <;> intro qb <;> (have qp := qb; try simp only [psq] at qp) <;> simp [-qt, -qd, -ql, rgs, wldV, qb])
  refine zU [2, 3, 4, 5, 6, 7, 8, 9, 10, 11, 12, 13, 14, 15, 16, 17, 18, 19, 20, 21] (w.afters.list.length) (fun (i : Nat) a => [(3, .int .i64 i)]) (fun i_ a_ h_ _ => (fun i (_ : Unit) _ => zM0 (fun a => vV a.node w.tree) (w.afters.list.drop i) = zM0 (fun a => vV a.node w.tree) w.afters.list) i_ a_ h_) (()) (by simp) ?_ zP (Nat.le_refl _) ?_
  · simp
  · intro i a tm h' n' hle hJ hE hn' next hnx
    try dsimp only at hJ
    have hK : KeepB nx h' h := KeepB.sub hE zK (by omega)
    simp [-qt, -qd, -ql]
    have e1 : h' (nx) = some (.obj (wldV F w)) := by have := hE (nx) (by omega); simpa [wldV] using this
    have e1n : ∀ k, ((nx) = n' + k) = False := fun k => by simp only [eq_iff_iff, iff_false]; omega
    have e1m : ((nx) = n') = False := by simp only [eq_iff_iff, iff_false]; omega
    try simp [-qt, -qd, -ql, rgs, wldV, yI, e1, e1n, e1m]
    repeat' first | done | ((first | ((with_reducible show zT _ _ _ _ _ _); refine zB rfl fun _ => ?_) | ((with_reducible show zH _ _ _ _ _ _ _); refine zC rfl omA omA ?_) | ((with_reducible show zG _ _ _ 253 _ _); refine zD (s_Node (w := w) (F := F)) ?_) | ((with_reducible show zG _ _ _ 231 _ _); refine zD (s_AftersOk (x := w.afters) (F := F)) ?_) | (with_reducible refine zI (i := 4) [(0, [], []), (1, [], []), (2, [], []), (3, [], []), (4, [], []), (5, [], []), (6, [], []), (7, [], []), (8, [], []), (9, [], [])] (by kernel_rfl) ?_)) <;> simp [-qt, -qd, -ql, rgs, wldV, yI, e1, e1n, e1m]) | ((first | (with_reducible refine zA ?_ ?_)) <;> intro qb <;> (have qp := qb; try simp only [psq] at qp) <;> simp [-qt, -qd, -ql, rgs, wldV, yI, e1, e1n, e1m, qb])
    all_goals
      first
      | (have hlt : i < w.afters.list.length := (by first | omega | (simp at *; omega))
         rw [zS hlt] at hJ
         first
         | (refine hnx.go (()) ?_ ?_ ?_ ?_ ?_ ?_; omega; (simp [zM hlt hlim]); (simp); exact zK; (first | omega | (simp; omega)); (try dsimp only); clear hnx; first | ((try simp only [List.drop_length, Int.toNat_natCast, zV, yD] at hJ ⊢); grind) | (simp_all [zV, yD]; done) | (simp_all; omega))
         | (refine ⟨?_, zK⟩; clear hnx; first | ((try simp only [List.drop_length, Int.toNat_natCast, zV, yD] at hJ ⊢); grind) | (simp_all [zV, yD]; done) | (simp_all; omega)))
      | (obtain rfl : i = w.afters.list.length := (by first | omega | (simp at *; omega))
         refine ⟨?_, zK⟩; clear hnx; first | ((try simp only [List.drop_length, Int.toNat_natCast, zV, yD] at hJ ⊢); grind) | (simp_all [zV, yD]; done) | (simp_all; omega))
end Go.AE.Tryz
end

section
/- Contracts of the reference's readers: worlds. -/
set_option linter.unusedSimpArgs false
set_option linter.unusedVariables false
set_option maxRecDepth 8000
set_option maxHeartbeats 4000000
namespace Go.AE.Tryz
open Go.Proofs
open List renaming map_take → qt, map_drop → qd, map_tail → ql

theorem s_Tasks {F : Nat → Bool} {w : Wld} : PC ctx.P 145 [.agg (wldV F w)] (.bool (zA1 w.tasks && zM0 (zC6 w) w.tasks)) := by
  refine PC.lim (n := w.tasks.length) (x := .agg (wldV F w)) (by simp) (.agg (x := .view (F 11) 9 (w.tasks.map vQ)) (by simp [wldV]) (.here (by simp))) ⟨_, Tryz.func145, by kernel_rfl, by kernel_rfl⟩ fun hlim => ?_
  by_cases ht : zA1 w.tasks = true
  · refine PC.o okC Tryz.func145 rfl (.bool _) fun h nx hnx => ?_
    try simp [-qt, -qd, -ql, rgs, wldV, ht]
    repeat' first | done | ((first | ((with_reducible show zT _ _ _ _ _ _); refine zB rfl fun _ => ?_) | ((with_reducible show zH _ _ _ _ _ _ _); refine zC rfl omA omA ?_) | ((with_reducible show zG _ _ _ 207 _ _); refine zD (s_TasksOk) ?_) | (with_reducible refine zI (i := 7) [(0, [], []), (1, [], []), (2, [], []), (3, [], []), (4, [], []), (5, [], []), (6, [], []), (7, [], []), (8, [], []), (9, [], []), (10, [], []), (11, [], []), (12, [], []), (13, [], []), (14, [], []), (15, [], []), (16, [], []), (17, [], []), (18, [], []), (19, [], []), (20, [], []), (21, [], []), (22, [], []), (23, [], []), (24, [], []), (25, [], [])] (by kernel_rfl) ?_)) <;> simp [-qt, -qd, -ql, rgs, wldV, ht]) | ((first | (with_reducible refine zQ ?_ ?_) | (with_reducible refine zE ?_ ?_) | (with_reducible refine zA ?_ ?_)) <;> intro qb <;> (have qp := qb; try simp only [psq] at qp) <;> simp [-qt, -qd, -ql, rgs, wldV, ht, qb])
    refine zU [2, 3, 4, 9, 10, 11, 12, 13, 14, 15, 16, 17, 18, 19, 20, 21, 22, 23, 24, 25, 26, 27, 28, 29, 30, 31, 32, 33, 34, 35, 36, 37, 38, 39, 40, 41, 42, 43, 44, 45, 46, 47, 48, 49, 50, 51, 52, 53, 54, 55, 56, 57, 58, 59, 60, 61, 62, 63, 64, 65, 66, 67, 68, 69, 70, 71, 72, 73, 74, 75, 76, 77, 78] (w.tasks.length) (fun (i : Nat) a => [(3, .int .i64 i)]) (fun i_ a_ h_ _ => (fun i (_ : Unit) _ => zM0 (zC6 w) (w.tasks.drop i) = zM0 (zC6 w) w.tasks) i_ a_ h_) (()) (by simp) ?_ zP (Nat.le_refl _) ?_
    · simp
    · intro i a tm h' n' hle hJ hE hn' next hnx
      try dsimp only at hJ
      have hK : KeepB nx h' h := KeepB.sub hE zK (by omega)
      simp [-qt, -qd, -ql]
      have e1 : h' (nx) = some (.obj (wldV F w)) := by have := hE (nx) (by omega); simpa [wldV] using this
      have e1n : ∀ k, ((nx) = n' + k) = False := fun k => by simp only [eq_iff_iff, iff_false]; omega
      have e1m : ((nx) = n') = False := by simp only [eq_iff_iff, iff_false]; omega
      by_cases hi : i < w.tasks.length
      · have hf := tskOk_facts (tasksOk_at ht (show (0 : Int) ≤ (i : Int) by omega) (by omega))
        try simp [-qt, -qd, -ql, rgs, wldV, vQ, zB6, e1, e1n, e1m]
        repeat' first | done | ((first | ((with_reducible show zT _ _ _ _ _ _); refine zB rfl fun _ => ?_) | ((with_reducible show zH _ _ _ _ _ _ _); refine zC rfl omA omA ?_) | ((with_reducible show zG _ _ _ 253 _ _); refine zD (s_Node (w := w) (F := F)) ?_) | ((with_reducible show zG _ _ _ 255 _ _); refine zD (s_Group (w := w) (F := F)) ?_) | (with_reducible refine zI (i := 7) [(0, [], []), (1, [], []), (2, [], []), (3, [], []), (4, [], []), (5, [], []), (6, [], []), (7, [], []), (8, [], []), (9, [], []), (10, [], []), (11, [], []), (12, [], []), (13, [], []), (14, [], []), (15, [], []), (16, [], []), (17, [], []), (18, [], []), (19, [], []), (20, [], []), (21, [], []), (22, [], []), (23, [], []), (24, [], []), (25, [], [])] (by kernel_rfl) ?_)) <;> simp [-qt, -qd, -ql, rgs, wldV, vQ, zB6, e1, e1n, e1m]) | ((first | (with_reducible refine zQ ?_ ?_) | (with_reducible refine zE ?_ ?_) | (with_reducible refine zA ?_ ?_)) <;> intro qb <;> (have qp := qb; try simp only [psq] at qp) <;> simp [-qt, -qd, -ql, rgs, wldV, vQ, zB6, e1, e1n, e1m, qb])
        all_goals
          first
          | (have hlt : i < w.tasks.length := (by first | omega | (simp at *; omega))
             rw [zS hlt] at hJ
             first
             | (refine hnx.go (()) ?_ ?_ ?_ ?_ ?_ ?_; omega; (simp [zM hlt hlim]); (simp); exact zK; (first | omega | (simp; omega)); (try dsimp only); clear hnx; first | ((try simp only [List.drop_length, Int.toNat_natCast, zV, yD, zC6, vV, inR] at hJ ⊢); grind) | (simp_all [zV, yD, zC6, vV, inR]; done) | (simp_all; omega))
             | (refine ⟨?_, zK⟩; clear hnx; first | ((try simp only [List.drop_length, Int.toNat_natCast, zV, yD, zC6, vV, inR] at hJ ⊢); grind) | (simp_all [zV, yD, zC6, vV, inR]; done) | (simp_all; omega)))
          | (obtain rfl : i = w.tasks.length := (by first | omega | (simp at *; omega))
             refine ⟨?_, zK⟩; clear hnx; first | ((try simp only [List.drop_length, Int.toNat_natCast, zV, yD, zC6, vV, inR] at hJ ⊢); grind) | (simp_all [zV, yD, zC6, vV, inR]; done) | (simp_all; omega))
      · try simp [-qt, -qd, -ql, rgs, wldV, vQ, zB6, e1, e1n, e1m]
        repeat' first | done | ((first | ((with_reducible show zT _ _ _ _ _ _); refine zB rfl fun _ => ?_) | ((with_reducible show zH _ _ _ _ _ _ _); refine zC rfl omA omA ?_) | ((with_reducible show zG _ _ _ 253 _ _); refine zD (s_Node (w := w) (F := F)) ?_) | ((with_reducible show zG _ _ _ 255 _ _); refine zD (s_Group (w := w) (F := F)) ?_) | (with_reducible refine zI (i := 7) [(0, [], []), (1, [], []), (2, [], []), (3, [], []), (4, [], []), (5, [], []), (6, [], []), (7, [], []), (8, [], []), (9, [], []), (10, [], []), (11, [], []), (12, [], []), (13, [], []), (14, [], []), (15, [], []), (16, [], []), (17, [], []), (18, [], []), (19, [], []), (20, [], []), (21, [], []), (22, [], []), (23, [], []), (24, [], []), (25, [], [])] (by kernel_rfl) ?_)) <;> simp [-qt, -qd, -ql, rgs, wldV, vQ, zB6, e1, e1n, e1m]) | ((first | (with_reducible refine zQ ?_ ?_) | (with_reducible refine zE ?_ ?_) | (with_reducible refine zA ?_ ?_)) <;> intro qb <;> (have qp := qb; try simp only [psq] at qp) <;> simp [-qt, -qd, -ql, rgs, wldV, vQ, zB6, e1, e1n, e1m, qb])
        all_goals
          first
          | (have hlt : i < w.tasks.length := (by first | omega | (simp at *; omega))
             rw [zS hlt] at hJ
             first
             | (refine hnx.go (()) ?_ ?_ ?_ ?_ ?_ ?_; omega; (simp [zM hlt hlim]); (simp); exact zK; (first | omega | (simp; omega)); (try dsimp only); clear hnx; first | ((try simp only [List.drop_length, Int.toNat_natCast, zV, yD] at hJ ⊢); grind) | (simp_all [zV, yD]; done) | (simp_all; omega))
             | (refine ⟨?_, zK⟩; clear hnx; first | ((try simp only [List.drop_length, Int.toNat_natCast, zV, yD] at hJ ⊢); grind) | (simp_all [zV, yD]; done) | (simp_all; omega)))
          | (obtain rfl : i = w.tasks.length := (by first | omega | (simp at *; omega))
             refine ⟨?_, zK⟩; clear hnx; first | ((try simp only [List.drop_length, Int.toNat_natCast, zV, yD] at hJ ⊢); grind) | (simp_all [zV, yD]; done) | (simp_all; omega))
  · refine PC.o okC Tryz.func145 rfl (.bool _) fun h nx hnx => ?_
    try simp [-qt, -qd, -ql, rgs, wldV, ht]
    repeat' first | done | ((first | ((with_reducible show zT _ _ _ _ _ _); refine zB rfl fun _ => ?_) | ((with_reducible show zH _ _ _ _ _ _ _); refine zC rfl omA omA ?_) | ((with_reducible show zG _ _ _ 207 _ _); refine zD (s_TasksOk) ?_) | (with_reducible refine zI (i := 7) [(0, [], []), (1, [], []), (2, [], []), (3, [], []), (4, [], []), (5, [], []), (6, [], []), (7, [], []), (8, [], []), (9, [], []), (10, [], []), (11, [], []), (12, [], []), (13, [], []), (14, [], []), (15, [], []), (16, [], []), (17, [], []), (18, [], []), (19, [], []), (20, [], []), (21, [], []), (22, [], []), (23, [], []), (24, [], []), (25, [], [])] (by kernel_rfl) ?_)) <;> simp [-qt, -qd, -ql, rgs, wldV, ht]) | ((first | (with_reducible refine zQ ?_ ?_) | (with_reducible refine zE ?_ ?_) | (with_reducible refine zA ?_ ?_)) <;> intro qb <;> (have qp := qb; try simp only [psq] at qp) <;> simp [-qt, -qd, -ql, rgs, wldV, ht, qb])
    all_goals (try clear hnx)
    all_goals first | (simp_all []; done) | (simp_all []; omega) | (rw [Bool.eq_iff_iff]; simp_all []; done) | (rw [Bool.eq_iff_iff]; simp_all []; omega) | omega | (simp only []; grind) | grind
end Go.AE.Tryz
end

section
/- Contracts of the reference's copies. -/
set_option linter.unusedSimpArgs false
set_option linter.unusedVariables false
set_option maxRecDepth 8000
set_option maxHeartbeats 4000000
namespace Go.AE.Tryz
open Go.Proofs
open List renaming map_take → qt, map_drop → qd, map_tail → ql

theorem s_l1CopySlots {F : Nat → Bool} {s : Slt} (h1 : s.ages.length ≤ 1048576) (h2 : s.used.length ≤ 1048576) : PC ctx.P 310 [.agg (yW F s)] (.agg (yW (fun _ => true) s)) := by
  refine PC.o okC Tryz.func310 rfl (.agg _ (sltV_fz s)) fun h nx hnx => ?_
  try simp [-qt, -qd, -ql, rgs, yB hnx, yW, iv, bv]
  repeat' first | done | ((first | ((with_reducible show zC9 _ _ _ _ _ _ _ _); refine zW rfl rfl (by decide) (by decide) (by first | (simp [-qt, -qd, -ql, rgs, yB hnx, yW, iv, bv]; done) | (simp [-qt, -qd, -ql, rgs, yB hnx, yW, iv, bv]; rfl)) (by first | (simp [-qt, -qd, -ql, rgs, yB hnx, yW, iv, bv]; done) | (simp [-qt, -qd, -ql, rgs, yB hnx, yW, iv, bv]; rfl)) (by first | (simp; done) | (simp; omega)) (by first | (simp only [yK, LIM] at *; simp; omega) | (simp only [yK]; simp; omega)) (by simp [iv, bv]) ?_) | (with_reducible refine zI (i := 1) [(1, [], []), (2, [], [0, 4]), (5, [], []), (6, [], [0, 4]), (0, [], []), (3, [.tmp 8], [4]), (4, [], []), (7, [], []), (8, [], []), (9, [], [])] (by kernel_rfl) ?_)) <;> simp [-qt, -qd, -ql, rgs, yB hnx, yW, iv, bv])
theorem s_l8Copy {F : Nat → Bool} {s : Afs} (h1 : s.slots.ages.length ≤ 1048576) (h2 : s.slots.used.length ≤ 1048576) (h3 : s.list.length ≤ 1048576) : PC ctx.P 220 [.agg (vD F s)] (.agg (vD (fun _ => true) s)) := by
  refine PC.o okC Tryz.func220 rfl (.agg _ (afsV_fz s)) fun h nx hnx => ?_
  try simp [-qt, -qd, -ql, rgs, yB hnx, vD, yI, yW]
  repeat' first | done | ((first | ((with_reducible show zG _ _ _ 310 _ _); refine zD (s_l1CopySlots (s := s.slots) (F := F) h1 h2) ?_) | ((with_reducible show zC9 _ _ _ _ _ _ _ _); refine zW rfl rfl (by decide) (by decide) (by first | (simp [-qt, -qd, -ql, rgs, yB hnx, vD, yI, yW]; done) | (simp [-qt, -qd, -ql, rgs, yB hnx, vD, yI, yW]; rfl)) (by first | (simp [-qt, -qd, -ql, rgs, yB hnx, vD, yI, yW]; done) | (simp [-qt, -qd, -ql, rgs, yB hnx, vD, yI, yW]; rfl)) (by first | (simp; done) | (simp; omega)) (by first | (simp only [yK, LIM] at *; simp; omega) | (simp only [yK]; simp; omega)) (by simp [iv, bv]) ?_) | (with_reducible refine zI (i := 1) [(0, [], []), (1, [], [3]), (4, [], []), (5, [], [3]), (2, [.tmp 7], [3]), (3, [], []), (6, [], []), (7, [], []), (8, [], [])] (by kernel_rfl) ?_)) <;> simp [-qt, -qd, -ql, rgs, yB hnx, vD, yI, yW])
end Go.AE.Tryz
end
