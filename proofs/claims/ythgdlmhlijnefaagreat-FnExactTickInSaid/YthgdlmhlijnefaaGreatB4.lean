/- Contracts of the seat's functions: what each answers, for all arguments. -/
import Derived.Test.YthgdlmhlijnefaaGreatB3
import Derived.Test.YthgdlmhlijnefaaGreatA3
import Derived.Test.YthgdlmhlijnefaaGreatB1
import Derived.Test.YthgdlmhlijnefaaGreatB2
section
/- Contracts of the reference's copies as new rows. -/
set_option linter.unusedSimpArgs false
set_option linter.unusedVariables false
set_option maxRecDepth 8000
set_option maxHeartbeats 4000000
namespace Go.AE.Tryz
open Go.Proofs
open List (map_take map_drop map_tail)

theorem f_l1Copy {p : Bool} {xs : List Int} (hm : xs.length ≤ 1048576) : FC ctx.P 221 [.view p 1 (xs.map iv)] (.ref 0 1 0 (xs.map iv).length) [.row 1 (xs.map iv)] := by
  refine FC.o1 okC Tryz.func221 rfl (fz_mapR iv_fz xs) fun h nx hnx => ?_
  try simp [-map_take, -map_drop, -map_tail, rgs, iv]
  repeat' first | done | ((first | ((with_reducible show appS _ _ _ _ _ _ _ _); refine app_end rfl rfl (by decide) (by decide) (by first | (simp [-map_take, -map_drop, -map_tail, rgs, iv]; done) | (simp [-map_take, -map_drop, -map_tail, rgs, iv]; rfl)) (by first | (simp [-map_take, -map_drop, -map_tail, rgs, iv]; done) | (simp [-map_take, -map_drop, -map_tail, rgs, iv]; rfl)) (by first | (simp; done) | (simp; omega)) (by first | (simp only [MLIM, LIM] at *; simp; omega) | (simp only [MLIM]; simp; omega)) (by simp [iv, bv]) ?_)) <;> simp [-map_take, -map_drop, -map_tail, rgs, iv])
  exact fin1_ref keepA (by first | omega | (simp; done) | (simp; omega)) (by omega) (by simp) rfl (by simp)
theorem f_l3Copy {p : Bool} {xs : List Twg} (hm : xs.length ≤ 1048576) : FC ctx.P 309 [.view p 3 (xs.map twgC)] (.ref 0 3 0 (xs.map twgC).length) [.row 3 (xs.map twgC)] := by
  refine FC.o1 okC Tryz.func309 rfl (fz_mapR twgC_fz xs) fun h nx hnx => ?_
  try simp [-map_take, -map_drop, -map_tail, rgs, twgC]
  repeat' first | done | ((first | ((with_reducible show appS _ _ _ _ _ _ _ _); refine app_end rfl rfl (by decide) (by decide) (by first | (simp [-map_take, -map_drop, -map_tail, rgs, twgC]; done) | (simp [-map_take, -map_drop, -map_tail, rgs, twgC]; rfl)) (by first | (simp [-map_take, -map_drop, -map_tail, rgs, twgC]; done) | (simp [-map_take, -map_drop, -map_tail, rgs, twgC]; rfl)) (by first | (simp; done) | (simp; omega)) (by first | (simp only [MLIM, LIM] at *; simp; omega) | (simp only [MLIM]; simp; omega)) (by simp [iv, bv]) ?_)) <;> simp [-map_take, -map_drop, -map_tail, rgs, twgC])
  exact fin1_ref keepA (by first | omega | (simp; done) | (simp; omega)) (by omega) (by simp) rfl (by simp)
theorem f_l5Copy {p : Bool} {xs : List Nod} (hm : xs.length ≤ 1048576) : FC ctx.P 216 [.view p 5 (xs.map nodC)] (.ref 0 5 0 (xs.map nodC).length) [.row 5 (xs.map nodC)] := by
  refine FC.o1 okC Tryz.func216 rfl (fz_mapR nodC_fz xs) fun h nx hnx => ?_
  try simp [-map_take, -map_drop, -map_tail, rgs, nodC]
  repeat' first | done | ((first | ((with_reducible show appS _ _ _ _ _ _ _ _); refine app_end rfl rfl (by decide) (by decide) (by first | (simp [-map_take, -map_drop, -map_tail, rgs, nodC]; done) | (simp [-map_take, -map_drop, -map_tail, rgs, nodC]; rfl)) (by first | (simp [-map_take, -map_drop, -map_tail, rgs, nodC]; done) | (simp [-map_take, -map_drop, -map_tail, rgs, nodC]; rfl)) (by first | (simp; done) | (simp; omega)) (by first | (simp only [MLIM, LIM] at *; simp; omega) | (simp only [MLIM]; simp; omega)) (by simp [iv, bv]) ?_)) <;> simp [-map_take, -map_drop, -map_tail, rgs, nodC])
  exact fin1_ref keepA (by first | omega | (simp; done) | (simp; omega)) (by omega) (by simp) rfl (by simp)
theorem f_l6Copy {p : Bool} {xs : List Evt} (hm : xs.length ≤ 1048576) : FC ctx.P 217 [.view p 4 (xs.map evtC)] (.ref 0 4 0 (xs.map evtC).length) [.row 4 (xs.map evtC)] := by
  refine FC.o1 okC Tryz.func217 rfl (fz_mapR evtC_fz xs) fun h nx hnx => ?_
  try simp [-map_take, -map_drop, -map_tail, rgs, evtC]
  repeat' first | done | ((first | ((with_reducible show appS _ _ _ _ _ _ _ _); refine app_end rfl rfl (by decide) (by decide) (by first | (simp [-map_take, -map_drop, -map_tail, rgs, evtC]; done) | (simp [-map_take, -map_drop, -map_tail, rgs, evtC]; rfl)) (by first | (simp [-map_take, -map_drop, -map_tail, rgs, evtC]; done) | (simp [-map_take, -map_drop, -map_tail, rgs, evtC]; rfl)) (by first | (simp; done) | (simp; omega)) (by first | (simp only [MLIM, LIM] at *; simp; omega) | (simp only [MLIM]; simp; omega)) (by simp [iv, bv]) ?_)) <;> simp [-map_take, -map_drop, -map_tail, rgs, evtC])
  exact fin1_ref keepA (by first | omega | (simp; done) | (simp; omega)) (by omega) (by simp) rfl (by simp)
theorem f_l1CopySlots {F : Nat → Bool} {s : Slt} (h1 : s.ages.length ≤ 1048576) (h2 : s.used.length ≤ 1048576) : FC ctx.P 310 [.agg (sltV F s)] (.agg [.ref 0 1 0 s.ages.length, .ref 1 1 0 s.used.length]) [.row 1 (s.ages.map iv), .row 1 (s.used.map bv)] := by
  refine FC.o okC Tryz.func310 rfl ((.one _ (.agg _ fun c hc => by simp at hc; rcases hc with rfl | rfl <;> first | exact .ref _ _ _ _ (by simp) | exact .fz _ (.int _ _)))) ((fun e he => by simp at he; rcases he with rfl | rfl <;> first | exact fz_mapR iv_fz _ | exact fz_mapR bv_fz _ | exact fz_mapR twgC_fz _ | exact fz_mapR tmrC_fz _ | exact fz_mapR afrC_fz _)) fun h nx hnx => ?_
  try simp [-map_take, -map_drop, -map_tail, rgs, free_of hnx, sltV, iv, bv]
  repeat' first | done | ((first | ((with_reducible show appS _ _ _ _ _ _ _ _); refine app_end rfl rfl (by decide) (by decide) (by first | (simp [-map_take, -map_drop, -map_tail, rgs, free_of hnx, sltV, iv, bv]; done) | (simp [-map_take, -map_drop, -map_tail, rgs, free_of hnx, sltV, iv, bv]; rfl)) (by first | (simp [-map_take, -map_drop, -map_tail, rgs, free_of hnx, sltV, iv, bv]; done) | (simp [-map_take, -map_drop, -map_tail, rgs, free_of hnx, sltV, iv, bv]; rfl)) (by first | (simp; done) | (simp; omega)) (by first | (simp only [MLIM, LIM] at *; simp; omega) | (simp only [MLIM]; simp; omega)) (by simp [iv, bv]) ?_) | (with_reducible refine go_draw (i := 1) [(1, [], []), (2, [], [0, 4]), (5, [], []), (6, [], [0, 4]), (0, [], []), (3, [.tmp 8], [4]), (4, [], []), (7, [], []), (8, [], []), (9, [], [])] (by kernel_rfl) ?_)) <;> simp [-map_take, -map_drop, -map_tail, rgs, free_of hnx, sltV, iv, bv])
  exact finF2 (i := nx + 5) (j := nx + 9) keepA (by omega) (by omega) (by omega) (by simp) (by simp) (by simp)
theorem f_l7Copy {F : Nat → Bool} {s : Spr} (h1 : s.told.length ≤ 1048576) (h2 : s.work.length ≤ 1048576) : FC ctx.P 218 [.agg (sprV F s)] (.agg [.ref 0 1 0 s.told.length, .ref 1 1 0 s.work.length]) [.row 1 (s.told.map bv), .row 1 (s.work.map iv)] := by
  refine FC.o okC Tryz.func218 rfl ((.one _ (.agg _ fun c hc => by simp at hc; rcases hc with rfl | rfl <;> first | exact .ref _ _ _ _ (by simp) | exact .fz _ (.int _ _)))) ((fun e he => by simp at he; rcases he with rfl | rfl <;> first | exact fz_mapR iv_fz _ | exact fz_mapR bv_fz _ | exact fz_mapR twgC_fz _ | exact fz_mapR tmrC_fz _ | exact fz_mapR afrC_fz _)) fun h nx hnx => ?_
  try simp [-map_take, -map_drop, -map_tail, rgs, free_of hnx, sprV, iv, bv]
  repeat' first | done | ((first | ((with_reducible show appS _ _ _ _ _ _ _ _); refine app_end rfl rfl (by decide) (by decide) (by first | (simp [-map_take, -map_drop, -map_tail, rgs, free_of hnx, sprV, iv, bv]; done) | (simp [-map_take, -map_drop, -map_tail, rgs, free_of hnx, sprV, iv, bv]; rfl)) (by first | (simp [-map_take, -map_drop, -map_tail, rgs, free_of hnx, sprV, iv, bv]; done) | (simp [-map_take, -map_drop, -map_tail, rgs, free_of hnx, sprV, iv, bv]; rfl)) (by first | (simp; done) | (simp; omega)) (by first | (simp only [MLIM, LIM] at *; simp; omega) | (simp only [MLIM]; simp; omega)) (by simp [iv, bv]) ?_) | (with_reducible refine go_draw (i := 1) [(1, [], []), (2, [], [0, 4]), (5, [], []), (6, [], [0, 4]), (0, [], []), (3, [.tmp 8], [4]), (4, [], []), (7, [], []), (8, [], []), (9, [], [])] (by kernel_rfl) ?_)) <;> simp [-map_take, -map_drop, -map_tail, rgs, free_of hnx, sprV, iv, bv])
  exact finF2 (i := nx + 5) (j := nx + 9) keepA (by omega) (by omega) (by omega) (by simp) (by simp) (by simp)
theorem f_l4Copy {F : Nat → Bool} {s : Tms} (h1 : s.heap.length ≤ 1048576) (h2 : s.list.length ≤ 1048576) : FC ctx.P 219 [.agg (tmsV F s)] (.agg [.ref 0 3 0 s.heap.length, .ref 1 5 0 s.list.length, .int .i64 s.next]) [.row 3 (s.heap.map twgC), .row 5 (s.list.map tmrC)] := by
  refine FC.o okC Tryz.func219 rfl ((.one _ (.agg _ fun c hc => by simp at hc; rcases hc with rfl | rfl | rfl <;> first | exact .ref _ _ _ _ (by simp) | exact .fz _ (.int _ _)))) ((fun e he => by simp at he; rcases he with rfl | rfl <;> first | exact fz_mapR iv_fz _ | exact fz_mapR bv_fz _ | exact fz_mapR twgC_fz _ | exact fz_mapR tmrC_fz _ | exact fz_mapR afrC_fz _)) fun h nx hnx => ?_
  try simp [-map_take, -map_drop, -map_tail, rgs, free_of hnx, tmsV, tmrC]
  repeat' first | done | ((first | ((with_reducible show doCall _ _ _ 309 _ _); refine call_fc (f_l3Copy h1) ?_) | ((with_reducible show appS _ _ _ _ _ _ _ _); refine app_end rfl rfl (by decide) (by decide) (by first | (simp [-map_take, -map_drop, -map_tail, rgs, free_of hnx, tmsV, tmrC]; done) | (simp [-map_take, -map_drop, -map_tail, rgs, free_of hnx, tmsV, tmrC]; rfl)) (by first | (simp [-map_take, -map_drop, -map_tail, rgs, free_of hnx, tmsV, tmrC]; done) | (simp [-map_take, -map_drop, -map_tail, rgs, free_of hnx, tmsV, tmrC]; rfl)) (by first | (simp; done) | (simp; omega)) (by first | (simp only [MLIM, LIM] at *; simp; omega) | (simp only [MLIM]; simp; omega)) (by simp [iv, bv]) ?_) | (with_reducible refine go_draw (i := 1) [(0, [], []), (1, [], [3]), (4, [], []), (5, [], [3]), (7, [], []), (8, [], [3]), (2, [.tmp 7, .tmp 10], [3]), (3, [], []), (6, [.tmp 10], []), (9, [], []), (10, [], [])] (by kernel_rfl) ?_)) <;> simp [-map_take, -map_drop, -map_tail, rgs, free_of hnx, tmsV, tmrC])
  exact finF2 (i := nx + 13) (j := nx + 8) keepA (by omega) (by omega) (by omega) (by simp) (by simp) (by simp)
theorem f_l8Copy {F : Nat → Bool} {s : Afs} (h1 : s.slots.ages.length ≤ 1048576) (h2 : s.slots.used.length ≤ 1048576) (h3 : s.list.length ≤ 1048576) : FC ctx.P 220 [.agg (afsV F s)] (.agg [.ref 0 1 0 s.slots.ages.length, .ref 1 1 0 s.slots.used.length, .ref 2 5 0 s.list.length]) [.row 1 (s.slots.ages.map iv), .row 1 (s.slots.used.map bv), .row 5 (s.list.map afrC)] := by
  refine FC.o okC Tryz.func220 rfl ((.one _ (.agg _ fun c hc => by simp at hc; rcases hc with rfl | rfl | rfl <;> first | exact .ref _ _ _ _ (by simp) | exact .fz _ (.int _ _)))) ((fun e he => by simp at he; rcases he with rfl | rfl | rfl <;> first | exact fz_mapR iv_fz _ | exact fz_mapR bv_fz _ | exact fz_mapR twgC_fz _ | exact fz_mapR tmrC_fz _ | exact fz_mapR afrC_fz _)) fun h nx hnx => ?_
  try simp [-map_take, -map_drop, -map_tail, rgs, free_of hnx, afsV, afrC, sltV]
  repeat' first | done | ((first | ((with_reducible show doCall _ _ _ 310 _ _); refine call_fc (f_l1CopySlots (s := s.slots) (F := F) h1 h2) ?_) | ((with_reducible show appS _ _ _ _ _ _ _ _); refine app_end rfl rfl (by decide) (by decide) (by first | (simp [-map_take, -map_drop, -map_tail, rgs, free_of hnx, afsV, afrC, sltV]; done) | (simp [-map_take, -map_drop, -map_tail, rgs, free_of hnx, afsV, afrC, sltV]; rfl)) (by first | (simp [-map_take, -map_drop, -map_tail, rgs, free_of hnx, afsV, afrC, sltV]; done) | (simp [-map_take, -map_drop, -map_tail, rgs, free_of hnx, afsV, afrC, sltV]; rfl)) (by first | (simp; done) | (simp; omega)) (by first | (simp only [MLIM, LIM] at *; simp; omega) | (simp only [MLIM]; simp; omega)) (by simp [iv, bv]) ?_) | (with_reducible refine go_draw (i := 1) [(0, [], []), (1, [], [3]), (4, [], []), (5, [], [3]), (2, [.tmp 7], [3]), (3, [], []), (6, [], []), (7, [], []), (8, [], [])] (by kernel_rfl) ?_)) <;> simp [-map_take, -map_drop, -map_tail, rgs, free_of hnx, afsV, afrC, sltV])
  exact finF3 (i := nx + 11) (j := nx + 12) (l := nx + 8) keepA (by omega) (by omega) (by omega) (by omega) (by omega) (by omega) (by simp) (by simp) (by simp) (by simp)
theorem f_l12Copy {r : Bool} {g : Grp} (h1 : g.waits.length ≤ 1048576) : FC ctx.P 222 [.agg (grpV r g)] (.agg (grpR g 0)) [.row 1 (g.waits.map iv)] := by
  refine FC.o okC Tryz.func222 rfl ((by simp only [grpR]; exact .one _ (.agg _ fun c hc => by simp at hc; rcases hc with rfl | rfl | rfl | rfl | rfl <;> first | exact .ref _ _ _ _ (by simp) | exact .fz _ (.int _ _)))) ((fun e he => by simp at he; subst he; exact fz_mapR iv_fz _)) fun h nx hnx => ?_
  try simp [-map_take, -map_drop, -map_tail, rgs, grpV, iv]
  repeat' first | done | ((first | ((with_reducible show appS _ _ _ _ _ _ _ _); refine app_end rfl rfl (by decide) (by decide) (by first | (simp [-map_take, -map_drop, -map_tail, rgs, grpV, iv]; done) | (simp [-map_take, -map_drop, -map_tail, rgs, grpV, iv]; rfl)) (by first | (simp [-map_take, -map_drop, -map_tail, rgs, grpV, iv]; done) | (simp [-map_take, -map_drop, -map_tail, rgs, grpV, iv]; rfl)) (by first | (simp; done) | (simp; omega)) (by first | (simp only [MLIM, LIM] at *; simp; omega) | (simp only [MLIM]; simp; omega)) (by simp [iv, bv]) ?_)) <;> simp [-map_take, -map_drop, -map_tail, rgs, grpV, iv])
  exact finF1 (i := nx + 5) keepA (by omega) (by simp) (by simp [grpR])
theorem w_l13CopyProgs {p r : Bool} {xs : List (List Inn)} (hm : xs.length ≤ 1048576) (hi : ∀ x ∈ xs, x.length ≤ 1048576) : AC ctx.P 215 [.view p 1 (xs.map (prgV r))] (fun _ _ => True)
    (fun h nx v h' nx' => KeepB nx h' h ∧ ∃ id is, v = .ref id 1 0 xs.length ∧ h' id = some (.row 1 (List.zipWith prgR xs is)) ∧ is.length = xs.length ∧ nx ≤ id ∧ id < nx' ∧ id ∉ is ∧ Subs h' 3 (fun x : List Inn => x.map innC) xs is nx nx') := by
  have hlim : xs.length ≤ LIM := by simp only [LIM] at *; omega
  refine AC.o okC Tryz.func215 rfl fun h nx hfr hnx hpre => ?_
  try simp [-map_take, -map_drop, -map_tail, rgs]
  repeat' first | done | ((first | ((with_reducible show lenS _ _ _ _ _ _); refine lenS_slice rfl fun _ => ?_) | ((with_reducible show iaddrS _ _ _ _ _ _ _); refine iaddr_map rfl omA omA ?_) | ((with_reducible show appS _ _ _ _ _ _ _ _); refine app_end rfl rfl (by decide) (by decide) (by first | (simp [-map_take, -map_drop, -map_tail, rgs]; done) | (simp [-map_take, -map_drop, -map_tail, rgs]; rfl)) (by first | (simp [-map_take, -map_drop, -map_tail, rgs]; done) | (simp [-map_take, -map_drop, -map_tail, rgs]; rfl)) (by first | (simp; done) | (simp; omega)) (by first | (simp only [MLIM, LIM] at *; simp; omega) | (simp only [MLIM]; simp; omega)) (by simp [iv, bv]) ?_)) <;> simp [-map_take, -map_drop, -map_tail, rgs]) | ((first | (with_reducible refine condS_split ?_ ?_)) <;> intro qb <;> (have qp := qb; try simp only [psq] at qp) <;> simp [-map_take, -map_drop, -map_tail, rgs, qb])
  refine go_upP (h0 := h) (nx0 := nx) [3, 4, 6, 7, 8, 9, 10, 11, 12, 13, 14, 15, 16, 17, 18, 19, 20] (xs.length) (fun (i : Nat) a => [(4, .int .i64 i), (3, .ref a.1 1 0 i)]) (fun i (a : Nat × List Nat) h' n' => a.2.length = i ∧ h' a.1 = some (.row 1 (List.zipWith prgR xs a.2)) ∧ Subs h' 3 (fun x : List Inn => x.map innC) xs a.2 nx n' ∧ nx ≤ a.1 ∧ a.1 < n' ∧ a.1 ∉ a.2) ((nx + 1, [])) (by simp) ?_ keepA (by omega) ?_
  · simp [Subs.nil]
  · intro i a tm h' n' hle hJ hE hn' next hnx
    try dsimp only at hJ
    have hK : KeepB nx h' h := KeepB.sub hE keepA (by omega)
    simp [-map_take, -map_drop, -map_tail]
    obtain ⟨g2, hJ, hS, g0, g1, g3⟩ := hJ
    obtain ⟨id, is⟩ := a
    dsimp only at g2 hJ hS g0 g1 g3 ⊢
    subst g2
    have k1 : ∀ k, (id = n' + k) = False := fun k => by simp only [eq_iff_iff, iff_false]; omega
    by_cases hlt : is.length < xs.length
    · have hg : (gt xs (is.length : Int)).length ≤ 1048576 := hi _ (gt_mem (by omega) (by omega))
      try simp [-map_take, -map_drop, -map_tail, rgs, prgV, k1, hJ, hlt, innC]
      repeat' first | done | ((first | ((with_reducible show lenS _ _ _ _ _ _); refine lenS_slice rfl fun _ => ?_) | ((with_reducible show iaddrS _ _ _ _ _ _ _); refine iaddr_map rfl omA omA ?_) | ((with_reducible show appS _ _ _ _ _ _ _ _); refine app_end rfl rfl (by decide) (by decide) (by first | (simp [-map_take, -map_drop, -map_tail, rgs, prgV, k1, hJ, hlt, innC]; done) | (simp [-map_take, -map_drop, -map_tail, rgs, prgV, k1, hJ, hlt, innC]; rfl)) (by first | (simp [-map_take, -map_drop, -map_tail, rgs, prgV, k1, hJ, hlt, innC]; done) | (simp [-map_take, -map_drop, -map_tail, rgs, prgV, k1, hJ, hlt, innC]; rfl)) (by first | (simp; done) | (simp; omega)) (by first | (simp only [MLIM, LIM] at *; simp; omega) | (simp only [MLIM]; simp; omega)) (by simp [iv, bv]) ?_)) <;> simp [-map_take, -map_drop, -map_tail, rgs, prgV, k1, hJ, hlt, innC]) | ((first | (with_reducible refine condS_split ?_ ?_)) <;> intro qb <;> (have qp := qb; try simp only [psq] at qp) <;> simp [-map_take, -map_drop, -map_tail, rgs, prgV, k1, hJ, hlt, innC, qb])
      refine hnx.go (n' + 12, is ++ [n' + 10]) (by omega) (by simp [wrap_succ hlt hlim]) (by simp) keepA (by first | omega | (simp; omega)) ?_
      dsimp only
      refine ⟨by simp, ?_, hS.snoc (fun k hk => ?_) ?_ (by omega) (by omega) (by omega), by omega, by omega, ?_⟩
      · rw [zip_snoc hlt, upd_same]; rfl
      · have := hS.hi k hk
        have hne : k ≠ id := fun e => g3 (e ▸ hk)
        repeat (first | rw [upd_ne _ _ _ _ (by omega)] | rw [upd_ne _ _ _ _ hne])
      · repeat (first | exact upd_same .. | rw [upd_ne _ _ _ _ (by omega)])
      · intro hm
        rcases List.mem_append.1 hm with hm | hm
        · have := hS.hi _ hm; omega
        · simp at hm
    · try simp [-map_take, -map_drop, -map_tail, rgs, k1, hJ, hlt]
      repeat' first | done | ((first | ((with_reducible show lenS _ _ _ _ _ _); refine lenS_slice rfl fun _ => ?_) | ((with_reducible show iaddrS _ _ _ _ _ _ _); refine iaddr_map rfl omA omA ?_) | ((with_reducible show appS _ _ _ _ _ _ _ _); refine app_end rfl rfl (by decide) (by decide) (by first | (simp [-map_take, -map_drop, -map_tail, rgs, k1, hJ, hlt]; done) | (simp [-map_take, -map_drop, -map_tail, rgs, k1, hJ, hlt]; rfl)) (by first | (simp [-map_take, -map_drop, -map_tail, rgs, k1, hJ, hlt]; done) | (simp [-map_take, -map_drop, -map_tail, rgs, k1, hJ, hlt]; rfl)) (by first | (simp; done) | (simp; omega)) (by first | (simp only [MLIM, LIM] at *; simp; omega) | (simp only [MLIM]; simp; omega)) (by simp [iv, bv]) ?_)) <;> simp [-map_take, -map_drop, -map_tail, rgs, k1, hJ, hlt]) | ((first | (with_reducible refine condS_split ?_ ?_)) <;> intro qb <;> (have qp := qb; try simp only [psq] at qp) <;> simp [-map_take, -map_drop, -map_tail, rgs, k1, hJ, hlt, qb])
      have he : is.length = xs.length := by omega
      exact ⟨keepA, id, ⟨rfl, he⟩, is, hJ, he, g0, by omega, g3, hS.keep (fun _ _ => rfl) (Nat.le_refl _) (by omega)⟩
end Go.AE.Tryz
end

section
/- Contracts of the reference's copies of worlds as new rows. -/
set_option linter.unusedSimpArgs false
set_option linter.unusedVariables false
set_option maxRecDepth 8000
set_option maxHeartbeats 4000000
namespace Go.AE.Tryz
open Go.Proofs
open List (map_take map_drop map_tail)
theorem w_l13CopyA {F : Nat → Bool} {w : Wld} (hs : wldsz w ≤ 1048576) : AC ctx.P 107 [.agg (wldV F w)] (fun _ _ => True) (MkQ (fun X => .agg (wldR X w)) w) := by
  simp only [wldsz, afssz, tmssz, sprsz, sltsz] at hs
  have hm : MLIM = 1099511627776 := rfl
  have hL : LIM = 140737488355328 := rfl
  have hlim : w.groups.length ≤ LIM := by omega
  refine AC.ghost ?_
  refine AC.o okC Tryz.func107 rfl fun h nx hfr hnx hpre => ?_
  try simp [-map_take, -map_drop, -map_tail, rgs, wldV, free_of hnx]
  repeat' first | done | ((first | ((with_reducible show lenS _ _ _ _ _ _); refine lenS_slice rfl fun _ => ?_) | ((with_reducible show iaddrS _ _ _ _ _ _ _); refine iaddr_map rfl omA omA ?_) | ((with_reducible show appS _ _ _ _ _ _ _ _); refine app_end rfl rfl (by decide) (by decide) (by first | (simp [-map_take, -map_drop, -map_tail, rgs, wldV, free_of hnx]; done) | (simp [-map_take, -map_drop, -map_tail, rgs, wldV, free_of hnx]; rfl)) (by first | (simp [-map_take, -map_drop, -map_tail, rgs, wldV, free_of hnx]; done) | (simp [-map_take, -map_drop, -map_tail, rgs, wldV, free_of hnx]; rfl)) (by first | (simp; done) | (simp; omega)) (by first | (simp only [MLIM, LIM] at *; simp; omega) | (simp only [MLIM]; simp; omega)) (by simp [iv, bv]) ?_) | (with_reducible refine go_draw (i := 1) [(0, [], []), (1, [], [20, 24, 35]), (2, [], []), (3, [], [20, 24, 35]), (5, [], []), (6, [], [20, 24, 35]), (8, [], []), (9, [], [20, 24, 35]), (11, [], []), (12, [], [20, 24, 35]), (14, [], []), (15, [], [20, 24, 35]), (17, [], []), (18, [], [20, 24, 35]), (21, [], []), (22, [], [20, 24, 35]), (25, [], []), (26, [], [20, 24, 35]), (28, [], []), (29, [], [20, 24, 35]), (31, [], []), (32, [], [20, 24, 35]), (4, [.tmp 5, .tmp 10, .tmp 13, .tmp 16, .tmp 19, .tmp 22, .tmp 26, .tmp 30, .tmp 33, .tmp 36], [20, 24, 35]), (7, [.tmp 5, .tmp 13, .tmp 16, .tmp 19, .tmp 22, .tmp 26, .tmp 30, .tmp 33, .tmp 36], [20, 24, 35]), (10, [.tmp 5, .tmp 16, .tmp 19, .tmp 22, .tmp 26, .tmp 30, .tmp 33, .tmp 36], [20, 24, 35]), (13, [.tmp 5, .tmp 19, .tmp 22, .tmp 26, .tmp 30, .tmp 33, .tmp 36], [20, 24, 35]), (16, [.tmp 5, .tmp 22, .tmp 26, .tmp 30, .tmp 33, .tmp 36], [20, 24, 35]), (19, [.tmp 5, .tmp 26, .tmp 30, .tmp 33, .tmp 36], [20, 24, 35]), (20, [], []), (23, [.tmp 5, .tmp 30, .tmp 33, .tmp 36], [24, 35]), (24, [], []), (27, [.tmp 5, .tmp 33, .tmp 36], [35]), (30, [.tmp 5, .tmp 36], [35]), (33, [.tmp 5], [35]), (34, [], []), (35, [], []), (36, [], [])] (by kernel_rfl) ?_) | (with_reducible refine go_draw (i := 5) [(0, [], []), (1, [], [8]), (2, [], []), (3, [], []), (4, [], []), (5, [], []), (6, [], []), (7, [.tmp 47], []), (8, [], []), (9, [], []), (10, [], []), (11, [], [])] (by kernel_rfl) ?_)) <;> simp [-map_take, -map_drop, -map_tail, rgs, wldV, free_of hnx]) | ((first | (with_reducible refine condS_split ?_ ?_)) <;> intro qb <;> (have qp := qb; try simp only [psq] at qp) <;> simp [-map_take, -map_drop, -map_tail, rgs, wldV, free_of hnx, qb])
  refine call_ac (w_l13CopyProgs (by omega) (fun x hx => by have := lsum_mem (·.length) hx; omega)) trivial ?_
  rintro r h1 n1 ⟨hK1, ip, isp, rfl, hrow1, hlen1, hlo1, hhi1, hni1, hS1⟩ hle1 hfr1
  dsimp only at hK1 hlo1 hle1 hS1
  have g0 := hK1 nx (by omega)
  have g1 := hK1 (nx + 1) (by omega)
  have g22 := hK1 (nx + 22) (by omega)
  have g26 := hK1 (nx + 26) (by omega)
  have g37 := hK1 (nx + 37) (by omega)
  simp [free_of hnx] at g0 g1 g22 g26 g37
  have k0 : ∀ k, (nx = n1 + k) = False := fun k => by simp only [eq_iff_iff, iff_false]; omega
  have k1 : ∀ k, (nx + 1 = n1 + k) = False := fun k => by simp only [eq_iff_iff, iff_false]; omega
  have k22 : ∀ k, (nx + 22 = n1 + k) = False := fun k => by simp only [eq_iff_iff, iff_false]; omega
  have k26 : ∀ k, (nx + 26 = n1 + k) = False := fun k => by simp only [eq_iff_iff, iff_false]; omega
  have k37 : ∀ k, (nx + 37 = n1 + k) = False := fun k => by simp only [eq_iff_iff, iff_false]; omega
  have kk : ∀ k, k < 38 → (nx + k = n1) = False := fun k hk => by simp only [eq_iff_iff, iff_false]; omega
  have j0 : (nx = n1) = False := by simp only [eq_iff_iff, iff_false]; omega
  have j1 := kk 1 (by omega)
  have kx : ∀ a k, a < 38 → (nx + a = n1 + k) = False := fun a k hk => by simp only [eq_iff_iff, iff_false]; omega
  try simp [-map_take, -map_drop, -map_tail, rgs, wldV, g0, g1, g22, g26, g37, k0, k1, k22, k26, k37, j0, j1, kk, kx]
  repeat' first | done | ((first | ((with_reducible show lenS _ _ _ _ _ _); refine lenS_slice rfl fun _ => ?_) | ((with_reducible show iaddrS _ _ _ _ _ _ _); refine iaddr_map rfl omA omA ?_) | ((with_reducible show doCall _ _ _ 216 _ _); refine call_fc (f_l5Copy (by omega)) ?_) | ((with_reducible show doCall _ _ _ 217 _ _); refine call_fc (f_l6Copy (by omega)) ?_) | ((with_reducible show doCall _ _ _ 218 _ _); refine call_fc (f_l7Copy (s := w.spread) (F := F) (by omega) (by omega)) ?_) | ((with_reducible show doCall _ _ _ 219 _ _); refine call_fc (f_l4Copy (s := w.timers) (F := F) (by omega) (by omega)) ?_) | ((with_reducible show doCall _ _ _ 220 _ _); refine call_fc (f_l8Copy (s := w.afters) (F := F) (by omega) (by omega) (by omega)) ?_) | ((with_reducible show doCall _ _ _ 221 _ _); refine call_fc (f_l1Copy (by omega)) ?_) | ((with_reducible show appS _ _ _ _ _ _ _ _); refine app_end rfl rfl (by decide) (by decide) (by first | (simp [-map_take, -map_drop, -map_tail, rgs, wldV, g0, g1, g22, g26, g37, k0, k1, k22, k26, k37, j0, j1, kk, kx]; done) | (simp [-map_take, -map_drop, -map_tail, rgs, wldV, g0, g1, g22, g26, g37, k0, k1, k22, k26, k37, j0, j1, kk, kx]; rfl)) (by first | (simp [-map_take, -map_drop, -map_tail, rgs, wldV, g0, g1, g22, g26, g37, k0, k1, k22, k26, k37, j0, j1, kk, kx]; done) | (simp [-map_take, -map_drop, -map_tail, rgs, wldV, g0, g1, g22, g26, g37, k0, k1, k22, k26, k37, j0, j1, kk, kx]; rfl)) (by first | (simp; done) | (simp; omega)) (by first | (simp only [MLIM, LIM] at *; simp; omega) | (simp only [MLIM]; simp; omega)) (by simp [iv, bv]) ?_) | (with_reducible refine go_draw (i := 1) [(0, [], []), (1, [], [20, 24, 35]), (2, [], []), (3, [], [20, 24, 35]), (5, [], []), (6, [], [20, 24, 35]), (8, [], []), (9, [], [20, 24, 35]), (11, [], []), (12, [], [20, 24, 35]), (14, [], []), (15, [], [20, 24, 35]), (17, [], []), (18, [], [20, 24, 35]), (21, [], []), (22, [], [20, 24, 35]), (25, [], []), (26, [], [20, 24, 35]), (28, [], []), (29, [], [20, 24, 35]), (31, [], []), (32, [], [20, 24, 35]), (4, [.tmp 5, .tmp 10, .tmp 13, .tmp 16, .tmp 19, .tmp 22, .tmp 26, .tmp 30, .tmp 33, .tmp 36], [20, 24, 35]), (7, [.tmp 5, .tmp 13, .tmp 16, .tmp 19, .tmp 22, .tmp 26, .tmp 30, .tmp 33, .tmp 36], [20, 24, 35]), (10, [.tmp 5, .tmp 16, .tmp 19, .tmp 22, .tmp 26, .tmp 30, .tmp 33, .tmp 36], [20, 24, 35]), (13, [.tmp 5, .tmp 19, .tmp 22, .tmp 26, .tmp 30, .tmp 33, .tmp 36], [20, 24, 35]), (16, [.tmp 5, .tmp 22, .tmp 26, .tmp 30, .tmp 33, .tmp 36], [20, 24, 35]), (19, [.tmp 5, .tmp 26, .tmp 30, .tmp 33, .tmp 36], [20, 24, 35]), (20, [], []), (23, [.tmp 5, .tmp 30, .tmp 33, .tmp 36], [24, 35]), (24, [], []), (27, [.tmp 5, .tmp 33, .tmp 36], [35]), (30, [.tmp 5, .tmp 36], [35]), (33, [.tmp 5], [35]), (34, [], []), (35, [], []), (36, [], [])] (by kernel_rfl) ?_) | (with_reducible refine go_draw (i := 5) [(0, [], []), (1, [], [8]), (2, [], []), (3, [], []), (4, [], []), (5, [], []), (6, [], []), (7, [.tmp 47], []), (8, [], []), (9, [], []), (10, [], []), (11, [], [])] (by kernel_rfl) ?_)) <;> simp [-map_take, -map_drop, -map_tail, rgs, wldV, g0, g1, g22, g26, g37, k0, k1, k22, k26, k37, j0, j1, kk, kx]) | ((first | (with_reducible refine condS_split ?_ ?_)) <;> intro qb <;> (have qp := qb; try simp only [psq] at qp) <;> simp [-map_take, -map_drop, -map_tail, rgs, wldV, g0, g1, g22, g26, g37, k0, k1, k22, k26, k37, j0, j1, kk, kx, qb])
  generalize hH : upd _ (nx + 37) (some (Ent.obj [.int .i64 w.now, .ref ip 1 0 w.progs.length, .ref n1 5 0 w.tree.length, .ref (n1 + 1) 4 0 w.events.length, .ref (n1 + 2) 1 0 w.spread.told.length, .ref (n1 + 3) 1 0 w.spread.work.length, .ref (n1 + 4) 3 0 w.timers.heap.length, .ref (n1 + 5) 5 0 w.timers.list.length, .int .i64 w.timers.next, .ref (n1 + 6) 1 0 w.afters.slots.ages.length, .ref (n1 + 7) 1 0 w.afters.slots.used.length, .ref (n1 + 8) 5 0 w.afters.list.length, .ref (nx + 25) 9 0 w.tasks.length, .nil, .ref (nx + 29) 4 0 w.sights.length, .ref (n1 + 9) 1 0 w.began.length, .ref (n1 + 10) 1 0 w.rang.length])) = H2
  have o2 : H2 (nx + 37) = some (Ent.obj [.int .i64 w.now, .ref ip 1 0 w.progs.length, .ref n1 5 0 w.tree.length, .ref (n1 + 1) 4 0 w.events.length, .ref (n1 + 2) 1 0 w.spread.told.length, .ref (n1 + 3) 1 0 w.spread.work.length, .ref (n1 + 4) 3 0 w.timers.heap.length, .ref (n1 + 5) 5 0 w.timers.list.length, .int .i64 w.timers.next, .ref (n1 + 6) 1 0 w.afters.slots.ages.length, .ref (n1 + 7) 1 0 w.afters.slots.used.length, .ref (n1 + 8) 5 0 w.afters.list.length, .ref (nx + 25) 9 0 w.tasks.length, .nil, .ref (nx + 29) 4 0 w.sights.length, .ref (n1 + 9) 1 0 w.began.length, .ref (n1 + 10) 1 0 w.rang.length]) := by rw [← hH, upd_same]
  have a2 : H2 nx = some (Ent.obj (wldV F w)) := by
    rw [← hH]
    repeat rw [upd_ne _ _ _ _ (by omega)]
    rw [g0]; rfl
  have z2 : H2 (nx + 1) = h1 (nx + 1) := by
    rw [← hH]
    repeat rw [upd_ne _ _ _ _ (by omega)]
  rw [g1] at z2
  have hK2 : KeepB nx H2 h := fun j hj => by
    rw [← hH]
    repeat rw [upd_ne _ _ _ _ (by omega)]
    rw [hK1 j (by omega)]
    repeat rw [upd_ne _ _ _ _ (by omega)]
  have q0 : H2 ip = some (.row 1 (List.zipWith prgR w.progs isp)) := by
    rw [← hH]
    repeat rw [upd_ne _ _ _ _ (by omega)]
    exact hrow1
  have qs : ∀ i ∈ isp, H2 i = h1 i := fun i hi => by
    have := hS1.lo i hi
    have := hS1.hi i hi
    rw [← hH]
    repeat rw [upd_ne _ _ _ _ (by omega)]
  have q1 : H2 (n1) = some (.row 5 (w.tree.map nodC)) := by
    rw [← hH]
    repeat (first | exact upd_same .. | rw [upd_ne _ _ _ _ (by omega)])
  have q2 : H2 (n1 + 1) = some (.row 4 (w.events.map evtC)) := by
    rw [← hH]
    repeat (first | exact upd_same .. | rw [upd_ne _ _ _ _ (by omega)])
  have q3 : H2 (n1 + 2) = some (.row 1 (w.spread.told.map bv)) := by
    rw [← hH]
    repeat (first | exact upd_same .. | rw [upd_ne _ _ _ _ (by omega)])
  have q4 : H2 (n1 + 3) = some (.row 1 (w.spread.work.map iv)) := by
    rw [← hH]
    repeat (first | exact upd_same .. | rw [upd_ne _ _ _ _ (by omega)])
  have q5 : H2 (n1 + 4) = some (.row 3 (w.timers.heap.map twgC)) := by
    rw [← hH]
    repeat (first | exact upd_same .. | rw [upd_ne _ _ _ _ (by omega)])
  have q6 : H2 (n1 + 5) = some (.row 5 (w.timers.list.map tmrC)) := by
    rw [← hH]
    repeat (first | exact upd_same .. | rw [upd_ne _ _ _ _ (by omega)])
  have q7 : H2 (n1 + 6) = some (.row 1 (w.afters.slots.ages.map iv)) := by
    rw [← hH]
    repeat (first | exact upd_same .. | rw [upd_ne _ _ _ _ (by omega)])
  have q8 : H2 (n1 + 7) = some (.row 1 (w.afters.slots.used.map bv)) := by
    rw [← hH]
    repeat (first | exact upd_same .. | rw [upd_ne _ _ _ _ (by omega)])
  have q9 : H2 (n1 + 8) = some (.row 5 (w.afters.list.map afrC)) := by
    rw [← hH]
    repeat (first | exact upd_same .. | rw [upd_ne _ _ _ _ (by omega)])
  have q10 : H2 (nx + 25) = some (.row 9 (w.tasks.map tskC)) := by
    rw [← hH]
    repeat (first | exact upd_same .. | rw [upd_ne _ _ _ _ (by omega)])
  have q11 : H2 (nx + 29) = some (.row 4 (w.sights.map sgtC)) := by
    rw [← hH]
    repeat (first | exact upd_same .. | rw [upd_ne _ _ _ _ (by omega)])
  have q12 : H2 (n1 + 9) = some (.row 1 (w.began.map iv)) := by
    rw [← hH]
    repeat (first | exact upd_same .. | rw [upd_ne _ _ _ _ (by omega)])
  have q13 : H2 (n1 + 10) = some (.row 1 (w.rang.map iv)) := by
    rw [← hH]
    repeat (first | exact upd_same .. | rw [upd_ne _ _ _ _ (by omega)])
  clear hH
  refine go_upP (h0 := h) (nx0 := nx) [4, 40, 41, 42, 43, 44, 45, 46, 47, 48, 49, 50, 51, 52, 53, 54, 55, 56, 57] (w.groups.length) (fun (i : Nat) a => [(4, .int .i64 i)]) (fun i (a : Nat × List Nat) h' n' => a.2.length = i ∧ h' (nx + 37) = some (Ent.obj [.int .i64 w.now, .ref ip 1 0 w.progs.length, .ref n1 5 0 w.tree.length, .ref (n1 + 1) 4 0 w.events.length, .ref (n1 + 2) 1 0 w.spread.told.length, .ref (n1 + 3) 1 0 w.spread.work.length, .ref (n1 + 4) 3 0 w.timers.heap.length, .ref (n1 + 5) 5 0 w.timers.list.length, .int .i64 w.timers.next, .ref (n1 + 6) 1 0 w.afters.slots.ages.length, .ref (n1 + 7) 1 0 w.afters.slots.used.length, .ref (n1 + 8) 5 0 w.afters.list.length, .ref (nx + 25) 9 0 w.tasks.length, (if i = 0 then .nil else .ref a.1 5 0 i), .ref (nx + 29) 4 0 w.sights.length, .ref (n1 + 9) 1 0 w.began.length, .ref (n1 + 10) 1 0 w.rang.length]) ∧ (0 < i → h' a.1 = some (.row 5 (List.zipWith grpR w.groups a.2)) ∧ n1 + 12 ≤ a.1 ∧ a.1 < n' ∧ a.1 ∉ a.2) ∧ Subs h' 1 (fun x : Grp => x.waits.map iv) w.groups a.2 (n1 + 12) n' ∧ n1 + 12 ≤ n' ∧ ∀ j, j < n1 + 12 → j ≠ nx + 37 → h' j = H2 j) ((0, [])) (by simp) ?_ keepA (by omega) ?_
  · simp [Subs.nil, o2]
  · intro i a tm h' n' hle hJ hE hn' next hnx
    try dsimp only at hJ
    have hK : KeepB nx h' h := KeepB.sub hE keepA (by omega)
    simp [-map_take, -map_drop, -map_tail]
    obtain ⟨id, is⟩ := a
    obtain ⟨e0, hO, hR, hS, hn2, hF⟩ := hJ
    dsimp only at e0 hO hR hS hn2 hF ⊢
    subst e0
    have aN := hF nx (by omega) (by omega)
    rw [a2] at aN
    have zN := hF (nx + 1) (by omega) (by omega)
    rw [z2] at zN
    have k5 : ∀ k, (nx = n' + k) = False := fun k => by simp only [eq_iff_iff, iff_false]; omega
    have k6 : ∀ k, (nx + 37 = n' + k) = False := fun k => by simp only [eq_iff_iff, iff_false]; omega
    have k7 : ∀ k, (nx + 1 = n' + k) = False := fun k => by simp only [eq_iff_iff, iff_false]; omega
    have k8 : (nx = n') = False := by simp only [eq_iff_iff, iff_false]; omega
    have k9 : ∀ a k, a < 38 → (nx + a = n' + k) = False := fun a k hk => by simp only [eq_iff_iff, iff_false]; omega
    have kA : ∀ a, a < 38 → (nx + a = n') = False := fun a hk => by simp only [eq_iff_iff, iff_false]; omega
    by_cases hlt : is.length < w.groups.length
    · by_cases h0 : is.length = 0
      · have hc : (gt w.groups (is.length : Int)).waits.length ≤ 1048576 := by have := lsum_mem (·.waits.length) (gt_mem (show (0:Int) ≤ (is.length : Int) by omega) (show (is.length : Int) < w.groups.length by omega)); omega
        rw [if_pos h0] at hO
        try simp [-map_take, -map_drop, -map_tail, rgs, hO, aN, wldV, grpV, grpR, hlt, k5, k6, k7, k8, k9, kA]
        repeat' first | done | ((first | ((with_reducible show lenS _ _ _ _ _ _); refine lenS_slice rfl fun _ => ?_) | ((with_reducible show iaddrS _ _ _ _ _ _ _); refine iaddr_map rfl omA omA ?_) | ((with_reducible show doCall _ _ _ 222 _ _); refine call_fc (f_l12Copy (r := F 13) (g := gt w.groups (is.length : Int)) hc) ?_) | ((with_reducible show appS _ _ _ _ _ _ _ _); refine app_end rfl rfl (by decide) (by decide) (by first | (simp [-map_take, -map_drop, -map_tail, rgs, hO, aN, wldV, grpV, grpR, hlt, k5, k6, k7, k8, k9, kA]; done) | (simp [-map_take, -map_drop, -map_tail, rgs, hO, aN, wldV, grpV, grpR, hlt, k5, k6, k7, k8, k9, kA]; rfl)) (by first | (simp [-map_take, -map_drop, -map_tail, rgs, hO, aN, wldV, grpV, grpR, hlt, k5, k6, k7, k8, k9, kA]; done) | (simp [-map_take, -map_drop, -map_tail, rgs, hO, aN, wldV, grpV, grpR, hlt, k5, k6, k7, k8, k9, kA]; rfl)) (by first | (simp; done) | (simp; omega)) (by first | (simp only [MLIM, LIM] at *; simp; omega) | (simp only [MLIM]; simp; omega)) (by simp [iv, bv]) ?_) | (with_reducible refine go_draw (i := 1) [(0, [], []), (1, [], [20, 24, 35]), (2, [], []), (3, [], [20, 24, 35]), (5, [], []), (6, [], [20, 24, 35]), (8, [], []), (9, [], [20, 24, 35]), (11, [], []), (12, [], [20, 24, 35]), (14, [], []), (15, [], [20, 24, 35]), (17, [], []), (18, [], [20, 24, 35]), (21, [], []), (22, [], [20, 24, 35]), (25, [], []), (26, [], [20, 24, 35]), (28, [], []), (29, [], [20, 24, 35]), (31, [], []), (32, [], [20, 24, 35]), (4, [.tmp 5, .tmp 10, .tmp 13, .tmp 16, .tmp 19, .tmp 22, .tmp 26, .tmp 30, .tmp 33, .tmp 36], [20, 24, 35]), (7, [.tmp 5, .tmp 13, .tmp 16, .tmp 19, .tmp 22, .tmp 26, .tmp 30, .tmp 33, .tmp 36], [20, 24, 35]), (10, [.tmp 5, .tmp 16, .tmp 19, .tmp 22, .tmp 26, .tmp 30, .tmp 33, .tmp 36], [20, 24, 35]), (13, [.tmp 5, .tmp 19, .tmp 22, .tmp 26, .tmp 30, .tmp 33, .tmp 36], [20, 24, 35]), (16, [.tmp 5, .tmp 22, .tmp 26, .tmp 30, .tmp 33, .tmp 36], [20, 24, 35]), (19, [.tmp 5, .tmp 26, .tmp 30, .tmp 33, .tmp 36], [20, 24, 35]), (20, [], []), (23, [.tmp 5, .tmp 30, .tmp 33, .tmp 36], [24, 35]), (24, [], []), (27, [.tmp 5, .tmp 33, .tmp 36], [35]), (30, [.tmp 5, .tmp 36], [35]), (33, [.tmp 5], [35]), (34, [], []), (35, [], []), (36, [], [])] (by kernel_rfl) ?_) | (with_reducible refine go_draw (i := 5) [(0, [], []), (1, [], [8]), (2, [], []), (3, [], []), (4, [], []), (5, [], []), (6, [], []), (7, [.tmp 47], []), (8, [], []), (9, [], []), (10, [], []), (11, [], [])] (by kernel_rfl) ?_)) <;> simp [-map_take, -map_drop, -map_tail, rgs, hO, aN, wldV, grpV, grpR, hlt, k5, k6, k7, k8, k9, kA]) | ((first | (with_reducible refine condS_split ?_ ?_)) <;> intro qb <;> (have qp := qb; try simp only [psq] at qp) <;> simp [-map_take, -map_drop, -map_tail, rgs, hO, aN, wldV, grpV, grpR, hlt, k5, k6, k7, k8, k9, kA, qb])
        refine app_nil rfl (by decide) (by decide) (by simp; rfl) (by simp [MLIM]) (by simp) ?_
        try simp [-map_take, -map_drop, -map_tail, rgs, hO, aN, wldV, grpV, grpR, hlt, k5, k6, k7, k8, k9, kA]
        repeat' first | done | ((first | ((with_reducible show lenS _ _ _ _ _ _); refine lenS_slice rfl fun _ => ?_) | ((with_reducible show iaddrS _ _ _ _ _ _ _); refine iaddr_map rfl omA omA ?_) | ((with_reducible show appS _ _ _ _ _ _ _ _); refine app_end rfl rfl (by decide) (by decide) (by first | (simp [-map_take, -map_drop, -map_tail, rgs, hO, aN, wldV, grpV, grpR, hlt, k5, k6, k7, k8, k9, kA]; done) | (simp [-map_take, -map_drop, -map_tail, rgs, hO, aN, wldV, grpV, grpR, hlt, k5, k6, k7, k8, k9, kA]; rfl)) (by first | (simp [-map_take, -map_drop, -map_tail, rgs, hO, aN, wldV, grpV, grpR, hlt, k5, k6, k7, k8, k9, kA]; done) | (simp [-map_take, -map_drop, -map_tail, rgs, hO, aN, wldV, grpV, grpR, hlt, k5, k6, k7, k8, k9, kA]; rfl)) (by first | (simp; done) | (simp; omega)) (by first | (simp only [MLIM, LIM] at *; simp; omega) | (simp only [MLIM]; simp; omega)) (by simp [iv, bv]) ?_) | (with_reducible refine go_draw (i := 1) [(0, [], []), (1, [], [20, 24, 35]), (2, [], []), (3, [], [20, 24, 35]), (5, [], []), (6, [], [20, 24, 35]), (8, [], []), (9, [], [20, 24, 35]), (11, [], []), (12, [], [20, 24, 35]), (14, [], []), (15, [], [20, 24, 35]), (17, [], []), (18, [], [20, 24, 35]), (21, [], []), (22, [], [20, 24, 35]), (25, [], []), (26, [], [20, 24, 35]), (28, [], []), (29, [], [20, 24, 35]), (31, [], []), (32, [], [20, 24, 35]), (4, [.tmp 5, .tmp 10, .tmp 13, .tmp 16, .tmp 19, .tmp 22, .tmp 26, .tmp 30, .tmp 33, .tmp 36], [20, 24, 35]), (7, [.tmp 5, .tmp 13, .tmp 16, .tmp 19, .tmp 22, .tmp 26, .tmp 30, .tmp 33, .tmp 36], [20, 24, 35]), (10, [.tmp 5, .tmp 16, .tmp 19, .tmp 22, .tmp 26, .tmp 30, .tmp 33, .tmp 36], [20, 24, 35]), (13, [.tmp 5, .tmp 19, .tmp 22, .tmp 26, .tmp 30, .tmp 33, .tmp 36], [20, 24, 35]), (16, [.tmp 5, .tmp 22, .tmp 26, .tmp 30, .tmp 33, .tmp 36], [20, 24, 35]), (19, [.tmp 5, .tmp 26, .tmp 30, .tmp 33, .tmp 36], [20, 24, 35]), (20, [], []), (23, [.tmp 5, .tmp 30, .tmp 33, .tmp 36], [24, 35]), (24, [], []), (27, [.tmp 5, .tmp 33, .tmp 36], [35]), (30, [.tmp 5, .tmp 36], [35]), (33, [.tmp 5], [35]), (34, [], []), (35, [], []), (36, [], [])] (by kernel_rfl) ?_) | (with_reducible refine go_draw (i := 5) [(0, [], []), (1, [], [8]), (2, [], []), (3, [], []), (4, [], []), (5, [], []), (6, [], []), (7, [.tmp 47], []), (8, [], []), (9, [], []), (10, [], []), (11, [], [])] (by kernel_rfl) ?_)) <;> simp [-map_take, -map_drop, -map_tail, rgs, hO, aN, wldV, grpV, grpR, hlt, k5, k6, k7, k8, k9, kA]) | ((first | (with_reducible refine condS_split ?_ ?_)) <;> intro qb <;> (have qp := qb; try simp only [psq] at qp) <;> simp [-map_take, -map_drop, -map_tail, rgs, hO, aN, wldV, grpV, grpR, hlt, k5, k6, k7, k8, k9, kA, qb])
        refine hnx.go (n' + 14, is ++ [n' + 17]) (by omega) (by simp [wrap_succ hlt hlim]) (by simp) keepA (by first | omega | (simp; omega)) ?_
        dsimp only
        refine ⟨by simp, ?_, fun _ => ⟨?_, by omega, by omega, ?_⟩, hS.snoc (fun k hk => ?_) ?_ (by omega) (by omega) (by omega), by omega, fun j hj hj2 => ?_⟩
        · rw [upd_same, if_neg (by omega)]
          try simp
          try exact List.eq_nil_of_length_eq_zero h0
        · rw [zip_snoc hlt]
          repeat (first | rw [upd_ne _ _ _ _ (by omega)] | rw [upd_same])
          simp [grpR]
          right; exact List.eq_nil_of_length_eq_zero h0
        · intro hm
          rcases List.mem_append.1 hm with hm | hm
          · have := hS.hi _ hm; omega
          · simp at hm
        · have := hS.hi k hk
          have := hS.lo k hk
          repeat rw [upd_ne _ _ _ _ (by omega)]
        · repeat (first | rw [upd_ne _ _ _ _ (by omega)] | rw [upd_same])
        · repeat rw [upd_ne _ _ _ _ (by omega)]
          exact hF j hj hj2
      · have hc : (gt w.groups (is.length : Int)).waits.length ≤ 1048576 := by have := lsum_mem (·.waits.length) (gt_mem (show (0:Int) ≤ (is.length : Int) by omega) (show (is.length : Int) < w.groups.length by omega)); omega
        rw [if_neg h0] at hO
        obtain ⟨hR1, hR2, hR3, hR4⟩ := hR (by omega)
        have m1 : ∀ k, (id = n' + k) = False := fun k => by simp only [eq_iff_iff, iff_false]; omega
        have m2 : ∀ k, (nx + k = id) = (nx + k = id) := fun k => rfl
        have m3 : (nx + 37 = id) = False := by simp only [eq_iff_iff, iff_false]; omega
        have m4 : (nx = id) = False := by simp only [eq_iff_iff, iff_false]; omega
        try simp [-map_take, -map_drop, -map_tail, rgs, hO, hR1, aN, wldV, grpV, grpR, hlt, k5, k6, k7, k8, k9, kA, m1, m3, m4]
        repeat' first | done | ((first | ((with_reducible show lenS _ _ _ _ _ _); refine lenS_slice rfl fun _ => ?_) | ((with_reducible show iaddrS _ _ _ _ _ _ _); refine iaddr_map rfl omA omA ?_) | ((with_reducible show doCall _ _ _ 222 _ _); refine call_fc (f_l12Copy (r := F 13) (g := gt w.groups (is.length : Int)) hc) ?_) | ((with_reducible show appS _ _ _ _ _ _ _ _); refine app_end rfl rfl (by decide) (by decide) (by first | (simp [-map_take, -map_drop, -map_tail, rgs, hO, hR1, aN, wldV, grpV, grpR, hlt, k5, k6, k7, k8, k9, kA, m1, m3, m4]; done) | (simp [-map_take, -map_drop, -map_tail, rgs, hO, hR1, aN, wldV, grpV, grpR, hlt, k5, k6, k7, k8, k9, kA, m1, m3, m4]; rfl)) (by first | (simp [-map_take, -map_drop, -map_tail, rgs, hO, hR1, aN, wldV, grpV, grpR, hlt, k5, k6, k7, k8, k9, kA, m1, m3, m4]; done) | (simp [-map_take, -map_drop, -map_tail, rgs, hO, hR1, aN, wldV, grpV, grpR, hlt, k5, k6, k7, k8, k9, kA, m1, m3, m4]; rfl)) (by first | (simp; done) | (simp; omega)) (by first | (simp only [MLIM, LIM] at *; simp; omega) | (simp only [MLIM]; simp; omega)) (by simp [iv, bv]) ?_) | (with_reducible refine go_draw (i := 1) [(0, [], []), (1, [], [20, 24, 35]), (2, [], []), (3, [], [20, 24, 35]), (5, [], []), (6, [], [20, 24, 35]), (8, [], []), (9, [], [20, 24, 35]), (11, [], []), (12, [], [20, 24, 35]), (14, [], []), (15, [], [20, 24, 35]), (17, [], []), (18, [], [20, 24, 35]), (21, [], []), (22, [], [20, 24, 35]), (25, [], []), (26, [], [20, 24, 35]), (28, [], []), (29, [], [20, 24, 35]), (31, [], []), (32, [], [20, 24, 35]), (4, [.tmp 5, .tmp 10, .tmp 13, .tmp 16, .tmp 19, .tmp 22, .tmp 26, .tmp 30, .tmp 33, .tmp 36], [20, 24, 35]), (7, [.tmp 5, .tmp 13, .tmp 16, .tmp 19, .tmp 22, .tmp 26, .tmp 30, .tmp 33, .tmp 36], [20, 24, 35]), (10, [.tmp 5, .tmp 16, .tmp 19, .tmp 22, .tmp 26, .tmp 30, .tmp 33, .tmp 36], [20, 24, 35]), (13, [.tmp 5, .tmp 19, .tmp 22, .tmp 26, .tmp 30, .tmp 33, .tmp 36], [20, 24, 35]), (16, [.tmp 5, .tmp 22, .tmp 26, .tmp 30, .tmp 33, .tmp 36], [20, 24, 35]), (19, [.tmp 5, .tmp 26, .tmp 30, .tmp 33, .tmp 36], [20, 24, 35]), (20, [], []), (23, [.tmp 5, .tmp 30, .tmp 33, .tmp 36], [24, 35]), (24, [], []), (27, [.tmp 5, .tmp 33, .tmp 36], [35]), (30, [.tmp 5, .tmp 36], [35]), (33, [.tmp 5], [35]), (34, [], []), (35, [], []), (36, [], [])] (by kernel_rfl) ?_) | (with_reducible refine go_draw (i := 5) [(0, [], []), (1, [], [8]), (2, [], []), (3, [], []), (4, [], []), (5, [], []), (6, [], []), (7, [.tmp 47], []), (8, [], []), (9, [], []), (10, [], []), (11, [], [])] (by kernel_rfl) ?_)) <;> simp [-map_take, -map_drop, -map_tail, rgs, hO, hR1, aN, wldV, grpV, grpR, hlt, k5, k6, k7, k8, k9, kA, m1, m3, m4]) | ((first | (with_reducible refine condS_split ?_ ?_)) <;> intro qb <;> (have qp := qb; try simp only [psq] at qp) <;> simp [-map_take, -map_drop, -map_tail, rgs, hO, hR1, aN, wldV, grpV, grpR, hlt, k5, k6, k7, k8, k9, kA, m1, m3, m4, qb])
        refine hnx.go (n' + 14, is ++ [n' + 17]) (by omega) (by simp [wrap_succ hlt hlim]) (by simp) keepA (by first | omega | (simp; omega)) ?_
        dsimp only
        refine ⟨by simp, ?_, fun _ => ⟨?_, by omega, by omega, ?_⟩, hS.snoc (fun k hk => ?_) ?_ (by omega) (by omega) (by omega), by omega, fun j hj hj2 => ?_⟩
        · rw [upd_same, if_neg (by omega)]
          try simp
          try exact List.eq_nil_of_length_eq_zero h0
        · rw [zip_snoc hlt]
          repeat (first | rw [upd_ne _ _ _ _ (by omega)] | rw [upd_same])
          simp [grpR]
        · intro hm
          rcases List.mem_append.1 hm with hm | hm
          · have := hS.hi _ hm; omega
          · simp at hm
        · have := hS.hi k hk
          have := hS.lo k hk
          have hne : k ≠ id := fun e => hR4 (e ▸ hk)
          repeat rw [upd_ne _ _ _ _ (by omega)]
        · repeat (first | rw [upd_ne _ _ _ _ (by omega)] | rw [upd_same])
        · repeat rw [upd_ne _ _ _ _ (by omega)]
          exact hF j hj hj2
    · have he : is.length = w.groups.length := by omega
      have key : ∀ (HF : Heap) (id nn gl : Nat), gl = w.groups.length → (∀ j, j < n1 + 12 → j ≠ nx + 37 → j ≠ nx + 1 → HF j = H2 j) → (∀ k ∈ is, HF k = h' k) → HF id = some (.row 5 (List.zipWith grpR w.groups is)) →
          n1 + 12 ≤ id → id ∉ is → id < nn → n' + 1 ≤ nn → KeepB nx HF h ∧ ∃ X, AV.agg [.int .i64 w.now, .ref ip 1 0 w.progs.length, .ref n1 5 0 w.tree.length, .ref (n1 + 1) 4 0 w.events.length, .ref (n1 + 2) 1 0 w.spread.told.length, .ref (n1 + 3) 1 0 w.spread.work.length, .ref (n1 + 4) 3 0 w.timers.heap.length, .ref (n1 + 5) 5 0 w.timers.list.length, .int .i64 w.timers.next, .ref (n1 + 6) 1 0 w.afters.slots.ages.length, .ref (n1 + 7) 1 0 w.afters.slots.used.length, .ref (n1 + 8) 5 0 w.afters.list.length, .ref (nx + 25) 9 0 w.tasks.length, .ref id 5 0 gl, .ref (nx + 29) 4 0 w.sights.length, .ref (n1 + 9) 1 0 w.began.length, .ref (n1 + 10) 1 0 w.rang.length] = AV.agg (wldR X w) ∧ WV HF X w ∧ ∀ i ∈ X.ids, nx ≤ i ∧ i < nn := by
        intro HF id nn gl hgl c1 c2 c3 c7 c8 c10 c11
        subst hgl
        have t0 := (c1 ip (by omega) (by omega) (by omega)).trans q0
        have t1 := (c1 n1 (by omega) (by omega) (by omega)).trans q1
        have t2 := (c1 (n1 + 1) (by omega) (by omega) (by omega)).trans q2
        have t3 := (c1 (n1 + 2) (by omega) (by omega) (by omega)).trans q3
        have t4 := (c1 (n1 + 3) (by omega) (by omega) (by omega)).trans q4
        have t5 := (c1 (n1 + 4) (by omega) (by omega) (by omega)).trans q5
        have t6 := (c1 (n1 + 5) (by omega) (by omega) (by omega)).trans q6
        have t7 := (c1 (n1 + 6) (by omega) (by omega) (by omega)).trans q7
        have t8 := (c1 (n1 + 7) (by omega) (by omega) (by omega)).trans q8
        have t9 := (c1 (n1 + 8) (by omega) (by omega) (by omega)).trans q9
        have t10 := (c1 (nx + 25) (by omega) (by omega) (by omega)).trans q10
        have t11 := (c1 (nx + 29) (by omega) (by omega) (by omega)).trans q11
        have t12 := (c1 (n1 + 9) (by omega) (by omega) (by omega)).trans q12
        have t13 := (c1 (n1 + 10) (by omega) (by omega) (by omega)).trans q13
        have nn1 : ∀ t, t < nx + 39 ∨ n1 ≤ t → t ∉ isp := fun t ht hm => by have := hS1.lo t hm; have := hS1.hi t hm; omega
        have nn2 : ∀ t, t < n1 + 12 ∨ n' ≤ t → t ∉ is := fun t ht hm => by have := hS.lo t hm; have := hS.hi t hm; omega
        refine ⟨fun j hj => (c1 j (by omega) (by omega) (by omega)).trans (hK2 j hj), WI.ofL [ip, n1, n1 + 1, n1 + 2, n1 + 3, n1 + 4, n1 + 5, n1 + 6, n1 + 7, n1 + 8, nx + 25, id, nx + 29, n1 + 9, n1 + 10] isp is, rfl,
          WV.ofM (a := nx + 39) (b := n1) (c := n1 + 12) (d := n') t0 t1 t2 t3 t4 t5 t6 t7 t8 t9 t10 c3 t11 t12 t13 hlen1 he (hS1.keep (fun i hi => ?_) (Nat.le_refl _) (Nat.le_refl _)) (hS.keep c2 (Nat.le_refl _) (Nat.le_refl _)) (fun x hx y hy => ?_) ?_ (fun t ht => ?_), fun i hi => ?_⟩
        · have := hS1.lo i hi
          have := hS1.hi i hi
          rw [c1 i (by omega) (by omega) (by omega), qs i hi]
        · have := hS1.hi x hx
          have := hS.lo y hy
          omega
        · simp only [List.nodup_cons, List.mem_cons, List.not_mem_nil, or_false, not_or, List.nodup_nil, and_true, not_false_eq_true]
          omega
        · simp only [List.mem_cons, List.not_mem_nil, or_false] at ht
          rcases ht with rfl | rfl | rfl | rfl | rfl | rfl | rfl | rfl | rfl | rfl | rfl | rfl | rfl | rfl | rfl
          · exact ⟨hni1, nn2 _ (by omega)⟩
          all_goals first
          | exact ⟨nn1 _ (by omega), nn2 _ (by omega)⟩
          | exact ⟨nn1 _ (by omega), c8⟩
        · rw [WI.ofL_ids] at hi
          rcases List.mem_append.1 hi with hi | hi
          · simp only [List.mem_cons, List.not_mem_nil, or_false] at hi
            omega
          · rcases List.mem_append.1 hi with hi | hi
            · have := hS1.lo i hi; have := hS1.hi i hi; omega
            · have := hS.lo i hi; have := hS.hi i hi; omega
      by_cases hg : w.groups = []
      · have h0 : is.length = 0 := by rw [he, hg]; rfl
        rw [if_pos h0] at hO
        try simp [-map_take, -map_drop, -map_tail, rgs, hO, aN, zN, wldV, he, hlt, k5, k6, k7, k8, k9, kA]
        repeat' first | done | ((first | ((with_reducible show lenS _ _ _ _ _ _); refine lenS_slice rfl fun _ => ?_) | ((with_reducible show iaddrS _ _ _ _ _ _ _); refine iaddr_map rfl omA omA ?_) | ((with_reducible show appS _ _ _ _ _ _ _ _); refine app_end rfl rfl (by decide) (by decide) (by first | (simp [-map_take, -map_drop, -map_tail, rgs, hO, aN, zN, wldV, he, hlt, k5, k6, k7, k8, k9, kA]; done) | (simp [-map_take, -map_drop, -map_tail, rgs, hO, aN, zN, wldV, he, hlt, k5, k6, k7, k8, k9, kA]; rfl)) (by first | (simp [-map_take, -map_drop, -map_tail, rgs, hO, aN, zN, wldV, he, hlt, k5, k6, k7, k8, k9, kA]; done) | (simp [-map_take, -map_drop, -map_tail, rgs, hO, aN, zN, wldV, he, hlt, k5, k6, k7, k8, k9, kA]; rfl)) (by first | (simp; done) | (simp; omega)) (by first | (simp only [MLIM, LIM] at *; simp; omega) | (simp only [MLIM]; simp; omega)) (by simp [iv, bv]) ?_) | (with_reducible refine go_draw (i := 1) [(0, [], []), (1, [], [20, 24, 35]), (2, [], []), (3, [], [20, 24, 35]), (5, [], []), (6, [], [20, 24, 35]), (8, [], []), (9, [], [20, 24, 35]), (11, [], []), (12, [], [20, 24, 35]), (14, [], []), (15, [], [20, 24, 35]), (17, [], []), (18, [], [20, 24, 35]), (21, [], []), (22, [], [20, 24, 35]), (25, [], []), (26, [], [20, 24, 35]), (28, [], []), (29, [], [20, 24, 35]), (31, [], []), (32, [], [20, 24, 35]), (4, [.tmp 5, .tmp 10, .tmp 13, .tmp 16, .tmp 19, .tmp 22, .tmp 26, .tmp 30, .tmp 33, .tmp 36], [20, 24, 35]), (7, [.tmp 5, .tmp 13, .tmp 16, .tmp 19, .tmp 22, .tmp 26, .tmp 30, .tmp 33, .tmp 36], [20, 24, 35]), (10, [.tmp 5, .tmp 16, .tmp 19, .tmp 22, .tmp 26, .tmp 30, .tmp 33, .tmp 36], [20, 24, 35]), (13, [.tmp 5, .tmp 19, .tmp 22, .tmp 26, .tmp 30, .tmp 33, .tmp 36], [20, 24, 35]), (16, [.tmp 5, .tmp 22, .tmp 26, .tmp 30, .tmp 33, .tmp 36], [20, 24, 35]), (19, [.tmp 5, .tmp 26, .tmp 30, .tmp 33, .tmp 36], [20, 24, 35]), (20, [], []), (23, [.tmp 5, .tmp 30, .tmp 33, .tmp 36], [24, 35]), (24, [], []), (27, [.tmp 5, .tmp 33, .tmp 36], [35]), (30, [.tmp 5, .tmp 36], [35]), (33, [.tmp 5], [35]), (34, [], []), (35, [], []), (36, [], [])] (by kernel_rfl) ?_) | (with_reducible refine go_draw (i := 5) [(0, [], []), (1, [], [8]), (2, [], []), (3, [], []), (4, [], []), (5, [], []), (6, [], []), (7, [.tmp 47], []), (8, [], []), (9, [], []), (10, [], []), (11, [], [])] (by kernel_rfl) ?_)) <;> simp [-map_take, -map_drop, -map_tail, rgs, hO, aN, zN, wldV, he, hlt, k5, k6, k7, k8, k9, kA]) | ((first | (with_reducible refine condS_split ?_ ?_)) <;> intro qb <;> (have qp := qb; try simp only [psq] at qp) <;> simp [-map_take, -map_drop, -map_tail, rgs, hO, aN, zN, wldV, he, hlt, k5, k6, k7, k8, k9, kA, qb])
        refine .nilR (i := 13) (sz := 5) rfl (by decide) (.done ?_)
        have hz : List.zipWith grpR w.groups is = [] := by rw [hg]; rfl
        have hl : w.groups.length = 0 := by rw [hg]; rfl
        refine key _ (n' + 7) (n' + 7 + 1) 0 hl.symm ?_ ?_ ?_ (by omega) (fun hm => by have := hS.hi _ hm; omega) (by omega) (by omega)
        · intro j hj h3 h1
          repeat rw [upd_ne _ _ _ _ (by omega)]
          exact hF j hj h3
        · intro k hk
          have := hS.lo k hk
          have := hS.hi k hk
          repeat rw [upd_ne _ _ _ _ (by omega)]
        · rw [hz]; exact upd_same ..
      · have h0 : ¬ is.length = 0 := by rw [he]; simpa using hg
        rw [if_neg h0] at hO
        obtain ⟨hR1, hR2, hR3, hR4⟩ := hR (by omega)
        try simp [-map_take, -map_drop, -map_tail, rgs, hO, aN, zN, wldV, he, hlt, k5, k6, k7, k8, k9, kA]
        repeat' first | done | ((first | ((with_reducible show lenS _ _ _ _ _ _); refine lenS_slice rfl fun _ => ?_) | ((with_reducible show iaddrS _ _ _ _ _ _ _); refine iaddr_map rfl omA omA ?_) | ((with_reducible show appS _ _ _ _ _ _ _ _); refine app_end rfl rfl (by decide) (by decide) (by first | (simp [-map_take, -map_drop, -map_tail, rgs, hO, aN, zN, wldV, he, hlt, k5, k6, k7, k8, k9, kA]; done) | (simp [-map_take, -map_drop, -map_tail, rgs, hO, aN, zN, wldV, he, hlt, k5, k6, k7, k8, k9, kA]; rfl)) (by first | (simp [-map_take, -map_drop, -map_tail, rgs, hO, aN, zN, wldV, he, hlt, k5, k6, k7, k8, k9, kA]; done) | (simp [-map_take, -map_drop, -map_tail, rgs, hO, aN, zN, wldV, he, hlt, k5, k6, k7, k8, k9, kA]; rfl)) (by first | (simp; done) | (simp; omega)) (by first | (simp only [MLIM, LIM] at *; simp; omega) | (simp only [MLIM]; simp; omega)) (by simp [iv, bv]) ?_) | (with_reducible refine go_draw (i := 1) [(0, [], []), (1, [], [20, 24, 35]), (2, [], []), (3, [], [20, 24, 35]), (5, [], []), (6, [], [20, 24, 35]), (8, [], []), (9, [], [20, 24, 35]), (11, [], []), (12, [], [20, 24, 35]), (14, [], []), (15, [], [20, 24, 35]), (17, [], []), (18, [], [20, 24, 35]), (21, [], []), (22, [], [20, 24, 35]), (25, [], []), (26, [], [20, 24, 35]), (28, [], []), (29, [], [20, 24, 35]), (31, [], []), (32, [], [20, 24, 35]), (4, [.tmp 5, .tmp 10, .tmp 13, .tmp 16, .tmp 19, .tmp 22, .tmp 26, .tmp 30, .tmp 33, .tmp 36], [20, 24, 35]), (7, [.tmp 5, .tmp 13, .tmp 16, .tmp 19, .tmp 22, .tmp 26, .tmp 30, .tmp 33, .tmp 36], [20, 24, 35]), (10, [.tmp 5, .tmp 16, .tmp 19, .tmp 22, .tmp 26, .tmp 30, .tmp 33, .tmp 36], [20, 24, 35]), (13, [.tmp 5, .tmp 19, .tmp 22, .tmp 26, .tmp 30, .tmp 33, .tmp 36], [20, 24, 35]), (16, [.tmp 5, .tmp 22, .tmp 26, .tmp 30, .tmp 33, .tmp 36], [20, 24, 35]), (19, [.tmp 5, .tmp 26, .tmp 30, .tmp 33, .tmp 36], [20, 24, 35]), (20, [], []), (23, [.tmp 5, .tmp 30, .tmp 33, .tmp 36], [24, 35]), (24, [], []), (27, [.tmp 5, .tmp 33, .tmp 36], [35]), (30, [.tmp 5, .tmp 36], [35]), (33, [.tmp 5], [35]), (34, [], []), (35, [], []), (36, [], [])] (by kernel_rfl) ?_) | (with_reducible refine go_draw (i := 5) [(0, [], []), (1, [], [8]), (2, [], []), (3, [], []), (4, [], []), (5, [], []), (6, [], []), (7, [.tmp 47], []), (8, [], []), (9, [], []), (10, [], []), (11, [], [])] (by kernel_rfl) ?_)) <;> simp [-map_take, -map_drop, -map_tail, rgs, hO, aN, zN, wldV, he, hlt, k5, k6, k7, k8, k9, kA]) | ((first | (with_reducible refine condS_split ?_ ?_)) <;> intro qb <;> (have qp := qb; try simp only [psq] at qp) <;> simp [-map_take, -map_drop, -map_tail, rgs, hO, aN, zN, wldV, he, hlt, k5, k6, k7, k8, k9, kA, qb])
        refine .done (key _ id (n' + 7) _ rfl ?_ ?_ ?_ (by omega) hR4 (by omega) (by omega))
        · intro j hj h3 h1
          repeat rw [upd_ne _ _ _ _ (by omega)]
          exact hF j hj h3
        · intro k hk
          have := hS.lo k hk
          have := hS.hi k hk
          repeat rw [upd_ne _ _ _ _ (by omega)]
        · repeat rw [upd_ne _ _ _ _ (by omega)]
          exact hR1
theorem w_l13Copy {F : Nat → Bool} {w : Wld} (hs : wldsz w ≤ 1048576) : WC ctx.P 107 [.agg (wldV F w)] (fun X => .agg (wldR X w)) w := WC.of (w_l13CopyA hs)
theorem wldV_fz (w : Wld) : Fz (.agg (wldV (fun _ => true) w)) := by
  refine .agg _ fun c hc => ?_
  simp only [wldV, List.mem_cons, List.not_mem_nil, or_false] at hc
  rcases hc with rfl | rfl | rfl | rfl | rfl | rfl | rfl | rfl | rfl | rfl | rfl | rfl | rfl | rfl | rfl | rfl | rfl
  · exact .int _ _
  · exact .vmap prgV_fz
  · exact .vmap nodC_fz
  · exact .vmap evtC_fz
  · exact .vmap bv_fz
  · exact .vmap iv_fz
  · exact .vmap twgC_fz
  · exact .vmap tmrC_fz
  · exact .int _ _
  · exact .vmap iv_fz
  · exact .vmap bv_fz
  · exact .vmap afrC_fz
  · exact .vmap tskC_fz
  · exact .vmap grpV_fz
  · exact .vmap sgtC_fz
  · exact .vmap iv_fz
  · exact .vmap iv_fz
theorem s_l13Copy {F : Nat → Bool} {w : Wld} (hs : wldsz w ≤ 1048576) : PC ctx.P 107 [.agg (wldV F w)] (.agg (wldV (fun _ => true) w)) := (w_l13Copy hs).pc (wldV_fz w) fun g X v => .aggs v.fros
end Go.AE.Tryz
end

section
/- Contracts of the reference's readers: worlds. -/
set_option linter.unusedSimpArgs false
set_option linter.unusedVariables false
set_option maxRecDepth 8000
set_option maxHeartbeats 4000000
namespace Go.AE.Tryz
open Go.Proofs
open List (map_take map_drop map_tail)

theorem s_Groups {F : Nat → Bool} {w : Wld} : PC ctx.P 146 [.agg (wldV F w)] (.bool (all1 (isGroup w) w.groups && decide (w.groups.length ≤ 8))) := by
  refine PC.lim (n := w.groups.length) (x := .agg (wldV F w)) (by simp) (.agg (x := .view (F 12) 5 (w.groups.map (grpV (F 13)))) (by simp [wldV]) (.here (by simp))) ⟨_, Tryz.func146, by kernel_rfl, by kernel_rfl⟩ fun hlim => ?_
  refine PC.o okC Tryz.func146 rfl (.bool _) fun h nx hnx => ?_
  try simp [-map_take, -map_drop, -map_tail, rgs, wldV]
  repeat' first | done | ((first | ((with_reducible show lenS _ _ _ _ _ _); refine lenS_slice rfl fun _ => ?_) | ((with_reducible show iaddrS _ _ _ _ _ _ _); refine iaddr_map rfl omA omA ?_) | (with_reducible refine go_draw (i := 10) [(0, [], []), (1, [], []), (2, [], []), (3, [], []), (4, [], []), (5, [], []), (6, [], []), (7, [], [])] (by kernel_rfl) ?_)) <;> simp [-map_take, -map_drop, -map_tail, rgs, wldV]) | ((first | (with_reducible refine guardS_split ?_ ?_) | (with_reducible refine condS_split ?_ ?_)) <;> intro qb <;> (have qp := qb; try simp only [psq] at qp) <;> simp [-map_take, -map_drop, -map_tail, rgs, wldV, qb])
  refine go_upP [2, 3, 4, 5, 6, 7, 8, 9, 10, 11, 12, 13, 14, 15, 16, 17, 18, 19, 20, 21, 22, 23, 24, 25, 26, 27, 28, 29, 30, 31, 32, 33, 34, 35, 36, 37, 38, 39, 40, 41, 42, 43, 44, 45, 46, 47, 48, 49, 50, 51, 52] (w.groups.length) (fun (i : Nat) a => [(3, .int .i64 i)]) (fun i_ a_ h_ _ => (fun i (_ : Unit) _ => all1 (isGroup w) (w.groups.drop i) = all1 (isGroup w) w.groups) i_ a_ h_) (()) (by simp) ?_ keep_rfl (Nat.le_refl _) ?_
  · simp
  · intro i a tm h' n' hle hJ hE hn' next hnx
    try dsimp only at hJ
    have hK : KeepB nx h' h := KeepB.sub hE keepA (by omega)
    simp [-map_take, -map_drop, -map_tail]
    have e1 : h' (nx) = some (.obj (wldV F w)) := by have := hE (nx) (by omega); simpa [wldV] using this
    have e1n : ∀ k, ((nx) = n' + k) = False := fun k => by simp only [eq_iff_iff, iff_false]; omega
    have e1m : ((nx) = n') = False := by simp only [eq_iff_iff, iff_false]; omega
    try simp [-map_take, -map_drop, -map_tail, rgs, wldV, nodC, grpV, e1, e1n, e1m]
    repeat' first | done | ((first | ((with_reducible show lenS _ _ _ _ _ _); refine lenS_slice rfl fun _ => ?_) | ((with_reducible show iaddrS _ _ _ _ _ _ _); refine iaddr_map rfl omA omA ?_) | ((with_reducible show doCall _ _ _ 256 _ _); refine call_pc (s_GroupOk (p := F 13) (g := gt w.groups (i : Int))) ?_) | ((with_reducible show doCall _ _ _ 253 _ _); refine call_pc (s_Node (w := w) (F := F)) ?_) | (with_reducible refine go_draw (i := 10) [(0, [], []), (1, [], []), (2, [], []), (3, [], []), (4, [], []), (5, [], []), (6, [], []), (7, [], [])] (by kernel_rfl) ?_)) <;> simp [-map_take, -map_drop, -map_tail, rgs, wldV, nodC, grpV, e1, e1n, e1m]) | ((first | (with_reducible refine guardS_split ?_ ?_) | (with_reducible refine condS_split ?_ ?_)) <;> intro qb <;> (have qp := qb; try simp only [psq] at qp) <;> simp [-map_take, -map_drop, -map_tail, rgs, wldV, nodC, grpV, e1, e1n, e1m, qb])
    · have hlt : i < w.groups.length := (by omega)
      rw [drop_gt hlt] at hJ
      refine ⟨?_, keepA⟩; clear hnx; simp only [all1_cons, isGroup_eq] at hJ; grind
    · have hlt : i < w.groups.length := (by omega)
      rw [drop_gt hlt] at hJ
      refine ⟨?_, keepA⟩; clear hnx; simp only [all1_cons, isGroup_eq, isIn, inR] at hJ; grind
    · have hlt : i < w.groups.length := (by omega)
      rw [drop_gt hlt] at hJ
      refine ⟨?_, keepA⟩; clear hnx; simp only [all1_cons, isGroup_eq] at hJ; grind
    · have hlt : i < w.groups.length := (by omega)
      rw [drop_gt hlt] at hJ
      refine go_upP [2, 5, 38, 39, 40, 41, 42, 43, 44, 45, 46, 47, 48, 49, 50, 51, 52] ((gt w.groups (i : Int)).waits.length) (fun (i : Nat) a => [(5, .int .i64 i)]) (fun i_ a_ h_ _ => (fun (j : Nat) (_ : Unit) _ => all1 (fun i => isIn i w.tasks) ((gt w.groups (i : Int)).waits.drop j) = all1 (fun i => isIn i w.tasks) (gt w.groups (i : Int)).waits) i_ a_ h_) (()) (by simp) ?_ keep_rfl (Nat.le_refl _) ?_
      · simp
      · intro j b tm2 h2 n2 hle2 hJ2 hE2 hn2 next2 hnx2
        try dsimp only at hJ2
        have hK2 : KeepB nx h2 h := KeepB.sub hE2 keepA (by omega)
        simp [-map_take, -map_drop, -map_tail]
        have e2 : h2 (nx) = some (.obj (wldV F w)) := by have := hE2 (nx) (by omega); simpa [e1, e1n, e1m, wldV] using this
        have e2n : ∀ k, ((nx) = n2 + k) = False := fun k => by simp only [eq_iff_iff, iff_false]; omega
        have e2m : ((nx) = n2) = False := by simp only [eq_iff_iff, iff_false]; omega
        have e3 : h2 (n' + 10) = some (.obj (grpV (F 13) (gt w.groups (i : Int)))) := by have := hE2 (n' + 10) (by omega); simpa [grpV] using this
        have e3n : ∀ k, ((n' + 10) = n2 + k) = False := fun k => by simp only [eq_iff_iff, iff_false]; omega
        have e3m : ((n' + 10) = n2) = False := by simp only [eq_iff_iff, iff_false]; omega
        try simp [-map_take, -map_drop, -map_tail, rgs, wldV, grpV, iv, e2, e2n, e2m, e3, e3n, e3m]
        repeat' first | done | ((first | ((with_reducible show lenS _ _ _ _ _ _); refine lenS_slice rfl fun _ => ?_) | ((with_reducible show iaddrS _ _ _ _ _ _ _); refine iaddr_map rfl omA omA ?_) | ((with_reducible show doCall _ _ _ 254 _ _); refine call_pc (s_Task (w := w) (F := F)) ?_) | (with_reducible refine go_draw (i := 10) [(0, [], []), (1, [], []), (2, [], []), (3, [], []), (4, [], []), (5, [], []), (6, [], []), (7, [], [])] (by kernel_rfl) ?_)) <;> simp [-map_take, -map_drop, -map_tail, rgs, wldV, grpV, iv, e2, e2n, e2m, e3, e3n, e3m]) | ((first | (with_reducible refine guardS_split ?_ ?_) | (with_reducible refine condS_split ?_ ?_)) <;> intro qb <;> (have qp := qb; try simp only [psq] at qp) <;> simp [-map_take, -map_drop, -map_tail, rgs, wldV, grpV, iv, e2, e2n, e2m, e3, e3n, e3m, qb])
        · rw [drop_gt (by omega)] at hJ2
          refine ⟨?_, keepA⟩; clear hnx hnx2; simp only [all1_cons, isGroup_eq] at hJ hJ2; grind
        · have hlw : (gt w.groups (i : Int)).waits.length ≤ LIM := by assumption
          rw [drop_gt (by omega)] at hJ2
          refine hnx2.go () (by omega) (by simp [wrap_succ (show j < (gt w.groups (i : Int)).waits.length by omega) hlw]) (by simp) keepA (by first | omega | (simp; omega)) ?_
          clear hnx hnx2; simp only [all1_cons] at hJ2; grind
        · rw [List.drop_eq_nil_of_le (by omega)] at hJ2
          refine hnx.go () (by omega) (by simp [wrap_succ hlt hlim]) (by simp) keepA (by first | omega | (simp; omega)) ?_
          clear hnx hnx2; simp only [all1_cons, all1_nil, isGroup_eq] at hJ hJ2 ⊢; grind
    · refine ⟨?_, keepA⟩; rw [List.drop_eq_nil_of_le (by omega)] at hJ; clear hnx; simp only [all1_nil] at hJ; rw [← hJ]; simp; omega
end Go.AE.Tryz
end

section
/- Contracts of the reference's readers: worlds. -/
set_option linter.unusedSimpArgs false
set_option linter.unusedVariables false
set_option maxRecDepth 8000
set_option maxHeartbeats 4000000
namespace Go.AE.Tryz
open Go.Proofs
open List (map_take map_drop map_tail)

theorem s_Sights {F : Nat → Bool} {w : Wld} : PC ctx.P 147 [.agg (wldV F w)] (.bool (all1 (isSight w) w.sights && decide (w.sights.length ≤ 2000))) := by
  refine PC.lim (n := w.sights.length) (x := .agg (wldV F w)) (by simp) (.agg (x := .view (F 14) 4 (w.sights.map sgtC)) (by simp [wldV]) (.here (by simp))) ⟨_, Tryz.func147, by kernel_rfl, by kernel_rfl⟩ fun hlim => ?_
  refine PC.o okC Tryz.func147 rfl (.bool _) fun h nx hnx => ?_
  try simp [-map_take, -map_drop, -map_tail, rgs, wldV]
  repeat' first | done | ((first | ((with_reducible show lenS _ _ _ _ _ _); refine lenS_slice rfl fun _ => ?_) | ((with_reducible show iaddrS _ _ _ _ _ _ _); refine iaddr_map rfl omA omA ?_)) <;> simp [-map_take, -map_drop, -map_tail, rgs, wldV]) | ((first | (with_reducible refine guardS_split ?_ ?_) | (with_reducible refine condS_split ?_ ?_)) <;> intro qb <;> (have qp := qb; try simp only [psq] at qp) <;> simp [-map_take, -map_drop, -map_tail, rgs, wldV, qb])
  refine go_upP [2, 3, 4, 5, 6, 7, 8, 9, 10, 11, 12, 13, 14, 15, 16, 17, 18, 19, 20, 21, 22, 23, 24, 25, 26, 27, 28, 29, 30, 31, 32, 33, 34, 35, 36, 37, 38, 39, 40, 41, 42, 43, 44, 45, 46, 47, 48, 49, 50, 51, 52, 53, 54, 55] (w.sights.length) (fun (i : Nat) a => [(3, .int .i64 i)]) (fun i_ a_ h_ _ => (fun i (_ : Unit) _ => all1 (isSight w) (w.sights.drop i) = all1 (isSight w) w.sights) i_ a_ h_) (()) (by simp) ?_ keep_rfl (Nat.le_refl _) ?_
  · simp
  · intro i a tm h' n' hle hJ hE hn' next hnx
    try dsimp only at hJ
    have hK : KeepB nx h' h := KeepB.sub hE keepA (by omega)
    simp [-map_take, -map_drop, -map_tail]
    have e1 : h' (nx) = some (.obj (wldV F w)) := by have := hE (nx) (by omega); simpa [wldV] using this
    have e1n : ∀ k, ((nx) = n' + k) = False := fun k => by simp only [eq_iff_iff, iff_false]; omega
    have e1m : ((nx) = n') = False := by simp only [eq_iff_iff, iff_false]; omega
    try simp [-map_take, -map_drop, -map_tail, rgs, wldV, sgtC, e1, e1n, e1m]
    repeat' first | done | ((first | ((with_reducible show lenS _ _ _ _ _ _); refine lenS_slice rfl fun _ => ?_) | ((with_reducible show iaddrS _ _ _ _ _ _ _); refine iaddr_map rfl omA omA ?_) | ((with_reducible show doCall _ _ _ 252 _ _); refine call_pc (s_l1In) ?_) | ((with_reducible show doCall _ _ _ 253 _ _); refine call_pc (s_Node (w := w) (F := F)) ?_)) <;> simp [-map_take, -map_drop, -map_tail, rgs, wldV, sgtC, e1, e1n, e1m]) | ((first | (with_reducible refine guardS_split ?_ ?_) | (with_reducible refine condS_split ?_ ?_)) <;> intro qb <;> (have qp := qb; try simp only [psq] at qp) <;> simp [-map_take, -map_drop, -map_tail, rgs, wldV, sgtC, e1, e1n, e1m, qb])
    all_goals
      first
      | (have hlt : i < w.sights.length := (by first | omega | (simp at *; omega))
         rw [drop_gt hlt] at hJ
         first
         | (refine hnx.go (()) ?_ ?_ ?_ ?_ ?_ ?_; omega; (simp [wrap_succ hlt hlim]); (simp); exact keepA; (first | omega | (simp; omega)); (try dsimp only); clear hnx; first | ((try simp only [List.drop_length, Int.toNat_natCast, all1_cons, all1_nil, isSight_eq] at hJ ⊢); grind) | (simp_all [all1_cons, all1_nil, isSight_eq]; done) | (simp_all; omega))
         | (refine ⟨?_, keepA⟩; clear hnx; first | ((try simp only [List.drop_length, Int.toNat_natCast, all1_cons, all1_nil, isSight_eq] at hJ ⊢); grind) | (simp_all [all1_cons, all1_nil, isSight_eq]; done) | (simp_all; omega)))
      | (obtain rfl : i = w.sights.length := (by first | omega | (simp at *; omega))
         refine ⟨?_, keepA⟩; clear hnx; first | ((try simp only [List.drop_length, Int.toNat_natCast, all1_cons, all1_nil, isSight_eq] at hJ ⊢); grind) | (simp_all [all1_cons, all1_nil, isSight_eq]; done) | (simp_all; omega))
end Go.AE.Tryz
end

section
/- Contracts of the reference's readers: worlds. -/
set_option linter.unusedSimpArgs false
set_option linter.unusedVariables false
set_option maxRecDepth 8000
set_option maxHeartbeats 4000000
namespace Go.AE.Tryz
open Go.Proofs
open List (map_take map_drop map_tail)

theorem s_WorldOk {F : Nat → Bool} {w : Wld} : PC ctx.P 57 [.agg (wldV F w)] (.bool (wldOk w)) := by
  refine PC.o okC Tryz.func57 rfl (.bool _) fun h nx hnx => ?_
  try simp [-map_take, -map_drop, -map_tail, rgs, wldV]
  repeat' first | done | ((first | ((with_reducible show doCall _ _ _ 140 _ _); refine call_pc (s_Progs) ?_) | ((with_reducible show doCall _ _ _ 141 _ _); refine call_pc (s_Events (w := w) (F := F)) ?_) | ((with_reducible show doCall _ _ _ 142 _ _); refine call_pc (s_SpreadOk (s := w.spread) (F := F)) ?_) | ((with_reducible show doCall _ _ _ 143 _ _); refine call_pc (s_Timers (w := w) (F := F)) ?_) | ((with_reducible show doCall _ _ _ 144 _ _); refine call_pc (s_Afters (w := w) (F := F)) ?_) | ((with_reducible show doCall _ _ _ 145 _ _); refine call_pc (s_Tasks (w := w) (F := F)) ?_) | ((with_reducible show doCall _ _ _ 146 _ _); refine call_pc (s_Groups (w := w) (F := F)) ?_) | ((with_reducible show doCall _ _ _ 147 _ _); refine call_pc (s_Sights (w := w) (F := F)) ?_) | ((with_reducible show doCall _ _ _ 148 _ _); refine call_pc (s_Numbers) ?_)) <;> simp [-map_take, -map_drop, -map_tail, rgs, wldV]) | ((first | (with_reducible refine guardS_split ?_ ?_)) <;> intro qb <;> (have qp := qb; try simp only [psq] at qp) <;> simp [-map_take, -map_drop, -map_tail, rgs, wldV, qb])
  all_goals (clear hnx; have ht : eventsOk w.tree w.events = true → treeOk w.tree = true := eventsOk_tree; simp only [wldOk]; (try simp only [all1] at *); grind)
end Go.AE.Tryz
end

section
/- Contracts of the reference's requests. -/
set_option linter.unusedSimpArgs false
set_option linter.unusedVariables false
set_option maxRecDepth 8000
set_option maxHeartbeats 4000000
namespace Go.AE.Tryz
open Go.Proofs
open List (map_take map_drop map_tail)
theorem sV_ones {F : Nat → Bool} {w : Wld} : (∀ x ∈ wldV F w, x.one = true) = True := by simp [wldV]
theorem sV_len (F : Nat → Bool) (w : Wld) : (wldV F w).length = 17 := rfl
theorem sV_take (F : Nat → Bool) (w : Wld) : (wldV F w).take 17 = wldV F w := rfl
theorem s_TickIn {F : Nat → Bool} {w : Wld} {d : Int} (hs : wldsz w ≤ 1048576) (ht : -9223372036854775808 ≤ w.now ∧ w.now ≤ 9223372036854775807) (hd : -9223372036854775808 ≤ d ∧ d ≤ 9223372036854775807) : PC ctx.P 38 [.agg (wldV F w), .int .i64 d] (.tup [.agg (wldV (fun _ => true) (tickW w d)), .bool (tickB w d)]) := by
  by_cases hw : wldOk w = true
  · by_cases h0 : 0 ≤ d
    · have e1 : tickW w d = { w with now := later w.now d } := by simp [tickW, hw, h0]
      have e2 : tickB w d = true := by simp [tickB, hw, h0]
      have h1 : ¬ d < 0 := by omega
      rw [e1, e2]
      refine PC.o okC Tryz.func38 rfl (.tup _ (by simp only [List.mem_cons, List.not_mem_nil, or_false]; rintro c (rfl | rfl); exact wldV_fz _; exact .bool _)) fun h nx hnx => ?_
      try simp [-map_take, -map_drop, -map_tail, rgs, hw, h1, wldV]
      repeat' first | done | ((first | ((with_reducible show doCall _ _ _ 57 _ _); refine call_pc (s_WorldOk (w := w) (F := F)) ?_) | ((with_reducible show doCall _ _ _ 107 _ _); refine call_pc (s_l13Copy (w := w) (F := F) hs) ?_) | ((with_reducible show doCall _ _ _ 108 _ _); refine call_pc (s_Later ht hd) ?_)) <;> simp [-map_take, -map_drop, -map_tail, rgs, hw, h1, wldV]) | ((first | (with_reducible refine condS_split ?_ ?_)) <;> intro qb <;> (have qp := qb; try simp only [psq] at qp) <;> simp [-map_take, -map_drop, -map_tail, rgs, hw, h1, wldV, qb])
    · have e1 : tickW w d = w := by simp [tickW, hw, h0]
      have e2 : tickB w d = false := by simp [tickB, hw, h0]
      have h1 : d < 0 := by omega
      rw [e1, e2]
      refine PC.o okC Tryz.func38 rfl (.tup _ (by simp only [List.mem_cons, List.not_mem_nil, or_false]; rintro c (rfl | rfl); exact wldV_fz _; exact .bool _)) fun h nx hnx => ?_
      try simp [-map_take, -map_drop, -map_tail, rgs, hw, h1, wldV]
      repeat' first | done | ((first | ((with_reducible show doCall _ _ _ 57 _ _); refine call_pc (s_WorldOk (w := w) (F := F)) ?_) | ((with_reducible show doCall _ _ _ 107 _ _); refine call_pc (s_l13Copy (w := w) (F := F) hs) ?_) | ((with_reducible show doCall _ _ _ 108 _ _); refine call_pc (s_Later ht hd) ?_)) <;> simp [-map_take, -map_drop, -map_tail, rgs, hw, h1, wldV]) | ((first | (with_reducible refine condS_split ?_ ?_)) <;> intro qb <;> (have qp := qb; try simp only [psq] at qp) <;> simp [-map_take, -map_drop, -map_tail, rgs, hw, h1, wldV, qb])
  · have e1 : tickW w d = default := by simp [tickW, hw]
    have e2 : tickB w d = false := by simp [tickB, hw]
    rw [e1, e2]
    refine PC.nv (r := .tup [.agg zeroC, .bool false]) ?_ (.tups (.cons (.aggs nvs_world) (.cons (.same _) .nil)))
    refine PC.o okC Tryz.func38 rfl (.tup _ (by simp only [List.mem_cons, List.not_mem_nil, or_false]; rintro c (rfl | rfl); exact zeroC_fz; exact .bool _)) fun h nx hnx => ?_
    try simp [-map_take, -map_drop, -map_tail, rgs, hw, wldV, zeroC]
    repeat' first | done | ((first | ((with_reducible show doCall _ _ _ 57 _ _); refine call_pc (s_WorldOk (w := w) (F := F)) ?_)) <;> simp [-map_take, -map_drop, -map_tail, rgs, hw, wldV, zeroC]) | ((first | (with_reducible refine condS_split ?_ ?_)) <;> intro qb <;> (have qp := qb; try simp only [psq] at qp) <;> simp [-map_take, -map_drop, -map_tail, rgs, hw, wldV, zeroC, qb])
end Go.AE.Tryz
end

section
/- The law of the clock: what the program and the reference make of a world is the same, in memory of its own. -/
set_option linter.unusedSimpArgs false
set_option linter.unusedVariables false
set_option maxRecDepth 8000
set_option maxHeartbeats 4000000
namespace Go.AE.Tryz
open Go.Proofs
open List (map_take map_drop map_tail)
theorem wldR_mk (X : WI) (w : Wld) (k : Int) : wldR X (mkWld w k) = wldR X w := by simp [wldR, mkWld, mkSpr, mkTms, mkAfs, mkProgs_len, mkGrps_len]
theorem rrW_cl (X : WI) (w : Wld) (b : Bool) : Cl (.tup [.agg (wldR X w), .bool b]) := by
  refine .tup _ fun c hc => ?_
  simp only [List.mem_cons, List.not_mem_nil, or_false] at hc
  rcases hc with rfl | rfl
  · refine .agg _ fun c hc => ?_
    simp only [wldR, List.mem_cons, List.not_mem_nil, or_false] at hc
    rcases hc with rfl | rfl | rfl | rfl | rfl | rfl | rfl | rfl | rfl | rfl | rfl | rfl | rfl | rfl | rfl | rfl | rfl <;> first | exact .int _ _ | exact .ref _ _ _ _
  · exact .bool _
theorem s_toWorld {F : Nat → Bool} {s : Wld} (hs : wldsz s ≤ 1048576) : PC ctx.P 17 [.agg (wldV F s)] (.agg (wldV (fun _ => true) s)) := (WC.of (w_toWorld hs)).pc (wldV_fz s) fun g X v => .aggs v.fros
theorem w_TickIn2 {F : Nat → Bool} {w : Wld} {d : Int} (hs : wldsz w ≤ 1048576) (ht : -9223372036854775808 ≤ w.now ∧ w.now ≤ 9223372036854775807) (hd : -9223372036854775808 ≤ d ∧ d ≤ 9223372036854775807) : WC ctx.P 39 [.agg (wldV F w), .int .i64 d]
    (fun X => .tup [.agg (wldR X (tickW w d)), .bool (tickB w d)]) (tickW w d) := by
  have := w_TickIn (F := F) hs ht hd
  rw [(tick_ask (d := d) ht.2).1, (tick_ask (d := d) ht.2).2] at this
  exact this
theorem tick_sz {w : Wld} {d : Int} (hs : wldsz w ≤ 1048576) : wldsz (tickW w d) ≤ 1048576 := by
  unfold tickW; split
  · split
    · exact hs
    · exact hs
  · decide
theorem law_TickIn {w : Wld} {d : Int} (ht : -9223372036854775808 ≤ w.now ∧ w.now ≤ 9223372036854775807) (hd : -9223372036854775808 ≤ d ∧ d ≤ 9223372036854775807) : PC ctx.P 11 [.agg (wldV (fun _ => true) w), .int .i64 d] (.bool true) := by
  by_cases hs : wldsz w ≤ 1048576
  · have e : szR (wldsz w) 1048576 = 1048576 - wldsz w := by rcases szR_or (wldsz w) 1048576 with q | q <;> omega
    have hs2 := tick_sz (d := d) hs
    have hcB : ∀ (F : Nat → Bool), WC ctx.P 39 [.agg (wldV F w), .int .i64 d] (fun X => .tup [.agg (wldR X (tickW w d)), .bool (tickB w d)]) (tickW w d) := fun F => w_TickIn2 hs ht hd
    have hcS := s_TickIn (F := fun _ => true) hs ht hd
    generalize tickW w d = W at *
    generalize tickB w d = B at *
    refine PC.o okC Tryz.func11 rfl (.bool _) fun h nx hnx => ?_
    try simp [-map_take, -map_drop, -map_tail, rgs, e, sV_ones, sV_len, sV_take]
    repeat' first | done | ((first | ((with_reducible show doCall _ _ _ 15 _ _); refine call_pc (c_szWorld (s := w) (F := fun _ => true) (by omega) (by omega)) ?_) | (with_reducible refine go_draw (i := 10) [(0, [], []), (1, [], []), (2, [.tmp 8], []), (3, [], []), (4, [], [])] (by kernel_rfl) ?_)) <;> simp [-map_take, -map_drop, -map_tail, rgs, e, sV_ones, sV_len, sV_take]) | ((first | (with_reducible refine guardS_split ?_ ?_) | (with_reducible refine condS_split ?_ ?_)) <;> intro qb <;> (have qp := qb; try simp only [psq] at qp) <;> simp [-map_take, -map_drop, -map_tail, rgs, e, sV_ones, sV_len, sV_take, qb])
    all_goals first | omega | skip
    refine call_pc (s_toWorld (s := w) (F := fun _ => true) hs) ?_
    try simp [-map_take, -map_drop, -map_tail, rgs, sV_ones, sV_len, sV_take]
    repeat' first | done | ((first | (refine call_pc (hcS) ?_) | (with_reducible refine go_draw (i := 10) [(0, [], []), (1, [], []), (2, [.tmp 8], []), (3, [], []), (4, [], [])] (by kernel_rfl) ?_)) <;> simp [-map_take, -map_drop, -map_tail, rgs, sV_ones, sV_len, sV_take]) | ((first | (with_reducible refine guardS_split ?_ ?_) | (with_reducible refine condS_split ?_ ?_)) <;> intro qb <;> (have qp := qb; try simp only [psq] at qp) <;> simp [-map_take, -map_drop, -map_tail, rgs, sV_ones, sV_len, sV_take, qb])
    refine call_ac (w_toWorld (F := fun _ => true) hs) trivial ?_
    rintro r h1 n1 ⟨hK1, X, rfl, V1, hid1⟩ hle1 hfr1
    dsimp only at hK1 hid1 hle1
    try simp [-map_take, -map_drop, -map_tail, rgs, wldR_ones X w, wldR_len, wldR_take]
    repeat' first | done | ((first | (with_reducible refine go_draw (i := 10) [(0, [], []), (1, [], []), (2, [.tmp 8], []), (3, [], []), (4, [], [])] (by kernel_rfl) ?_)) <;> simp [-map_take, -map_drop, -map_tail, rgs, wldR_ones X w, wldR_len, wldR_take]) | ((first | (with_reducible refine guardS_split ?_ ?_) | (with_reducible refine condS_split ?_ ?_)) <;> intro qb <;> (have qp := qb; try simp only [psq] at qp) <;> simp [-map_take, -map_drop, -map_tail, rgs, wldR_ones X w, wldR_len, wldR_take, qb])
    refine call_wcB (hcB FF) (fun X => rrW_cl X W B) ?hb ?_
    case hb => exact .cons (.agg1 (V1.keep fun id hid => by have := hid1 id hid; dsimp only; repeat rw [upd_ne _ _ _ _ (by omega)]).bors) (.cons (.same _) .nil)
    intro X2 h2 n2 V2 hid2 hle2 hf2
    dsimp only at hid2 hle2 hf2
    have nX2 : ∀ j, j < n1 + 9 ∨ n2 ≤ j → j ∉ X2.ids := fun j hj hm => by have := hid2 j hm; omega
    have oS2 : h2 (nx + 16) = some (.obj (wldV (fun _ => true) W)) := by
      rw [hf2 _ (nX2 _ (by omega))]
      repeat rw [upd_ne _ _ _ _ (by omega)]
      rw [hK1 _ (by omega), upd_same]
    have n16 : (nx + 16 = n1 + 6) = False := by simp only [eq_iff_iff, iff_false]; omega
    try simp [-map_take, -map_drop, -map_tail, rgs, n16, oS2, sV_ones, sV_len, sV_take, wldR_ones X2 W, wldR_len, wldR_take]
    repeat' first | done | ((first | (with_reducible refine go_draw (i := 10) [(0, [], []), (1, [], []), (2, [.tmp 8], []), (3, [], []), (4, [], [])] (by kernel_rfl) ?_)) <;> simp [-map_take, -map_drop, -map_tail, rgs, n16, oS2, sV_ones, sV_len, sV_take, wldR_ones X2 W, wldR_len, wldR_take]) | ((first | (with_reducible refine guardS_split ?_ ?_) | (with_reducible refine condS_split ?_ ?_)) <;> intro qb <;> (have qp := qb; try simp only [psq] at qp) <;> simp [-map_take, -map_drop, -map_tail, rgs, n16, oS2, sV_ones, sV_len, sV_take, wldR_ones X2 W, wldR_len, wldR_take, qb])
    generalize hH : upd (upd h2 (n1 + 6) _) (n1 + 6) (some (Ent.obj (wldR X2 W))) = H3
    have hX : ∀ j ∈ X.ids, nx + 23 ≤ j ∧ j < n1 := hid1
    have hX2 : ∀ j ∈ X2.ids, n1 + 9 ≤ j ∧ j < n2 := hid2
    have nX : ∀ j, j < nx + 23 ∨ n1 ≤ j → j ∉ X.ids := fun j hj hm => by have := hX j hm; omega
    have V3 : WV H3 X w := hH ▸ (V1.keep fun id hid => by have := hX id hid; (repeat rw [upd_ne _ _ _ _ (by omega)]); rw [hf2 id (nX2 _ (by omega))]; repeat rw [upd_ne _ _ _ _ (by omega)])
    have G3 : WV H3 X2 W := hH ▸ (V2.keep fun id hid => by have := hX2 id hid; repeat rw [upd_ne _ _ _ _ (by omega)])
    have oG3 : H3 (n1 + 6) = some (.obj (wldR X2 W)) := by rw [← hH, upd_same]
    have oX3 : H3 (nx + 21) = some (.obj (wldR X w)) := by
      rw [← hH]
      repeat rw [upd_ne _ _ _ _ (by omega)]
      rw [hf2 _ (nX2 _ (by omega)), upd_same]
    have oS3 : H3 (nx + 16) = some (.obj (wldV (fun _ => true) W)) := by
      rw [← hH]
      repeat rw [upd_ne _ _ _ _ (by omega)]
      rw [hf2 _ (nX2 _ (by omega))]
      repeat rw [upd_ne _ _ _ _ (by omega)]
      rw [hK1 _ (by omega), upd_same]
    have oA3 : H3 nx = some (.obj (wldV (fun _ => true) w)) := by
      rw [← hH]
      repeat rw [upd_ne _ _ _ _ (by omega)]
      rw [hf2 _ (nX2 _ (by omega))]
      repeat rw [upd_ne _ _ _ _ (by omega)]
      rw [hK1 _ (by omega)]
      repeat rw [upd_ne _ _ _ _ (by omega)]
      rw [upd_same]
    have K3 : KeepB nx H3 h := fun j hj => by
      rw [← hH]
      repeat rw [upd_ne _ _ _ _ (by omega)]
      rw [hf2 _ (nX2 _ (by omega))]
      repeat rw [upd_ne _ _ _ _ (by omega)]
      rw [hK1 _ (by omega)]
      repeat rw [upd_ne _ _ _ _ (by omega)]
    clear hH hf2 hK1 V1 V2 hid1 hid2
    refine call_pcB (c_eqWorld (x := W) (y := W) (F1 := FF) (F2 := fun _ => true)) (.bool _) ?hb3 ?_
    case hb3 => exact .cons (.agg1 G3.bors) (.cons (.same _) .nil)
    try simp [-map_take, -map_drop, -map_tail, rgs, oG3, oS3, oX3, oA3, sV_ones, sV_len, sV_take, wldR_ones X w, wldR_ones X2 W, wldR_len, wldR_take]
    repeat' first | done | ((first | ((with_reducible show doCall _ _ _ 17 _ _); refine call_pc (s_toWorld (s := w) (F := fun _ => true) hs) ?_) | (with_reducible refine go_draw (i := 10) [(0, [], []), (1, [], []), (2, [.tmp 8], []), (3, [], []), (4, [], [])] (by kernel_rfl) ?_)) <;> simp [-map_take, -map_drop, -map_tail, rgs, oG3, oS3, oX3, oA3, sV_ones, sV_len, sV_take, wldR_ones X w, wldR_ones X2 W, wldR_len, wldR_take]) | ((first | (with_reducible refine guardS_split ?_ ?_) | (with_reducible refine condS_split ?_ ?_)) <;> intro qb <;> (have qp := qb; try simp only [psq] at qp) <;> simp [-map_take, -map_drop, -map_tail, rgs, oG3, oS3, oX3, oA3, sV_ones, sV_len, sV_take, wldR_ones X w, wldR_ones X2 W, wldR_len, wldR_take, qb])
    refine call_pcB (c_eqWorld (x := w) (y := w) (F1 := FF) (F2 := fun _ => true)) (.bool _) ?hb4 ?_
    case hb4 => exact .cons (.agg1 V3.bors) (.cons (.same _) .nil)
    try simp [-map_take, -map_drop, -map_tail, rgs, oX3, sV_ones, sV_len, sV_take, wldR_ones X w, wldR_ones X2 W, wldR_len, wldR_take]
    repeat' first | done | ((first | (with_reducible refine go_draw (i := 10) [(0, [], []), (1, [], []), (2, [.tmp 8], []), (3, [], []), (4, [], [])] (by kernel_rfl) ?_)) <;> simp [-map_take, -map_drop, -map_tail, rgs, oX3, sV_ones, sV_len, sV_take, wldR_ones X w, wldR_ones X2 W, wldR_len, wldR_take]) | ((first | (with_reducible refine guardS_split ?_ ?_) | (with_reducible refine condS_split ?_ ?_)) <;> intro qb <;> (have qp := qb; try simp only [psq] at qp) <;> simp [-map_take, -map_drop, -map_tail, rgs, oX3, sV_ones, sV_len, sV_take, wldR_ones X w, wldR_ones X2 W, wldR_len, wldR_take, qb])
    refine call_ac (m_markWorld (X := X) (w := w) (k := 1) hs (by omega) (by omega)) V3 ?_
    rintro r H4 n4 ⟨rfl, V4, f4⟩ hle4 hfr4
    dsimp only at V4 f4 hle4
    have oG4 := f4 (n1 + 6) (by omega) (nX _ (by omega))
    have oS4 := f4 (nx + 16) (by omega) (nX _ (by omega))
    have oA4 := f4 nx (by omega) (nX _ (by omega))
    rw [oG3] at oG4
    rw [oS3] at oS4
    rw [oA3] at oA4
    have G4 : WV H4 X2 W := G3.keep fun id hid => f4 id (by have := hX2 id hid; omega) (nX _ (by have := hX2 id hid; omega))
    have K4 : KeepB nx H4 h := fun j hj => by rw [f4 j (by omega) (nX _ (by omega)), K3 j hj]
    have z4 : (kZ w 1 < 0) = False := by
      simp only [eq_iff_iff, iff_false]
      simp only [kZ, kR, kB, kV, kG, kK, kF, kU, kA, kL, kH, kW, kS, kE, kT]; omega
    clear hfr4
    try simp [-map_take, -map_drop, -map_tail, rgs, z4, oG4, oS4, sV_ones, sV_len, sV_take, wldR_ones X w, wldR_ones X2 W, wldR_len, wldR_take]
    repeat' first | done | ((first | (with_reducible refine go_draw (i := 10) [(0, [], []), (1, [], []), (2, [.tmp 8], []), (3, [], []), (4, [], [])] (by kernel_rfl) ?_)) <;> simp [-map_take, -map_drop, -map_tail, rgs, z4, oG4, oS4, sV_ones, sV_len, sV_take, wldR_ones X w, wldR_ones X2 W, wldR_len, wldR_take]) | ((first | (with_reducible refine guardS_split ?_ ?_) | (with_reducible refine condS_split ?_ ?_)) <;> intro qb <;> (have qp := qb; try simp only [psq] at qp) <;> simp [-map_take, -map_drop, -map_tail, rgs, z4, oG4, oS4, sV_ones, sV_len, sV_take, wldR_ones X w, wldR_ones X2 W, wldR_len, wldR_take, qb])
    refine call_pcB (c_eqWorld (x := W) (y := W) (F1 := FF) (F2 := fun _ => true)) (.bool _) ?hb5 ?_
    case hb5 => exact .cons (.agg1 G4.bors) (.cons (.same _) .nil)
    try simp [-map_take, -map_drop, -map_tail, rgs, z4, oG4, oS4, sV_ones, sV_len, sV_take, wldR_ones X w, wldR_ones X2 W, wldR_len, wldR_take]
    repeat' first | done | ((first | (with_reducible refine go_draw (i := 10) [(0, [], []), (1, [], []), (2, [.tmp 8], []), (3, [], []), (4, [], [])] (by kernel_rfl) ?_)) <;> simp [-map_take, -map_drop, -map_tail, rgs, z4, oG4, oS4, sV_ones, sV_len, sV_take, wldR_ones X w, wldR_ones X2 W, wldR_len, wldR_take]) | ((first | (with_reducible refine guardS_split ?_ ?_) | (with_reducible refine condS_split ?_ ?_)) <;> intro qb <;> (have qp := qb; try simp only [psq] at qp) <;> simp [-map_take, -map_drop, -map_tail, rgs, z4, oG4, oS4, sV_ones, sV_len, sV_take, wldR_ones X w, wldR_ones X2 W, wldR_len, wldR_take, qb])
    refine call_ac (m_markWorld (X := X2) (w := W) (k := 1) hs2 (by omega) (by omega)) G4 ?_
    rintro r H5 n5 ⟨rfl, G5, f5⟩ hle5 hfr5
    dsimp only at G5 f5 hle5
    have oG5 := f5 (n1 + 6) (by omega) (nX2 _ (by omega))
    have oS5 := f5 (nx + 16) (by omega) (nX2 _ (by omega))
    have oA5 := f5 nx (by omega) (nX2 _ (by omega))
    rw [oG4] at oG5
    rw [oS4] at oS5
    rw [oA4] at oA5
    have K5 : KeepB nx H5 h := fun j hj => by rw [f5 j (by omega) (nX2 _ (by omega)), K4 j hj]
    have z5 : (kZ W 1 < 0) = False := by
      simp only [eq_iff_iff, iff_false]
      simp only [kZ, kR, kB, kV, kG, kK, kF, kU, kA, kL, kH, kW, kS, kE, kT]; omega
    clear hfr5
    try simp [-map_take, -map_drop, -map_tail, rgs, z5, oG5, sV_ones, sV_len, sV_take, wldR_ones X w, wldR_ones X2 W, wldR_len, wldR_take]
    repeat' first | done | ((first | (with_reducible refine go_draw (i := 10) [(0, [], []), (1, [], []), (2, [.tmp 8], []), (3, [], []), (4, [], [])] (by kernel_rfl) ?_)) <;> simp [-map_take, -map_drop, -map_tail, rgs, z5, oG5, sV_ones, sV_len, sV_take, wldR_ones X w, wldR_ones X2 W, wldR_len, wldR_take]) | ((first | (with_reducible refine guardS_split ?_ ?_) | (with_reducible refine condS_split ?_ ?_)) <;> intro qb <;> (have qp := qb; try simp only [psq] at qp) <;> simp [-map_take, -map_drop, -map_tail, rgs, z5, oG5, sV_ones, sV_len, sV_take, wldR_ones X w, wldR_ones X2 W, wldR_len, wldR_take, qb])
    refine call_pcB (h_heldWorld (F := FF) (w := W) (k := 1) hs2 (by omega) (by omega)) (.int _ _) ?hb6 ?_
    case hb6 => exact .cons (.agg1 (wldR_mk X2 W 1 ▸ G5.bors)) (.cons (.same _) .nil)
    try simp [-map_take, -map_drop, -map_tail, rgs, z5, oA5, sV_ones, sV_len, sV_take, wldR_ones X w, wldR_ones X2 W, wldR_len, wldR_take]
    repeat' first | done | ((first | ((with_reducible show doCall _ _ _ 17 _ _); refine call_pc (s_toWorld (s := w) (F := fun _ => true) hs) ?_) | (with_reducible refine go_draw (i := 10) [(0, [], []), (1, [], []), (2, [.tmp 8], []), (3, [], []), (4, [], [])] (by kernel_rfl) ?_)) <;> simp [-map_take, -map_drop, -map_tail, rgs, z5, oA5, sV_ones, sV_len, sV_take, wldR_ones X w, wldR_ones X2 W, wldR_len, wldR_take]) | ((first | (with_reducible refine guardS_split ?_ ?_) | (with_reducible refine condS_split ?_ ?_)) <;> intro qb <;> (have qp := qb; try simp only [psq] at qp) <;> simp [-map_take, -map_drop, -map_tail, rgs, z5, oA5, sV_ones, sV_len, sV_take, wldR_ones X w, wldR_ones X2 W, wldR_len, wldR_take, qb])
    refine call_wc (hcB _) ?_
    intro X6 H6 n6 V6 hid6 hle6 f6
    dsimp only at hid6 hle6 f6
    have nX6 : ∀ j, j < n5 → j ∉ X6.ids := fun j hj hm => by have := hid6 j hm; omega
    have oG6 := f6 (n1 + 6) (nX6 _ (by omega))
    have oS6 := f6 (nx + 16) (nX6 _ (by omega))
    rw [oG5] at oG6
    rw [oS5] at oS6
    have G6 : WV H6 X2 (mkWld W 1) := G5.keep fun id hid => f6 id (nX6 _ (by have := hX2 id hid; omega))
    have K6 : KeepB nx H6 h := fun j hj => by rw [f6 j (nX6 _ (by omega)), K5 j hj]
    have n17 : (nx + 16 = n5 + 17) = False := by simp only [eq_iff_iff, iff_false]; omega
    have m18 : ∀ k, (n1 = n5 + k) = False := fun k => by simp only [eq_iff_iff, iff_false]; omega
    have m19 : ∀ k, (nx = n5 + k) = False := fun k => by simp only [eq_iff_iff, iff_false]; omega
    have m17 : (n1 + 6 = n5 + 17) = False := by simp only [eq_iff_iff, iff_false]; omega
    try simp [-map_take, -map_drop, -map_tail, rgs, n17, m17, m18, m19, z5, oG6, oS6, wldR_ones X6 W, sV_ones, sV_len, sV_take, wldR_ones X2 W, wldR_len, wldR_take]
    repeat' first | done | ((first | (with_reducible refine go_draw (i := 10) [(0, [], []), (1, [], []), (2, [.tmp 8], []), (3, [], []), (4, [], [])] (by kernel_rfl) ?_)) <;> simp [-map_take, -map_drop, -map_tail, rgs, n17, m17, m18, m19, z5, oG6, oS6, wldR_ones X6 W, sV_ones, sV_len, sV_take, wldR_ones X2 W, wldR_len, wldR_take]) | ((first | (with_reducible refine guardS_split ?_ ?_) | (with_reducible refine condS_split ?_ ?_)) <;> intro qb <;> (have qp := qb; try simp only [psq] at qp) <;> simp [-map_take, -map_drop, -map_tail, rgs, n17, m17, m18, m19, z5, oG6, oS6, wldR_ones X6 W, sV_ones, sV_len, sV_take, wldR_ones X2 W, wldR_len, wldR_take, qb])
    refine call_pcB (c_eqWorld (x := W) (y := W) (F1 := FF) (F2 := fun _ => true)) (.bool _) ?hb7 ?_
    case hb7 => exact .cons (.agg1 (V6.keep fun id hid => by have := hid6 id hid; dsimp only; repeat rw [upd_ne _ _ _ _ (by omega)]).bors) (.cons (.same _) .nil)
    try simp [-map_take, -map_drop, -map_tail, rgs, n17, m17, m18, m19, z5, oG6, oS6, wldR_ones X6 W, sV_ones, sV_len, sV_take, wldR_ones X2 W, wldR_len, wldR_take]
    repeat' first | done | ((first | (with_reducible refine go_draw (i := 10) [(0, [], []), (1, [], []), (2, [.tmp 8], []), (3, [], []), (4, [], [])] (by kernel_rfl) ?_)) <;> simp [-map_take, -map_drop, -map_tail, rgs, n17, m17, m18, m19, z5, oG6, oS6, wldR_ones X6 W, sV_ones, sV_len, sV_take, wldR_ones X2 W, wldR_len, wldR_take]) | ((first | (with_reducible refine guardS_split ?_ ?_) | (with_reducible refine condS_split ?_ ?_)) <;> intro qb <;> (have qp := qb; try simp only [psq] at qp) <;> simp [-map_take, -map_drop, -map_tail, rgs, n17, m17, m18, m19, z5, oG6, oS6, wldR_ones X6 W, sV_ones, sV_len, sV_take, wldR_ones X2 W, wldR_len, wldR_take, qb])
    refine call_pcB (h_heldWorld (F := FF) (w := W) (k := 1) hs2 (by omega) (by omega)) (.int _ _) ?hb8 ?_
    case hb8 => exact .cons (.agg1 (wldR_mk X2 W 1 ▸ (G6.keep fun id hid => by have := hX2 id hid; dsimp only; repeat rw [upd_ne _ _ _ _ (by omega)]).bors)) (.cons (.same _) .nil)
    try simp [-map_take, -map_drop, -map_tail, rgs, z5]
    repeat' first | done | ((first | (with_reducible refine go_draw (i := 10) [(0, [], []), (1, [], []), (2, [.tmp 8], []), (3, [], []), (4, [], [])] (by kernel_rfl) ?_)) <;> simp [-map_take, -map_drop, -map_tail, rgs, z5]) | ((first | (with_reducible refine guardS_split ?_ ?_) | (with_reducible refine condS_split ?_ ?_)) <;> intro qb <;> (have qp := qb; try simp only [psq] at qp) <;> simp [-map_take, -map_drop, -map_tail, rgs, z5, qb])
    exact keep_upd_of (by omega) (keep_upd_of (by omega) K6)
  · have e : szR (wldsz w) 1048576 = -1 := by rcases szR_or (wldsz w) 1048576 with q | q <;> omega
    refine PC.o okC Tryz.func11 rfl (.bool _) fun h nx hnx => ?_
    try simp [-map_take, -map_drop, -map_tail, rgs, e]
    repeat' first | done | ((first | ((with_reducible show doCall _ _ _ 15 _ _); refine call_pc (c_szWorld (s := w) (F := fun _ => true) (by omega) (by omega)) ?_) | (with_reducible refine go_draw (i := 10) [(0, [], []), (1, [], []), (2, [.tmp 8], []), (3, [], []), (4, [], [])] (by kernel_rfl) ?_)) <;> simp [-map_take, -map_drop, -map_tail, rgs, e]) | ((first | (with_reducible refine guardS_split ?_ ?_) | (with_reducible refine condS_split ?_ ?_)) <;> intro qb <;> (have qp := qb; try simp only [psq] at qp) <;> simp [-map_take, -map_drop, -map_tail, rgs, e, qb])
end Go.AE.Tryz
end
