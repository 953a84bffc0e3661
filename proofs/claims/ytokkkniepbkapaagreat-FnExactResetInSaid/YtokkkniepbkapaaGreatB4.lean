/- Contracts of the seat's functions: what each answers, for all arguments. -/
import Derived.Test.YtokkkniepbkapaaGreatB3
import Derived.Test.YtokkkniepbkapaaGreatA3
import Derived.Test.YtokkkniepbkapaaGreatB1
import Derived.Test.YtokkkniepbkapaaGreatB2
set_option linter.unusedVariables false
set_option linter.unusedSimpArgs false
set_option linter.deprecated false
section
/- Contracts of the reference's readers: worlds. -/
set_option maxRecDepth 8000
set_option maxHeartbeats 4000000
namespace Go.AE.Tryz
open Go.Proofs
open List renaming map_take → qt, map_drop → qd, map_tail → ql

theorem s_Sights {F : Nat → Bool} {w : Wld} : PC ctx.P 111 [.agg (wldV F w)] (.bool (zO6 (zC3 w) w.sights && decide (w.sights.length ≤ 2000))) := by
  refine PC.lim (n := w.sights.length) (x := .agg (wldV F w)) (by simp) (.agg (x := .view (F 14) 4 (w.sights.map zA0)) (by simp [wldV]) (.here (by simp))) ⟨_, Tryz.func111, by kernel_rfl, by kernel_rfl⟩ fun hlim => ?_
  refine PC.o okC Tryz.func111 rfl (.bool _) fun h nx hnx => ?_
  try simp [-qt, -qd, -ql, rgs, wldV]
  repeat' first | done | ((first | ((with_reducible show zT _ _ _ _ _ _); refine zB rfl fun _ => ?_) | ((with_reducible show zG _ _ _ _ _ _ _); refine zC rfl omA omA ?_)) <;> simp [-qt, -qd, -ql, rgs, wldV]) | ((first | (with_reducible refine zH ?_ ?_) | (with_reducible refine zA ?_ ?_)) <;> intro qb <;> (have qp := qb; try simp only [psq] at qp) <;> simp [-qt, -qd, -ql, rgs, wldV, qb])
  refine zV [2, 3, 4, 5, 6, 7, 8, 9, 10, 11, 12, 13, 14, 15, 16, 17, 18, 19, 20, 21, 22, 23, 24, 25, 26, 27, 28, 29, 30, 31, 32, 33, 34, 35, 36, 37, 38, 39, 40, 41, 42, 43, 44, 45, 46, 47, 48, 49, 50, 51, 52, 53, 54, 55] (w.sights.length) (fun (i : Nat) a => [(3, .int .i64 i)]) (fun i_ a_ h_ _ => (fun i (_ : Unit) _ => zO6 (zC3 w) (w.sights.drop i) = zO6 (zC3 w) w.sights) i_ a_ h_) (()) (by simp) ?_ zR (Nat.le_refl _) ?_
  · simp
  · intro i a tm h' n' hle hJ hE hn' next hnx
    try dsimp only at hJ
    have hK : KeepB nx h' h := KeepB.sub hE zJ (by omega)
    simp [-qt, -qd, -ql]
    have e1 : h' (nx) = some (.obj (wldV F w)) := by have := hE (nx) (by omega); simpa [wldV] using this
    have e1n : ∀ k, ((nx) = n' + k) = False := fun k => by simp only [eq_iff_iff, iff_false]; omega
    have e1m : ((nx) = n') = False := by simp only [eq_iff_iff, iff_false]; omega
    try simp [-qt, -qd, -ql, rgs, wldV, zA0, e1, e1n, e1m]
    repeat' first | done | ((first | ((with_reducible show zT _ _ _ _ _ _); refine zB rfl fun _ => ?_) | ((with_reducible show zG _ _ _ _ _ _ _); refine zC rfl omA omA ?_) | ((with_reducible show zE _ _ _ 199 _ _); refine zD (zB3) ?_) | ((with_reducible show zE _ _ _ 200 _ _); refine zD (s_Node (w := w) (F := F)) ?_)) <;> simp [-qt, -qd, -ql, rgs, wldV, zA0, e1, e1n, e1m]) | ((first | (with_reducible refine zH ?_ ?_) | (with_reducible refine zA ?_ ?_)) <;> intro qb <;> (have qp := qb; try simp only [psq] at qp) <;> simp [-qt, -qd, -ql, rgs, wldV, zA0, e1, e1n, e1m, qb])
    all_goals
      first
      | (have hlt : i < w.sights.length := (by first | omega | (simp at *; omega))
         rw [zS hlt] at hJ
         first
         | (refine hnx.go (()) ?_ ?_ ?_ ?_ ?_ ?_; omega; (simp [zM hlt hlim]); (simp); exact zJ; (first | omega | (simp; omega)); (try dsimp only); clear hnx; first | ((try simp only [List.drop_length, Int.toNat_natCast, zX, yE, zF8] at hJ ⊢); grind) | (simp_all [zX, yE, zF8]; done) | (simp_all; omega))
         | (refine ⟨?_, zJ⟩; clear hnx; first | ((try simp only [List.drop_length, Int.toNat_natCast, zX, yE, zF8] at hJ ⊢); grind) | (simp_all [zX, yE, zF8]; done) | (simp_all; omega)))
      | (obtain rfl : i = w.sights.length := (by first | omega | (simp at *; omega))
         refine ⟨?_, zJ⟩; clear hnx; first | ((try simp only [List.drop_length, Int.toNat_natCast, zX, yE, zF8] at hJ ⊢); grind) | (simp_all [zX, yE, zF8]; done) | (simp_all; omega))
end Go.AE.Tryz
end

section
/- Contracts of the reference's readers: worlds. -/
set_option maxRecDepth 8000
set_option maxHeartbeats 4000000
namespace Go.AE.Tryz
open Go.Proofs
open List renaming map_take → qt, map_drop → qd, map_tail → ql

theorem s_WorldOk {F : Nat → Bool} {w : Wld} : PC ctx.P 33 [.agg (wldV F w)] (.bool (zB0 w)) := by
  refine PC.o okC Tryz.func33 rfl (.bool _) fun h nx hnx => ?_
  try simp [-qt, -qd, -ql, rgs, wldV]
  repeat' first | done | ((first | ((with_reducible show zE _ _ _ 104 _ _); refine zD (s_Progs) ?_) | ((with_reducible show zE _ _ _ 105 _ _); refine zD (s_Events (w := w) (F := F)) ?_) | ((with_reducible show zE _ _ _ 106 _ _); refine zD (s_SpreadOk (s := w.spread) (F := F)) ?_) | ((with_reducible show zE _ _ _ 107 _ _); refine zD (s_Timers (w := w) (F := F)) ?_) | ((with_reducible show zE _ _ _ 108 _ _); refine zD (s_Afters (w := w) (F := F)) ?_) | ((with_reducible show zE _ _ _ 109 _ _); refine zD (s_Tasks (w := w) (F := F)) ?_) | ((with_reducible show zE _ _ _ 110 _ _); refine zD (s_Groups (w := w) (F := F)) ?_) | ((with_reducible show zE _ _ _ 111 _ _); refine zD (s_Sights (w := w) (F := F)) ?_) | ((with_reducible show zE _ _ _ 112 _ _); refine zD (s_Numbers) ?_)) <;> simp [-qt, -qd, -ql, rgs, wldV]) | ((first | (with_reducible refine zH ?_ ?_)) <;> intro qb <;> (have qp := qb; try simp only [psq] at qp) <;> simp [-qt, -qd, -ql, rgs, wldV, qb])
  all_goals (clear hnx; have ht : yR w.tree w.events = true → zB8 w.tree = true := zJ5; simp only [zB0]; (try simp only [zO6] at *); grind)
end Go.AE.Tryz
end

section
/- Contracts of the reference's requests. -/
set_option maxRecDepth 8000
set_option maxHeartbeats 4000000
namespace Go.AE.Tryz
open Go.Proofs
theorem yW {F : Nat → Bool} {w : Wld} : (∀ x ∈ wldV F w, x.one = true) = True := by simp [wldV]
theorem vS (F : Nat → Bool) (w : Wld) : (wldV F w).length = 17 := rfl
theorem yX (F : Nat → Bool) (w : Wld) : (wldV F w).take 17 = wldV F w := rfl
end Go.AE.Tryz
end

section
/- The law of the clock: what the program and the reference make of a world is the same, in memory of its own. -/
set_option maxRecDepth 8000
set_option maxHeartbeats 4000000
namespace Go.AE.Tryz
open Go.Proofs
theorem wldR_mk (X : WI) (w : Wld) (k : Int) : zF9 X (mkWld w k) = zF9 X w := by simp [zF9, mkWld, mkSpr, mkTms, mkAfs, vK, vY]
theorem rrW_cl (X : WI) (w : Wld) (b : Bool) : Cl (.tup [.agg (zF9 X w), .bool b]) := by
  refine .tup _ fun c hc => ?_
  simp only [List.mem_cons, List.not_mem_nil, or_false] at hc
  rcases hc with rfl | rfl
  · refine .agg _ fun c hc => ?_
    simp only [zF9, List.mem_cons, List.not_mem_nil, or_false] at hc
    rcases hc with rfl | rfl | rfl | rfl | rfl | rfl | rfl | rfl | rfl | rfl | rfl | rfl | rfl | rfl | rfl | rfl | rfl <;> first | exact .int _ _ | exact .ref _ _ _ _
  · exact .bool _
theorem s_toWorld {F : Nat → Bool} {s : Wld} (hs : zC9 s ≤ 1048576) : PC ctx.P 10 [.agg (wldV F s)] (.agg (wldV (fun _ => true) s)) := (WC.of (w_toWorld hs)).pc (wldV_fz s) fun g X v => .aggs v.fros
end Go.AE.Tryz
end

section
/- Contracts of the program's changes of heaps, as new rows. -/
set_option maxRecDepth 8000
set_option maxHeartbeats 2000000
namespace Go.AE.Tryz
open Go.Proofs
open List renaming map_take → qt, map_drop → qd, map_tail → ql
theorem f_growTwig {n : Nat} (h0 : 0 < n) (hm : n ≤ yM) : FC ctx.P 363 [.nil, .int .i64 n] (.ref 0 3 0 0) [.row 3 (List.replicate n twZ)] := by
  have hw : IntKind.i64.wrap (n : Int) = n := zF (by simp only [yM] at hm; omega)
  have hw0 : IntKind.i64.wrap 0 = 0 := rfl
  have q1 : ((n : Int) < 0) = False := by simp only [eq_iff_iff, iff_false]; omega
  have q2 : (0 < n) = True := by simp only [eq_iff_iff, iff_true]; omega
  refine FC.o okC Tryz.func363 rfl ((.one _ (.one _ (.ref _ _ _ _ (by simp))))) ((fun e he => by simp at he; subst he; exact twZ_fz _)) fun h nx hnx => ?_
  try simp [-qt, -qd, -ql, rgs, zG4, hw0, hw, q1, q2]
  repeat' first | done | ((first | ((with_reducible show zT _ _ _ _ _ _); refine zB rfl fun _ => ?_) | ((with_reducible show yP _ _ _ _ _ _ _ _); refine uU rfl omA omA ?_) | ((with_reducible show yP _ _ _ _ _ _ _ _); refine vH rfl omA omA ?_) | ((with_reducible show yP _ _ _ _ _ _ _ _); refine vT rfl omA omA omA ?_) | (((with_reducible show capX _ _ _ _ _ _); refine cap_nil rfl ?_)) | (((with_reducible show yP _ _ _ _ .nil _ _ _); refine slice_nil rfl rfl rfl ?_)) | (((with_reducible show zerS _ _ _ _ _ _ _ _ _); refine zer_nil rfl (by decide) (by decide) rfl rfl h0 hm ?_)) | (((with_reducible show yP _ _ _ _ (.ref _ _ _ _) _ _ _); refine slice_ref (l := 0) (h := 0) rfl rfl (by simp [bndA]) (by omega) (by omega) ?_)) | ((with_reducible show zF4 _ _ _ _ _ _ _ _); refine yF rfl rfl (by decide) (by decide) (by first | (simp [-qt, -qd, -ql, rgs, zG4, hw0, hw, q1, q2]; done) | (simp [-qt, -qd, -ql, rgs, zG4, hw0, hw, q1, q2]; rfl)) (by first | (simp [-qt, -qd, -ql, rgs, zG4, hw0, hw, q1, q2]; done) | (simp [-qt, -qd, -ql, rgs, zG4, hw0, hw, q1, q2]; rfl)) (by first | (simp; done) | (simp; omega)) (by first | (simp only [yM, LIM] at *; simp; omega) | (simp only [yM]; simp; omega)) (by simp [iv, bv]) ?_)) <;> simp [-qt, -qd, -ql, rgs, zG4, hw0, hw, q1, q2]) | ((first | (with_reducible refine zA ?_ ?_)) <;> intro qb <;> (have qp := qb; try simp only [psq] at qp) <;> simp [-qt, -qd, -ql, rgs, zG4, hw0, hw, q1, q2, qb])
  exact finF1 (i := nx + 18) zJ (by omega) (by simp [twZ]) (by simp)
theorem f_concatTwig {p : Bool} {qs : List (Bool × List Twg)} (h0 : 0 < (cq qs qs.length).length) (hm : (cq qs qs.length).length ≤ 1048576) (hq : qs.length ≤ 1000) : FC ctx.P 360 [.view p 1 (qs.map twV)] (.ref 0 3 0 ((cq qs qs.length).map zY).length) [.row 3 ((cq qs qs.length).map zY)] := by
  have hlim : qs.length ≤ LIM := by simp only [LIM]; omega
  have hM : (cq qs qs.length).length ≤ yM := by simp only [yM]; omega
  refine FC.o1 okC Tryz.func360 rfl (zP yK _) fun h nx hnx => ?_
  try simp [-qt, -qd, -ql, rgs]
  repeat' first | done | ((first | ((with_reducible show zT _ _ _ _ _ _); refine zB rfl fun _ => ?_) | ((with_reducible show zG _ _ _ _ _ _ _); refine zC rfl omA omA ?_) | ((with_reducible show zF4 _ _ _ _ _ _ _ _); refine yF rfl rfl (by decide) (by decide) (by first | (simp [-qt, -qd, -ql, rgs]; done) | (simp [-qt, -qd, -ql, rgs]; rfl)) (by first | (simp [-qt, -qd, -ql, rgs]; done) | (simp [-qt, -qd, -ql, rgs]; rfl)) (by first | (simp; done) | (simp; omega)) (by first | (simp only [yM, LIM] at *; simp; omega) | (simp only [yM]; simp; omega)) (by simp [iv, bv]) ?_)) <;> simp [-qt, -qd, -ql, rgs]) | ((first | (with_reducible refine zA ?_ ?_)) <;> intro qb <;> (have qp := qb; try simp only [psq] at qp) <;> simp [-qt, -qd, -ql, rgs, qb])
  refine zV [3, 5, 11, 12, 13, 14, 15, 16, 17, 18, 19, 20, 21, 22] (qs.length) (fun (i : Nat) a => [(11, .int .i64 i), (3, .int .i64 ((cq qs i).length : Nat))]) (fun i_ a_ h_ _ => (fun i (_ : Unit) _ => True) i_ a_ h_) (()) (by simp) ?_ zR (Nat.le_refl _) ?_
  · trivial
  · intro i a tm h' n' hle hJ hE hn' next hnx
    try dsimp only at hJ
    have hK : KeepB nx h' h := KeepB.sub hE zJ (by omega)
    simp [-qt, -qd, -ql]
    by_cases hlt : i < qs.length
    · have hcl := cq_lt hlt
      have hcs := cq_succ hlt
      have hw : IntKind.i64.wrap ((((cq qs i).length : Nat) : Int) + (((gt qs (i : Int)).2.length : Nat) : Int)) = (((cq qs (i + 1)).length : Nat) : Int) := by rw [zF (by omega), hcs, List.length_append]; omega
      have hn : ((((cq qs (i + 1)).length : Nat) : Int) < 0) = False := by simp only [eq_iff_iff, iff_false]; omega
      try simp [-qt, -qd, -ql, rgs, twV, hlt, hw, hn]
      repeat' first | done | ((first | ((with_reducible show zT _ _ _ _ _ _); refine zB rfl fun _ => ?_) | ((with_reducible show zG _ _ _ _ _ _ _); refine zC rfl omA omA ?_) | ((with_reducible show zF4 _ _ _ _ _ _ _ _); refine yF rfl rfl (by decide) (by decide) (by first | (simp [-qt, -qd, -ql, rgs, twV, hlt, hw, hn]; done) | (simp [-qt, -qd, -ql, rgs, twV, hlt, hw, hn]; rfl)) (by first | (simp [-qt, -qd, -ql, rgs, twV, hlt, hw, hn]; done) | (simp [-qt, -qd, -ql, rgs, twV, hlt, hw, hn]; rfl)) (by first | (simp; done) | (simp; omega)) (by first | (simp only [yM, LIM] at *; simp; omega) | (simp only [yM]; simp; omega)) (by simp [iv, bv]) ?_)) <;> simp [-qt, -qd, -ql, rgs, twV, hlt, hw, hn]) | ((first | (with_reducible refine zA ?_ ?_)) <;> intro qb <;> (have qp := qb; try simp only [psq] at qp) <;> simp [-qt, -qd, -ql, rgs, twV, hlt, hw, hn, qb])
      refine hnx.go () ?_ ?_ ?_ ?_ ?_ ?_
      · omega
      · simp [zM hlt hlim]
      · simp
      · exact zJ
      · first | omega | (simp; omega)
      trivial
    · have he : i = qs.length := by omega
      subst he
      try simp [-qt, -qd, -ql, rgs, hlt]
      repeat' first | done | ((first | ((with_reducible show zT _ _ _ _ _ _); refine zB rfl fun _ => ?_) | ((with_reducible show zG _ _ _ _ _ _ _); refine zC rfl omA omA ?_) | ((with_reducible show zE _ _ _ 363 _ _); refine yA (f_growTwig h0 hM) ?_) | ((with_reducible show zF4 _ _ _ _ _ _ _ _); refine yF rfl rfl (by decide) (by decide) (by first | (simp [-qt, -qd, -ql, rgs, hlt]; done) | (simp [-qt, -qd, -ql, rgs, hlt]; rfl)) (by first | (simp [-qt, -qd, -ql, rgs, hlt]; done) | (simp [-qt, -qd, -ql, rgs, hlt]; rfl)) (by first | (simp; done) | (simp; omega)) (by first | (simp only [yM, LIM] at *; simp; omega) | (simp only [yM]; simp; omega)) (by simp [iv, bv]) ?_)) <;> simp [-qt, -qd, -ql, rgs, hlt]) | ((first | (with_reducible refine zA ?_ ?_)) <;> intro qb <;> (have qp := qb; try simp only [psq] at qp) <;> simp [-qt, -qd, -ql, rgs, hlt, qb])
      refine zV (h0 := h) (nx0 := nx) [6, 8, 27, 28, 29, 30, 31, 32, 33, 34] (qs.length) (fun (i : Nat) a => [(27, .int .i64 i), (6, .ref a 3 0 (cq qs i).length)]) (fun i (a : Nat) h' n' => h' a = some (.row 3 ((cq qs i).map zY ++ List.replicate ((cq qs qs.length).length - (cq qs i).length) twZ)) ∧ nx ≤ a ∧ a < n') (n' + 4) (by simp) ?_ zJ (by omega) ?_
      · exact ⟨by simp, by omega, by omega⟩
      · intro j a tm2 h2 n2 hle2 hJ2 hE2 hn2 next2 hnx2
        obtain ⟨g1, g2, g3⟩ := hJ2
        have k1 : ∀ k, (a = n2 + k) = False := fun k => by simp only [eq_iff_iff, iff_false]; omega
        simp [-qt, -qd, -ql]
        by_cases hlt2 : j < qs.length
        · have hcl := cq_lt hlt2
          have hcs := cq_succ hlt2
          try simp [-qt, -qd, -ql, rgs, twV, hlt2, k1]
          repeat' first | done | ((first | ((with_reducible show zT _ _ _ _ _ _); refine zB rfl fun _ => ?_) | ((with_reducible show zG _ _ _ _ _ _ _); refine zC rfl omA omA ?_) | ((with_reducible show zF4 _ _ _ _ _ _ _ _); refine yF rfl rfl (by decide) (by decide) (by first | (simp [-qt, -qd, -ql, rgs, twV, hlt2, k1]; done) | (simp [-qt, -qd, -ql, rgs, twV, hlt2, k1]; rfl)) (by first | (simp [-qt, -qd, -ql, rgs, twV, hlt2, k1]; done) | (simp [-qt, -qd, -ql, rgs, twV, hlt2, k1]; rfl)) (by first | (simp; done) | (simp; omega)) (by first | (simp only [yM, LIM] at *; simp; omega) | (simp only [yM]; simp; omega)) (by simp [iv, bv]) ?_)) <;> simp [-qt, -qd, -ql, rgs, twV, hlt2, k1]) | ((first | (with_reducible refine zA ?_ ?_)) <;> intro qb <;> (have qp := qb; try simp only [psq] at qp) <;> simp [-qt, -qd, -ql, rgs, twV, hlt2, k1, qb])
          refine app_mid (ws := (cq qs j).map zY ++ List.replicate ((cq qs qs.length).length - (cq qs j).length) twZ) (ys := (gt qs (j : Int)).2.map zY) rfl rfl (by decide) (by decide) ?r1 ?r2 ?r3 ?r4 ?r5 ?_
          case r1 => exact g1
          case r2 => simp
          case r3 => simp
          case r4 => simp only [yM]; simp; omega
          case r5 => simp [zY]
          rw [cq_row hlt2 rfl]
          try simp [-qt, -qd, -ql, rgs]
          repeat' first | done | ((first | ((with_reducible show zT _ _ _ _ _ _); refine zB rfl fun _ => ?_) | ((with_reducible show zG _ _ _ _ _ _ _); refine zC rfl omA omA ?_) | ((with_reducible show zF4 _ _ _ _ _ _ _ _); refine yF rfl rfl (by decide) (by decide) (by first | (simp [-qt, -qd, -ql, rgs]; done) | (simp [-qt, -qd, -ql, rgs]; rfl)) (by first | (simp [-qt, -qd, -ql, rgs]; done) | (simp [-qt, -qd, -ql, rgs]; rfl)) (by first | (simp; done) | (simp; omega)) (by first | (simp only [yM, LIM] at *; simp; omega) | (simp only [yM]; simp; omega)) (by simp [iv, bv]) ?_)) <;> simp [-qt, -qd, -ql, rgs]) | ((first | (with_reducible refine zA ?_ ?_)) <;> intro qb <;> (have qp := qb; try simp only [psq] at qp) <;> simp [-qt, -qd, -ql, rgs, qb])
          refine hnx2.go (n2 + 6) ?_ ?_ ?_ ?_ ?_ ?_
          · omega
          · simp [zM hlt2 hlim, hcs]
          · simp
          · exact zJ
          · first | omega | (simp; omega)
          exact ⟨by simp, by omega, by omega⟩
        · have he : j = qs.length := by omega
          subst he
          try simp [-qt, -qd, -ql, rgs, hlt2, k1]
          repeat' first | done | ((first | ((with_reducible show zT _ _ _ _ _ _); refine zB rfl fun _ => ?_) | ((with_reducible show zG _ _ _ _ _ _ _); refine zC rfl omA omA ?_) | ((with_reducible show zF4 _ _ _ _ _ _ _ _); refine yF rfl rfl (by decide) (by decide) (by first | (simp [-qt, -qd, -ql, rgs, hlt2, k1]; done) | (simp [-qt, -qd, -ql, rgs, hlt2, k1]; rfl)) (by first | (simp [-qt, -qd, -ql, rgs, hlt2, k1]; done) | (simp [-qt, -qd, -ql, rgs, hlt2, k1]; rfl)) (by first | (simp; done) | (simp; omega)) (by first | (simp only [yM, LIM] at *; simp; omega) | (simp only [yM]; simp; omega)) (by simp [iv, bv]) ?_)) <;> simp [-qt, -qd, -ql, rgs, hlt2, k1]) | ((first | (with_reducible refine zA ?_ ?_)) <;> intro qb <;> (have qp := qb; try simp only [psq] at qp) <;> simp [-qt, -qd, -ql, rgs, hlt2, k1, qb])
          exact yN (i := a) zJ (by first | omega | (simp; omega)) g2 (by simp [g1]) rfl (by simp)
theorem f_joined {p q : Bool} {x : Twg} {l r : List Twg} (hl : isH l) (hr : isH r) (hm : l.length + r.length ≤ 1000) : FC ctx.P 329 [.agg (zY x), .view p 3 (l.map zY), .view q 3 (r.map zY)] (.ref 0 3 0 ((zE1 x l r).map zY).length) [.row 3 ((zE1 x l r).map zY)] := by
  refine FC.o1 okC Tryz.func329 rfl (zP yK _) fun h nx hnx => ?_
  by_cases hk : rk0 l < rk0 r
  · have hk2 : ((rk0 l : Int) < (rk0 r : Int)) = True := by simp only [eq_iff_iff, iff_true]; omega
    have hj : zE1 x l r = ⟨x.due, x.seq, r.length⟩ :: (r ++ l) := by simp [zE1, hk]
    try simp [-qt, -qd, -ql, rgs, zY, hk2]
    repeat' first | done | ((first | ((with_reducible show zE _ _ _ 358 _ _); refine zD (c_rank (zP6 hl)) ?_) | ((with_reducible show zE _ _ _ 358 _ _); refine zD (c_rank (zP6 hr)) ?_) | ((with_reducible show zE _ _ _ 359 _ _); refine zD (zG8) ?_)) <;> simp [-qt, -qd, -ql, rgs, zY, hk2]) | ((first | (with_reducible refine zA ?_ ?_)) <;> intro qb <;> (have qp := qb; try simp only [psq] at qp) <;> simp [-qt, -qd, -ql, rgs, zY, hk2, qb])
    refine zF7 (f_concatTwig (p := false) (qs := [(false, [⟨x.due, x.seq, (r.length : Int)⟩]), (q, r), (p, l)]) (by simp [cq]) (by simp [cq]; omega) (by simp)) (fun f => by simp; exact .ref _ _ _ _) (fun e he => by simp at he; subst he; exact zN0 _) (.cons (Bor.row3 (by simp; rfl) (Bor.ref0 (by simp; rfl) rfl rfl) (.same _) (.same _)) .nil) ?_
    try simp [-qt, -qd, -ql, rgs]
    repeat' first | done | ((first | (with_reducible refine zA ?_ ?_)) <;> intro qb <;> (have qp := qb; try simp only [psq] at qp) <;> simp [-qt, -qd, -ql, rgs, qb])
    rw [cq3n]
    exact yN (i := nx + 22) zJ (by first | omega | (simp; done) | (simp; omega)) (by omega) (by simp [hj]) rfl (by simp [hj])
  · have hk2 : ((rk0 l : Int) < (rk0 r : Int)) = False := by simp only [eq_iff_iff, iff_false]; omega
    have hj : zE1 x l r = ⟨x.due, x.seq, l.length⟩ :: (l ++ r) := by simp [zE1, hk]
    try simp [-qt, -qd, -ql, rgs, zY, hk2]
    repeat' first | done | ((first | ((with_reducible show zE _ _ _ 358 _ _); refine zD (c_rank (zP6 hl)) ?_) | ((with_reducible show zE _ _ _ 358 _ _); refine zD (c_rank (zP6 hr)) ?_) | ((with_reducible show zE _ _ _ 359 _ _); refine zD (zG8) ?_)) <;> simp [-qt, -qd, -ql, rgs, zY, hk2]) | ((first | (with_reducible refine zA ?_ ?_)) <;> intro qb <;> (have qp := qb; try simp only [psq] at qp) <;> simp [-qt, -qd, -ql, rgs, zY, hk2, qb])
    refine zF7 (f_concatTwig (p := false) (qs := [(false, [⟨x.due, x.seq, (l.length : Int)⟩]), (p, l), (q, r)]) (by simp [cq]) (by simp [cq]; omega) (by simp)) (fun f => by simp; exact .ref _ _ _ _) (fun e he => by simp at he; subst he; exact zN0 _) (.cons (Bor.row3 (by simp; rfl) (Bor.ref0 (by simp; rfl) rfl rfl) (.same _) (.same _)) .nil) ?_
    try simp [-qt, -qd, -ql, rgs]
    repeat' first | done | ((first | (with_reducible refine zA ?_ ?_)) <;> intro qb <;> (have qp := qb; try simp only [psq] at qp) <;> simp [-qt, -qd, -ql, rgs, qb])
    rw [cq3n]
    exact yN (i := nx + 18) zJ (by first | omega | (simp; done) | (simp; omega)) (by omega) (by simp [hj]) rfl (by simp [hj])
theorem f_mergeN : ∀ (n : Nat) (p q : Bool) (a b : List Twg), a.length + b.length ≤ n → n ≤ 1000 → isH a → isH b → apart a b → FC ctx.P 253 [.view p 3 (a.map zY), .view q 3 (b.map zY)] (.ref 0 3 0 ((zL5 n a b).map zY).length) [.row 3 ((zL5 n a b).map zY)] := by
  intro n
  induction n with
  | zero =>
    intro p q a b hn hm ha hb hd
    obtain rfl : a = [] := List.eq_nil_of_length_eq_zero (by omega)
    obtain rfl : b = [] := List.eq_nil_of_length_eq_zero (by simpa using hn)
    rw [mrgN_l]
    have hc := zH2 (p := q) (xs := []) (by simp [yM])
    refine FC.o1 okC Tryz.func253 rfl (zP yK _) fun h nx hnx => ?_
    try simp [-qt, -qd, -ql, rgs]
    repeat' first | done | ((first | ((with_reducible show zT _ _ _ _ _ _); refine zB rfl fun _ => ?_) | ((with_reducible show zG _ _ _ _ _ _ _); refine zC rfl omA omA ?_) | (refine yA (hc) ?_) | (with_reducible refine zI (i := 5) [(0, [], []), (1, [], []), (2, [], []), (3, [], []), (4, [], []), (5, [], []), (6, [], []), (7, [], [])] (by kernel_rfl) ?_) | (with_reducible refine zI (i := 8) [(0, [], []), (1, [], []), (2, [], []), (3, [], []), (4, [], []), (5, [], []), (6, [.tmp 33], []), (7, [], []), (8, [], [])] (by kernel_rfl) ?_)) <;> simp [-qt, -qd, -ql, rgs]) | ((first | (with_reducible refine zA ?_ ?_)) <;> intro qb <;> (have qp := qb; try simp only [psq] at qp) <;> simp [-qt, -qd, -ql, rgs, qb])
    exact yN (i := nx + 7) zJ (by first | omega | (simp; done) | (simp; omega)) (by omega) (by simp) rfl (by simp)
  | succ n ih =>
    intro p q a b hn hm ha hb hd
    by_cases ha0 : a.length = 0
    · obtain rfl : a = [] := List.eq_nil_of_length_eq_zero ha0
      have hc := zH2 (p := q) (xs := b) (by simp only [yM]; omega)
      rw [mrgN_l]
      refine FC.o1 okC Tryz.func253 rfl (zP yK _) fun h nx hnx => ?_
      try simp [-qt, -qd, -ql, rgs]
      repeat' first | done | ((first | ((with_reducible show zT _ _ _ _ _ _); refine zB rfl fun _ => ?_) | ((with_reducible show zG _ _ _ _ _ _ _); refine zC rfl omA omA ?_) | (refine yA (hc) ?_) | (with_reducible refine zI (i := 5) [(0, [], []), (1, [], []), (2, [], []), (3, [], []), (4, [], []), (5, [], []), (6, [], []), (7, [], [])] (by kernel_rfl) ?_) | (with_reducible refine zI (i := 8) [(0, [], []), (1, [], []), (2, [], []), (3, [], []), (4, [], []), (5, [], []), (6, [.tmp 33], []), (7, [], []), (8, [], [])] (by kernel_rfl) ?_)) <;> simp [-qt, -qd, -ql, rgs]) | ((first | (with_reducible refine zA ?_ ?_)) <;> intro qb <;> (have qp := qb; try simp only [psq] at qp) <;> simp [-qt, -qd, -ql, rgs, qb])
      exact yN (i := nx + 7) zJ (by first | omega | (simp; done) | (simp; omega)) (by omega) (by simp) rfl (by simp)
    have hx0 : ((a.length : Int) == 0) = false := by simp; intro e; exact ha0 (by simp [e])
    by_cases hb0 : b.length = 0
    · obtain rfl : b = [] := List.eq_nil_of_length_eq_zero hb0
      have hc := zH2 (p := p) (xs := a) (by simp only [yM]; omega)
      rw [mrgN_r]
      refine FC.o1 okC Tryz.func253 rfl (zP yK _) fun h nx hnx => ?_
      try simp [-qt, -qd, -ql, rgs, hx0]
      repeat' first | done | ((first | ((with_reducible show zT _ _ _ _ _ _); refine zB rfl fun _ => ?_) | ((with_reducible show zG _ _ _ _ _ _ _); refine zC rfl omA omA ?_) | (refine yA (hc) ?_) | (with_reducible refine zI (i := 5) [(0, [], []), (1, [], []), (2, [], []), (3, [], []), (4, [], []), (5, [], []), (6, [], []), (7, [], [])] (by kernel_rfl) ?_) | (with_reducible refine zI (i := 8) [(0, [], []), (1, [], []), (2, [], []), (3, [], []), (4, [], []), (5, [], []), (6, [.tmp 33], []), (7, [], []), (8, [], [])] (by kernel_rfl) ?_)) <;> simp [-qt, -qd, -ql, rgs, hx0]) | ((first | (with_reducible refine zA ?_ ?_)) <;> intro qb <;> (have qp := qb; try simp only [psq] at qp) <;> simp [-qt, -qd, -ql, rgs, hx0, qb])
      exact yN (i := nx + 10) zJ (by first | omega | (simp; done) | (simp; omega)) (by omega) (by simp) rfl (by simp)
    have hy0 : ((b.length : Int) == 0) = false := by simp; intro e; exact hb0 (by simp [e])
    have ha0 : 0 < a.length := by omega
    have hb0 : 0 < b.length := by omega
    by_cases hyx : lt2 (gt b 0) (gt a 0)
    · have hcmp : (uM (gt b 0) (gt a 0) < 0) = True := by simp only [eq_iff_iff, iff_true]; exact cmp_lt.2 hyx
      have pp := zJ0 hb hb0
      have hl1 := mrgN_len n (b.drop ((gt b 0).lefts.toNat + 1)) a (by omega) pp.2.2.2.1 ha
      rw [mrgN_b ha0 hb0 hyx]
      have hq2 := ih q p (b.drop ((gt b 0).lefts.toNat + 1)) a (by omega) (by omega) pp.2.2.2.1 ha (zD2 (zI5 hd) _)
      have hq3 := mrgN_isH (n := n) (by omega) pp.2.2.2.1 ha (zD2 (zI5 hd) _)
      refine FC.o1 okC Tryz.func253 rfl (zP yK _) fun h nx hnx => ?_
      try simp [-qt, -qd, -ql, rgs, hx0, hy0, hcmp]
      repeat' first | done | ((first | ((with_reducible show zT _ _ _ _ _ _); refine zB rfl fun _ => ?_) | ((with_reducible show zG _ _ _ _ _ _ _); refine zC rfl omA omA ?_) | ((with_reducible show zE _ _ _ 330 _ _); refine zD (c_compare) ?_) | ((with_reducible show zE _ _ _ 327 _ _); refine zD (zJ4 hb0 pp.1 pp.2.1) ?_) | (refine yA (hq2) ?_) | (with_reducible refine zI (i := 5) [(0, [], []), (1, [], []), (2, [], []), (3, [], []), (4, [], []), (5, [], []), (6, [], []), (7, [], [])] (by kernel_rfl) ?_) | (with_reducible refine zI (i := 8) [(0, [], []), (1, [], []), (2, [], []), (3, [], []), (4, [], []), (5, [], []), (6, [.tmp 33], []), (7, [], []), (8, [], [])] (by kernel_rfl) ?_)) <;> simp [-qt, -qd, -ql, rgs, hx0, hy0, hcmp]) | ((first | (with_reducible refine zA ?_ ?_)) <;> intro qb <;> (have qp := qb; try simp only [psq] at qp) <;> simp [-qt, -qd, -ql, rgs, hx0, hy0, hcmp, qb])
      refine zF7 (f_joined (p := q) (q := false) pp.2.2.1 hq3 (by omega)) (fun f => by simp; exact .ref _ _ _ _) (fun e he => by simp at he; subst he; exact zN0 _) (.cons (.same _) (.cons (.same _) (.cons (Bor.ref0 (by first | (simp; done) | (simp; rfl)) rfl (by simp)) .nil))) ?_
      try simp [-qt, -qd, -ql, rgs]
      repeat' first | done | ((first | ((with_reducible show zT _ _ _ _ _ _); refine zB rfl fun _ => ?_) | ((with_reducible show zG _ _ _ _ _ _ _); refine zC rfl omA omA ?_) | (with_reducible refine zI (i := 5) [(0, [], []), (1, [], []), (2, [], []), (3, [], []), (4, [], []), (5, [], []), (6, [], []), (7, [], [])] (by kernel_rfl) ?_) | (with_reducible refine zI (i := 8) [(0, [], []), (1, [], []), (2, [], []), (3, [], []), (4, [], []), (5, [], []), (6, [.tmp 33], []), (7, [], []), (8, [], [])] (by kernel_rfl) ?_)) <;> simp [-qt, -qd, -ql, rgs]) | ((first | (with_reducible refine zA ?_ ?_)) <;> intro qb <;> (have qp := qb; try simp only [psq] at qp) <;> simp [-qt, -qd, -ql, rgs, qb])
      exact yN zJ (by first | omega | (simp; done) | (simp; omega)) (by omega) (by simp) rfl (by simp)
    · have hcmp : (uM (gt b 0) (gt a 0) < 0) = False := by simp only [eq_iff_iff, iff_false]; exact fun h => hyx (cmp_lt.1 h)
      have pp := zJ0 ha ha0
      have hl1 := mrgN_len n (a.drop ((gt a 0).lefts.toNat + 1)) b (by omega) pp.2.2.2.1 hb
      rw [mrgN_a ha0 hb0 hyx]
      have hq2 := ih p q (a.drop ((gt a 0).lefts.toNat + 1)) b (by omega) (by omega) pp.2.2.2.1 hb (zD2 hd _)
      have hq3 := mrgN_isH (n := n) (by omega) pp.2.2.2.1 hb (zD2 hd _)
      refine FC.o1 okC Tryz.func253 rfl (zP yK _) fun h nx hnx => ?_
      try simp [-qt, -qd, -ql, rgs, hx0, hy0, hcmp]
      repeat' first | done | ((first | ((with_reducible show zT _ _ _ _ _ _); refine zB rfl fun _ => ?_) | ((with_reducible show zG _ _ _ _ _ _ _); refine zC rfl omA omA ?_) | ((with_reducible show zE _ _ _ 330 _ _); refine zD (c_compare) ?_) | ((with_reducible show zE _ _ _ 327 _ _); refine zD (zJ4 ha0 pp.1 pp.2.1) ?_) | (refine yA (hq2) ?_) | (with_reducible refine zI (i := 5) [(0, [], []), (1, [], []), (2, [], []), (3, [], []), (4, [], []), (5, [], []), (6, [], []), (7, [], [])] (by kernel_rfl) ?_) | (with_reducible refine zI (i := 8) [(0, [], []), (1, [], []), (2, [], []), (3, [], []), (4, [], []), (5, [], []), (6, [.tmp 33], []), (7, [], []), (8, [], [])] (by kernel_rfl) ?_)) <;> simp [-qt, -qd, -ql, rgs, hx0, hy0, hcmp]) | ((first | (with_reducible refine zA ?_ ?_)) <;> intro qb <;> (have qp := qb; try simp only [psq] at qp) <;> simp [-qt, -qd, -ql, rgs, hx0, hy0, hcmp, qb])
      refine zF7 (f_joined (p := p) (q := false) pp.2.2.1 hq3 (by omega)) (fun f => by simp; exact .ref _ _ _ _) (fun e he => by simp at he; subst he; exact zN0 _) (.cons (.same _) (.cons (.same _) (.cons (Bor.ref0 (by first | (simp; done) | (simp; rfl)) rfl (by simp)) .nil))) ?_
      try simp [-qt, -qd, -ql, rgs]
      repeat' first | done | ((first | ((with_reducible show zT _ _ _ _ _ _); refine zB rfl fun _ => ?_) | ((with_reducible show zG _ _ _ _ _ _ _); refine zC rfl omA omA ?_) | (with_reducible refine zI (i := 5) [(0, [], []), (1, [], []), (2, [], []), (3, [], []), (4, [], []), (5, [], []), (6, [], []), (7, [], [])] (by kernel_rfl) ?_) | (with_reducible refine zI (i := 8) [(0, [], []), (1, [], []), (2, [], []), (3, [], []), (4, [], []), (5, [], []), (6, [.tmp 33], []), (7, [], []), (8, [], [])] (by kernel_rfl) ?_)) <;> simp [-qt, -qd, -ql, rgs]) | ((first | (with_reducible refine zA ?_ ?_)) <;> intro qb <;> (have qp := qb; try simp only [psq] at qp) <;> simp [-qt, -qd, -ql, rgs, qb])
      exact yN zJ (by first | omega | (simp; done) | (simp; omega)) (by omega) (by simp) rfl (by simp)
theorem f_merge {p q : Bool} {a b : List Twg} (hl : a.length + b.length ≤ 1000) (ha : isH a) (hb : isH b) (hd : apart a b) : FC ctx.P 253 [.view p 3 (a.map zY), .view q 3 (b.map zY)] (.ref 0 3 0 ((mrg a b).map zY).length) [.row 3 ((mrg a b).map zY)] :=
  f_mergeN _ p q a b (Nat.le_refl _) hl ha hb hd
theorem f_put {p : Bool} {a : List Twg} {d s : Int} (hl : a.length ≤ 900) (ha : isH a) (hd : ∀ x ∈ a, x.seq ≠ s) : FC ctx.P 141 [.view p 3 (a.map zY), .int .i64 d, .int .i64 s] (.ref 0 3 0 ((putH a d s).map zY).length) [.row 3 ((putH a d s).map zY)] := by
  refine FC.o1 okC Tryz.func141 rfl (zP yK _) fun h nx hnx => ?_
  try simp [-qt, -qd, -ql, rgs]
  refine zF7 (f_merge (p := p) (q := false) (b := [⟨d, s, 0⟩]) (by simp; omega) ha (isH_one d s) (fun x hx y hy => by simp at hy; subst hy; exact hd x hx)) (fun f => by simp; exact .ref _ _ _ _) (fun e he => by simp at he; subst he; exact zN0 _) (.cons (.same _) (.cons (Bor.ref0 (by first | (simp; done) | (simp; rfl)) rfl rfl) .nil)) ?_
  try simp [-qt, -qd, -ql, rgs]
  exact yN zJ (by first | omega | (simp; done) | (simp; omega)) (by omega) (by simp [putH]) rfl (by simp [putH])
theorem f_withoutN : ∀ (n : Nat) (p : Bool) (a : List Twg) (s : Int), a.length ≤ n → n ≤ 900 → isH a → once a → (∃ x ∈ a, x.seq = s) → FC ctx.P 252 [.view p 3 (a.map zY), .int .i64 s] (.ref 0 3 0 ((woN n a s).map zY).length) [.row 3 ((woN n a s).map zY)] := by
  intro n
  induction n with
  | zero =>
    intro p a s hn hm ha ho hx
    obtain rfl : a = [] := List.eq_nil_of_length_eq_zero (by omega)
    obtain ⟨x, hx, _⟩ := hx
    simp at hx
  | succ n ih =>
    intro p a s hn hm ha ho hx
    have ha0 : 0 < a.length := by
      obtain ⟨x, hx, _⟩ := hx
      exact List.length_pos_of_mem hx
    have pp := zJ0 ha ha0
    obtain ⟨o1, o2, o3, o4⟩ := once_part ho ha0 (k := (gt a 0).lefts.toNat)
    by_cases h1 : (gt a 0).seq = s
    · rw [woN_1 ha0 h1]
      have h1b : ((gt a 0).seq == s) = true := by simpa using h1
      refine FC.o1 okC Tryz.func252 rfl (zP yK _) fun h nx hnx => ?_
      try simp [-qt, -qd, -ql, rgs, zY, h1b]
      repeat' first | done | ((first | ((with_reducible show zG _ _ _ _ _ _ _); refine zC rfl omA omA ?_) | ((with_reducible show zE _ _ _ 327 _ _); refine zD (zJ4 ha0 pp.1 pp.2.1) ?_) | ((with_reducible show zE _ _ _ 253 _ _); refine yA (f_merge (by omega) pp.2.2.1 pp.2.2.2.1 o3) ?_)) <;> simp [-qt, -qd, -ql, rgs, zY, h1b]) | ((first | (with_reducible refine zA ?_ ?_)) <;> intro qb <;> (have qp := qb; try simp only [psq] at qp) <;> simp [-qt, -qd, -ql, rgs, zY, h1b, qb])
      exact yN zJ (by first | omega | (simp; done) | (simp; omega)) (by omega) (by simp) rfl (by simp)
    · have h1b : ((gt a 0).seq == s) = false := by simpa using h1
      by_cases h2 : ∃ x ∈ a.tail.take (gt a 0).lefts.toNat, x.seq = s
      · rw [woN_2 ha0 h1 h2]
        have h2b : (0 ≤ zG7 (a.tail.take (gt a 0).lefts.toNat) s) = True := by simp only [eq_iff_iff, iff_true]; exact seqAt_pos.2 h2
        obtain ⟨w1, w2⟩ := woN_sub (n := n) (by omega) pp.2.2.1 o1 h2
        refine FC.o1 okC Tryz.func252 rfl (zP yK _) fun h nx hnx => ?_
        try simp [-qt, -qd, -ql, rgs, zY, h1b, h2b]
        repeat' first | done | ((first | ((with_reducible show zG _ _ _ _ _ _ _); refine zC rfl omA omA ?_) | ((with_reducible show zE _ _ _ 327 _ _); refine zD (zJ4 ha0 pp.1 pp.2.1) ?_) | ((with_reducible show zE _ _ _ 328 _ _); refine zD (c_seqAt) ?_) | (refine yA (ih p _ s (by omega) (by omega) pp.2.2.1 o1 h2) ?_)) <;> simp [-qt, -qd, -ql, rgs, zY, h1b, h2b]) | ((first | (with_reducible refine zA ?_ ?_)) <;> intro qb <;> (have qp := qb; try simp only [psq] at qp) <;> simp [-qt, -qd, -ql, rgs, zY, h1b, h2b, qb])
        refine zF7 (f_joined (p := false) (q := p) w1 pp.2.2.2.1 (by have := pp.2.2.2.2; omega)) (fun f => by simp; exact .ref _ _ _ _) (fun e he => by simp at he; subst he; exact zN0 _) (.cons (.same _) (.cons (Bor.ref0 (by first | (simp; done) | (simp; rfl)) rfl (by simp)) (.cons (.same _) .nil))) ?_
        try simp [-qt, -qd, -ql, rgs]
        repeat' first | done | ((first | ((with_reducible show zG _ _ _ _ _ _ _); refine zC rfl omA omA ?_)) <;> simp [-qt, -qd, -ql, rgs]) | ((first | (with_reducible refine zA ?_ ?_)) <;> intro qb <;> (have qp := qb; try simp only [psq] at qp) <;> simp [-qt, -qd, -ql, rgs, qb])
        exact yN zJ (by first | omega | (simp; done) | (simp; omega)) (by omega) (by simp) rfl (by simp)
      · have h3 := once_in ha0 h1 h2 hx
        rw [woN_3 ha0 h1 h2]
        have h2b : (0 ≤ zG7 (a.tail.take (gt a 0).lefts.toNat) s) = False := by simp only [eq_iff_iff, iff_false]; exact fun h => h2 (seqAt_pos.1 h)
        obtain ⟨w1, w2⟩ := woN_sub (n := n) (by omega) pp.2.2.2.1 o2 h3
        refine FC.o1 okC Tryz.func252 rfl (zP yK _) fun h nx hnx => ?_
        try simp [-qt, -qd, -ql, rgs, zY, h1b, h2b]
        repeat' first | done | ((first | ((with_reducible show zG _ _ _ _ _ _ _); refine zC rfl omA omA ?_) | ((with_reducible show zE _ _ _ 327 _ _); refine zD (zJ4 ha0 pp.1 pp.2.1) ?_) | ((with_reducible show zE _ _ _ 328 _ _); refine zD (c_seqAt) ?_) | (refine yA (ih p _ s (by omega) (by omega) pp.2.2.2.1 o2 h3) ?_)) <;> simp [-qt, -qd, -ql, rgs, zY, h1b, h2b]) | ((first | (with_reducible refine zA ?_ ?_)) <;> intro qb <;> (have qp := qb; try simp only [psq] at qp) <;> simp [-qt, -qd, -ql, rgs, zY, h1b, h2b, qb])
        refine zF7 (f_joined (p := p) (q := false) pp.2.2.1 w1 (by have := pp.2.2.2.2; omega)) (fun f => by simp; exact .ref _ _ _ _) (fun e he => by simp at he; subst he; exact zN0 _) (.cons (.same _) (.cons (.same _) (.cons (Bor.ref0 (by first | (simp; done) | (simp; rfl)) rfl (by simp)) .nil))) ?_
        try simp [-qt, -qd, -ql, rgs]
        repeat' first | done | ((first | ((with_reducible show zG _ _ _ _ _ _ _); refine zC rfl omA omA ?_)) <;> simp [-qt, -qd, -ql, rgs]) | ((first | (with_reducible refine zA ?_ ?_)) <;> intro qb <;> (have qp := qb; try simp only [psq] at qp) <;> simp [-qt, -qd, -ql, rgs, qb])
        exact yN zJ (by first | omega | (simp; done) | (simp; omega)) (by omega) (by simp) rfl (by simp)
theorem f_without {p : Bool} {a : List Twg} {s : Int} (hm : a.length ≤ 900) (ha : isH a) (ho : once a) (hx : ∃ x ∈ a, x.seq = s) : FC ctx.P 252 [.view p 3 (a.map zY), .int .i64 s] (.ref 0 3 0 ((wo a s).map zY).length) [.row 3 ((wo a s).map zY)] :=
  f_withoutN _ p a s (Nat.le_refl _) hm ha ho hx
end Go.AE.Tryz
end

section
/- Contracts of the program's changes of timers. -/
set_option maxRecDepth 8000
set_option maxHeartbeats 4000000
namespace Go.AE.Tryz
open Go.Proofs
open List renaming map_take → qt, map_drop → qd, map_tail → ql
theorem m_stop {X : WI} {w : Wld} {p : Nat} {s : Int} (ht : vJ w.timers = true) : AC ctx.P 140 [.ptr p 6, .int .i64 s]
    (fun h _ => h p = some (.obj (zF9 X w)) ∧ WV h X w) (TmsQ p X { w with timers := vE w.timers s } (zD0 w.timers s)) := by
  obtain ⟨-, t2, t3, -, -, -⟩ := zC0.1 ht
  refine AC.o okC Tryz.func140 rfl fun h nx hfr hnx hpre => ?_
  obtain ⟨o1, V1⟩ := hpre
  have hp : p < nx := hnx p (by rw [o1]; simp)
  have hpX := V1.obj o1
  have hin := V1.lt hnx
  have t5 := V1.top 5 (by omega)
  have t6 := V1.top 6 (by omega)
  simp only [wRow] at t5 t6
  have o0 := o1
  simp only [zF9] at o1
  have hl := vU w.timers.list s
  have l5 := hin _ (WI.top_mem (X := X) (k := 5) (by omega))
  have l6 := hin _ (WI.top_mem (X := X) (k := 6) (by omega))
  have k1 : ∀ k, (p = nx + k) = False := fun k => by simp only [eq_iff_iff, iff_false]; omega
  have k2 : ∀ k, (X.top 5 = nx + k) = False := fun k => by simp only [eq_iff_iff, iff_false]; omega
  have k3 : ∀ k, (X.top 6 = nx + k) = False := fun k => by simp only [eq_iff_iff, iff_false]; omega
  have k4 : (p = X.top 5) = False := by simp only [eq_iff_iff, iff_false]; exact fun e => hpX (e ▸ WI.top_mem (by omega))
  have k5 : (p = X.top 6) = False := by simp only [eq_iff_iff, iff_false]; exact fun e => hpX (e ▸ WI.top_mem (by omega))
  have k6 : (X.top 5 = X.top 6) = False := by simp only [eq_iff_iff, iff_false]; exact fun e => absurd (V1.top_inj (by omega) (by omega) e) (by omega)
  try simp [-qt, -qd, -ql, rgs, o1]
  repeat' first | done | ((first | ((with_reducible show zG _ _ _ _ _ _ _); refine zC rfl omA omA ?_)) <;> simp [-qt, -qd, -ql, rgs, o1]) | ((first | (with_reducible refine zH ?_ ?_) | (with_reducible refine zA ?_ ?_)) <;> intro qb <;> (have qp := qb; try simp only [psq] at qp) <;> simp [-qt, -qd, -ql, rgs, o1, qb])
  refine yL (c_tmsAt (F := FF) (t := w.timers) (s := s)) (.int _ _) ?hb ?_
  case hb => exact .cons (.agg1 (.cons (.ref0 t5 (by simp) (by simp)) (.cons (.ref0 t6 (by simp) (by simp)) (.cons (.same _) .nil)))) (.cons (.same _) .nil)
  by_cases h0 : 0 ≤ zU w.timers.list s
  · have hn : (zU w.timers.list s < 0) = False := by simp only [eq_iff_iff, iff_false]; omega
    have hsb : zD0 w.timers s = (gt w.timers.list (zU w.timers.list s)).armed := by simp [zD0, h0]
    have hg : (w.timers.list.map yO)[(zU w.timers.list s).toNat]? = some (yO (gt w.timers.list (zU w.timers.list s))) := by rw [List.getElem?_map, zH6 h0 hl]; rfl
    by_cases hb : zD0 w.timers s = true
    · have ha : (gt w.timers.list (zU w.timers.list s)).armed = true := by rw [← hsb]; exact hb
      rw [hb]
      try simp [-qt, -qd, -ql, rgs, o1, t6, hn, ha, k1, k2, k3, k4, k5, k6]
      repeat' first | done | ((first | ((with_reducible show zG _ _ _ _ _ _ _); refine zC rfl omA omA ?_) | (((with_reducible show zG _ _ _ _ (.ref _ _ _ _) _ _); refine yI rfl (by omega) (by omega) ?_)) | (((with_reducible show loadE _ _ _ _ _ _ _ _); refine zP5 hg ?_))) <;> simp [-qt, -qd, -ql, rgs, o1, t6, hn, ha, k1, k2, k3, k4, k5, k6]) | ((first | (with_reducible refine zH ?_ ?_) | (with_reducible refine zA ?_ ?_)) <;> intro qb <;> (have qp := qb; try simp only [psq] at qp) <;> simp [-qt, -qd, -ql, rgs, o1, t6, hn, ha, k1, k2, k3, k4, k5, k6, qb])
      refine zI3 (sz := 5) (xs := w.timers.list.map yO) (cells := yO (gt w.timers.list (zU w.timers.list s))) (by simp [t6]) (by simp) rfl (by decide) hg ?_
      rw [show splice (yO (gt w.timers.list (zU w.timers.list s))) 4 [.bool false] = yO (zO2 (gt w.timers.list (zU w.timers.list s))) from rfl]
      have hsl : (w.timers.list.map yO).set (zU w.timers.list s).toNat (yO (zO2 (gt w.timers.list (zU w.timers.list s)))) = (vE w.timers s).list.map yO := by rw [← List.map_set]; simp [vE, hb]
      have hsh : (vE w.timers s).heap = wo w.timers.heap s := by simp [vE, hb]
      have hsn : (vE w.timers s).next = w.timers.next := stopT_next
      have hsll : (vE w.timers s).list.length = w.timers.list.length := zP7
      rw [hsl]
      try simp [-qt, -qd, -ql, rgs, o1, k1, k2, k3, k4, k5, k6]
      repeat' first | done | ((first | ((with_reducible show zG _ _ _ _ _ _ _); refine zC rfl omA omA ?_)) <;> simp [-qt, -qd, -ql, rgs, o1, k1, k2, k3, k4, k5, k6]) | ((first | (with_reducible refine zH ?_ ?_) | (with_reducible refine zA ?_ ?_)) <;> intro qb <;> (have qp := qb; try simp only [psq] at qp) <;> simp [-qt, -qd, -ql, rgs, o1, k1, k2, k3, k4, k5, k6, qb])
      refine zF7 (f_without (p := false) (a := w.timers.heap) (s := s) (by omega) t3.2.2 t3.2.1 ((heap_has ht s).2 hb)) (fun f => by simp; exact .ref _ _ _ _) (fun e he => by simp at he; subst he; exact zN0 _) (.cons (Bor.ref0 (by simp [t5, k6]) (by simp) (by simp)) (.cons (.same _) .nil)) ?_
      try simp [-qt, -qd, -ql, rgs, o1, k1, k2, k3, k4, k5, k6]
      repeat' first | done | ((first | ((with_reducible show zG _ _ _ _ _ _ _); refine zC rfl omA omA ?_)) <;> simp [-qt, -qd, -ql, rgs, o1, k1, k2, k3, k4, k5, k6]) | ((first | (with_reducible refine zH ?_ ?_) | (with_reducible refine zA ?_ ?_)) <;> intro qb <;> (have qp := qb; try simp only [psq] at qp) <;> simp [-qt, -qd, -ql, rgs, o1, k1, k2, k3, k4, k5, k6, qb])
      have hp6 : X.top 6 ≠ p := fun e => hpX (e ▸ WI.top_mem (by omega))
      refine ⟨rfl, ⟨X.setTop 5 (nx + 38), ?_, V1.newTop [6] (by omega) (fun hm => by have := hin _ hm; omega) ?_ (by simp) (fun k hk => ?_) (fun k hk hS hne => ?_) rfl rfl (fun j hj hS hne => ?_), fun j hj => ?_⟩, fun j hj hjp hjX => ?_⟩
      · rw [zL]; simp [zF9, WI.setTop, hsh, hsn, hsll]
      · rw [zK _ _ _ _ (by omega), zL]; simp [wRow, hsh]
      · simp only [List.mem_cons, List.not_mem_nil, or_false] at hk; subst hk
        rw [zK _ _ _ _ hp6, zK _ _ _ _ (by omega), zL]; rfl
      · rcases lt15 hk with rfl | rfl | rfl | rfl | rfl | rfl | rfl | rfl | rfl | rfl | rfl | rfl | rfl | rfl | rfl <;> first | rfl | exact absurd (by decide) hS | exact absurd rfl hne
      · have := hin j hj
        rw [zK _ _ _ _ (fun (e : j = p) => hpX (e ▸ hj)), zK _ _ _ _ (by omega), zK _ _ _ _ (hS 6 (by simp))]
      · rcases WI.setTop_ids hj with q | q
        · exact .inl q
        · right; omega
      · rw [zK _ _ _ _ hjp, zK _ _ _ _ (by omega), zK _ _ _ _ (fun (e : j = X.top 6) => hjX (e ▸ WI.top_mem (by omega)))]
    · have hb2 : zD0 w.timers s = false := by simpa using hb
      have ha : (gt w.timers.list (zU w.timers.list s)).armed = false := by rw [← hsb]; exact hb2
      rw [hb2, stopT_not hb]
      try simp [-qt, -qd, -ql, rgs, o1, t6, hn, ha, k1, k2, k3, k4, k5, k6]
      repeat' first | done | ((first | ((with_reducible show zG _ _ _ _ _ _ _); refine zC rfl omA omA ?_) | (((with_reducible show zG _ _ _ _ (.ref _ _ _ _) _ _); refine yI rfl (by omega) (by omega) ?_)) | (((with_reducible show loadE _ _ _ _ _ _ _ _); refine zP5 hg ?_))) <;> simp [-qt, -qd, -ql, rgs, o1, t6, hn, ha, k1, k2, k3, k4, k5, k6]) | ((first | (with_reducible refine zH ?_ ?_) | (with_reducible refine zA ?_ ?_)) <;> intro qb <;> (have qp := qb; try simp only [psq] at qp) <;> simp [-qt, -qd, -ql, rgs, o1, t6, hn, ha, k1, k2, k3, k4, k5, k6, qb])
      exact ⟨rfl, ⟨X, o0, V1, fun id h => .inl h⟩, fun j _ _ _ => rfl⟩
  · have hn : (zU w.timers.list s < 0) = True := by simp only [eq_iff_iff, iff_true]; omega
    have hb : ¬ zD0 w.timers s = true := by simp [zD0]; omega
    have hb2 : zD0 w.timers s = false := by simpa using hb
    rw [hb2, stopT_not hb]
    try simp [-qt, -qd, -ql, rgs, o1, hn]
    repeat' first | done | ((first | ((with_reducible show zG _ _ _ _ _ _ _); refine zC rfl omA omA ?_)) <;> simp [-qt, -qd, -ql, rgs, o1, hn]) | ((first | (with_reducible refine zH ?_ ?_) | (with_reducible refine zA ?_ ?_)) <;> intro qb <;> (have qp := qb; try simp only [psq] at qp) <;> simp [-qt, -qd, -ql, rgs, o1, hn, qb])
    exact ⟨rfl, ⟨X, o0, V1, fun id h => .inl h⟩, fun j _ _ _ => rfl⟩
theorem m_reset {X : WI} {w : Wld} {p : Nat} {s d : Int} (ht : vJ w.timers = true) (h0 : 0 ≤ zU w.timers.list s) : AC ctx.P 51 [.ptr p 6, .int .i64 s, .int .i64 d]
    (fun h _ => h p = some (.obj (zF9 X w)) ∧ WV h X w) (TmsQ p X { w with timers := vX w.timers s d } (zD0 w.timers s)) := by
  have hl := vU w.timers.list s
  obtain ⟨s1, s2⟩ := zL8 (s := s) ht
  have s3 := stop_room ht h0
  have hsq := stopT_seq h0 s
  have hsl := zP7 (t := w.timers) (s := s)
  have hat := stopT_at h0
  have hsn : (vE w.timers s).next = w.timers.next := stopT_next
  have hlen : zU w.timers.list s < ((vE w.timers s).list.length : Int) := by omega
  obtain ⟨-, -, u3, -, -, -⟩ := zC0.1 s1
  have hg : ((vE w.timers s).list.map yO)[(zU w.timers.list s).toNat]? = some (yO (zO2 (gt w.timers.list (zU w.timers.list s)))) := by rw [List.getElem?_map, zH6 h0 hlen, hat]; rfl
  have hrl : (vX w.timers s d).list = (vE w.timers s).list.set (zU w.timers.list s).toNat (onT (gt w.timers.list (zU w.timers.list s)) d) := by rw [stopT_list h0]; simp [vX, h0]
  have hrh : (vX w.timers s d).heap = putH (vE w.timers s).heap d s := by simp [vX, h0]
  have hrn : (vX w.timers s d).next = w.timers.next := by simp [vX, h0]
  have hstop := fun X p => m_stop (X := X) (p := p) (w := w) (s := s) ht
  have hats : zU (vE w.timers s).list s = zU w.timers.list s := hsq
  have hcat := c_tmsAt (F := FF) (t := vE w.timers s) (s := s)
  rw [hats] at hcat
  generalize vX w.timers s d = t' at *
  generalize vE w.timers s = t1 at *
  refine AC.o okC Tryz.func51 rfl fun h nx hfr hnx hpre => ?_
  obtain ⟨o1, V1⟩ := hpre
  have hp : p < nx := hnx p (by rw [o1]; simp)
  try simp [-qt, -qd, -ql, rgs]
  repeat' first | done | ((first | ((with_reducible show zG _ _ _ _ _ _ _); refine zC rfl omA omA ?_) | (with_reducible refine zI (i := 4) [(0, [], []), (1, [], []), (2, [], []), (3, [], []), (4, [], []), (5, [], []), (6, [], []), (7, [], []), (8, [], []), (9, [], []), (10, [], []), (11, [], []), (12, [], []), (13, [], []), (14, [], []), (15, [], []), (16, [], [])] (by kernel_rfl) ?_)) <;> simp [-qt, -qd, -ql, rgs]) | ((first | (with_reducible refine zA ?_ ?_)) <;> intro qb <;> (have qp := qb; try simp only [psq] at qp) <;> simp [-qt, -qd, -ql, rgs, qb])
  refine vB (hstop X p) ⟨o1, V1⟩ ?_
  rintro r h1 n1 ⟨rfl, ⟨X1, o2, V2, hid⟩, hf1⟩ hle1 hfr1
  dsimp only at hid hf1 hle1
  have hpX := V2.obj o2
  have hin : ∀ j ∈ X1.ids, j < n1 := fun j hj => by rcases hid j hj with q | q; have := V1.lt hnx j q; omega; omega
  have t5 := V2.top 5 (by omega)
  have t6 := V2.top 6 (by omega)
  simp only [wRow] at t5 t6
  have o0 := o2
  simp only [zF9] at o2
  have l5 := hin _ (WI.top_mem (X := X1) (k := 5) (by omega))
  have l6 := hin _ (WI.top_mem (X := X1) (k := 6) (by omega))
  have k1 : ∀ k, (p = n1 + k) = False := fun k => by simp only [eq_iff_iff, iff_false]; omega
  have k2 : ∀ k, (X1.top 5 = n1 + k) = False := fun k => by simp only [eq_iff_iff, iff_false]; omega
  have k3 : ∀ k, (X1.top 6 = n1 + k) = False := fun k => by simp only [eq_iff_iff, iff_false]; omega
  have k4 : (p = X1.top 5) = False := by simp only [eq_iff_iff, iff_false]; exact fun e => hpX (e ▸ WI.top_mem (by omega))
  have k5 : (p = X1.top 6) = False := by simp only [eq_iff_iff, iff_false]; exact fun e => hpX (e ▸ WI.top_mem (by omega))
  have k6 : (X1.top 5 = X1.top 6) = False := by simp only [eq_iff_iff, iff_false]; exact fun e => absurd (V2.top_inj (by omega) (by omega) e) (by omega)
  try simp [-qt, -qd, -ql, rgs, o2]
  repeat' first | done | ((first | ((with_reducible show zG _ _ _ _ _ _ _); refine zC rfl omA omA ?_) | (with_reducible refine zI (i := 4) [(0, [], []), (1, [], []), (2, [], []), (3, [], []), (4, [], []), (5, [], []), (6, [], []), (7, [], []), (8, [], []), (9, [], []), (10, [], []), (11, [], []), (12, [], []), (13, [], []), (14, [], []), (15, [], []), (16, [], [])] (by kernel_rfl) ?_)) <;> simp [-qt, -qd, -ql, rgs, o2]) | ((first | (with_reducible refine zA ?_ ?_)) <;> intro qb <;> (have qp := qb; try simp only [psq] at qp) <;> simp [-qt, -qd, -ql, rgs, o2, qb])
  refine yL hcat (.int _ _) ?hb ?_
  case hb => exact .cons (.agg1 (.cons (.ref0 t5 (by simp) (by simp)) (.cons (.ref0 t6 (by simp) (by simp)) (.cons (.same _) .nil)))) (.cons (.same _) .nil)
  have hn : (0 ≤ zU w.timers.list s) = True := by simp [h0]
  try simp [-qt, -qd, -ql, rgs, o2, t6, hn, k1, k2, k3, k4, k5, k6]
  repeat' first | done | ((first | ((with_reducible show zG _ _ _ _ _ _ _); refine zC rfl omA omA ?_) | (((with_reducible show zG _ _ _ _ (.ref _ _ _ _) _ _); refine yI rfl (by omega) (by omega) ?_)) | (with_reducible refine zI (i := 4) [(0, [], []), (1, [], []), (2, [], []), (3, [], []), (4, [], []), (5, [], []), (6, [], []), (7, [], []), (8, [], []), (9, [], []), (10, [], []), (11, [], []), (12, [], []), (13, [], []), (14, [], []), (15, [], []), (16, [], [])] (by kernel_rfl) ?_)) <;> simp [-qt, -qd, -ql, rgs, o2, t6, hn, k1, k2, k3, k4, k5, k6]) | ((first | (with_reducible refine zA ?_ ?_)) <;> intro qb <;> (have qp := qb; try simp only [psq] at qp) <;> simp [-qt, -qd, -ql, rgs, o2, t6, hn, k1, k2, k3, k4, k5, k6, qb])
  refine zI3 (sz := 5) (xs := t1.list.map yO) (cells := yO (zO2 (gt w.timers.list (zU w.timers.list s)))) (by simp [t6]) (by simp) rfl (by decide) hg ?_
  rw [show splice (yO (zO2 (gt w.timers.list (zU w.timers.list s)))) 1 [.int .i64 d] = yO (zO2 (onT (gt w.timers.list (zU w.timers.list s)) d)) from rfl]
  have hg2 : ((t1.list.map yO).set (zU w.timers.list s).toNat (yO (zO2 (onT (gt w.timers.list (zU w.timers.list s)) d))))[(zU w.timers.list s).toNat]? = some (yO (zO2 (onT (gt w.timers.list (zU w.timers.list s)) d))) := by rw [List.getElem?_set_self (by simp; omega)]
  try simp [-qt, -qd, -ql, rgs, o2, t6, hn, k1, k2, k3, k4, k5, k6]
  repeat' first | done | ((first | ((with_reducible show zG _ _ _ _ _ _ _); refine zC rfl omA omA ?_) | (((with_reducible show zG _ _ _ _ (.ref _ _ _ _) _ _); refine yI rfl (by omega) (by omega) ?_)) | (with_reducible refine zI (i := 4) [(0, [], []), (1, [], []), (2, [], []), (3, [], []), (4, [], []), (5, [], []), (6, [], []), (7, [], []), (8, [], []), (9, [], []), (10, [], []), (11, [], []), (12, [], []), (13, [], []), (14, [], []), (15, [], []), (16, [], [])] (by kernel_rfl) ?_)) <;> simp [-qt, -qd, -ql, rgs, o2, t6, hn, k1, k2, k3, k4, k5, k6]) | ((first | (with_reducible refine zA ?_ ?_)) <;> intro qb <;> (have qp := qb; try simp only [psq] at qp) <;> simp [-qt, -qd, -ql, rgs, o2, t6, hn, k1, k2, k3, k4, k5, k6, qb])
  refine zI3 (sz := 5) (cells := yO (zO2 (onT (gt w.timers.list (zU w.timers.list s)) d))) (by simp) (by simp) rfl (by decide) hg2 ?_
  rw [show splice (yO (zO2 (onT (gt w.timers.list (zU w.timers.list s)) d))) 4 [.bool true] = yO (onT (gt w.timers.list (zU w.timers.list s)) d) from rfl, List.set_set]
  have hr2 : (t1.list.map yO).set (zU w.timers.list s).toNat (yO (onT (gt w.timers.list (zU w.timers.list s)) d)) = t'.list.map yO := by rw [← List.map_set, hrl]
  rw [hr2]
  try simp [-qt, -qd, -ql, rgs, o2, k1, k2, k3, k4, k5, k6]
  repeat' first | done | ((first | ((with_reducible show zG _ _ _ _ _ _ _); refine zC rfl omA omA ?_) | (with_reducible refine zI (i := 4) [(0, [], []), (1, [], []), (2, [], []), (3, [], []), (4, [], []), (5, [], []), (6, [], []), (7, [], []), (8, [], []), (9, [], []), (10, [], []), (11, [], []), (12, [], []), (13, [], []), (14, [], []), (15, [], []), (16, [], [])] (by kernel_rfl) ?_)) <;> simp [-qt, -qd, -ql, rgs, o2, k1, k2, k3, k4, k5, k6]) | ((first | (with_reducible refine zA ?_ ?_)) <;> intro qb <;> (have qp := qb; try simp only [psq] at qp) <;> simp [-qt, -qd, -ql, rgs, o2, k1, k2, k3, k4, k5, k6, qb])
  refine zF7 (f_put (p := false) (a := t1.heap) (d := d) (s := s) (by omega) u3.2.2 s2) (fun f => by simp; exact .ref _ _ _ _) (fun e he => by simp at he; subst he; exact zN0 _) (.cons (Bor.ref0 (by simp [t5, k6]) (by simp) (by simp)) (.cons (.same _) (.cons (.same _) .nil))) ?_
  try simp [-qt, -qd, -ql, rgs, o2, k1, k2, k3, k4, k5, k6]
  repeat' first | done | ((first | ((with_reducible show zG _ _ _ _ _ _ _); refine zC rfl omA omA ?_) | (with_reducible refine zI (i := 4) [(0, [], []), (1, [], []), (2, [], []), (3, [], []), (4, [], []), (5, [], []), (6, [], []), (7, [], []), (8, [], []), (9, [], []), (10, [], []), (11, [], []), (12, [], []), (13, [], []), (14, [], []), (15, [], []), (16, [], [])] (by kernel_rfl) ?_)) <;> simp [-qt, -qd, -ql, rgs, o2, k1, k2, k3, k4, k5, k6]) | ((first | (with_reducible refine zA ?_ ?_)) <;> intro qb <;> (have qp := qb; try simp only [psq] at qp) <;> simp [-qt, -qd, -ql, rgs, o2, k1, k2, k3, k4, k5, k6, qb])
  have hrl2 : t'.list.length = t1.list.length := by rw [hrl]; simp
  have hp6 : X1.top 6 ≠ p := fun e => hpX (e ▸ WI.top_mem (by omega))
  refine ⟨rfl, ⟨X1.setTop 5 (n1 + 36), ?_, V2.newTop [6] (by omega) (fun hm => by have := hin _ hm; omega) ?_ (by simp) (fun k hk => ?_) (fun k hk hS hne => ?_) rfl rfl (fun j hj hS hne => ?_), fun j hj => ?_⟩, fun j hj hjp hjX => ?_⟩
  · rw [zL]; simp [zF9, WI.setTop, hrh, hrn, hsn, hrl2]
  · rw [zK _ _ _ _ (by omega), zL]; simp [wRow, hrh]
  · simp only [List.mem_cons, List.not_mem_nil, or_false] at hk; subst hk
    rw [zK _ _ _ _ hp6, zK _ _ _ _ (by omega), zL]; rfl
  · rcases lt15 hk with rfl | rfl | rfl | rfl | rfl | rfl | rfl | rfl | rfl | rfl | rfl | rfl | rfl | rfl | rfl <;> first | rfl | exact absurd (by decide) hS | exact absurd rfl hne
  · have := hin j hj
    rw [zK _ _ _ _ (fun (e : j = p) => hpX (e ▸ hj)), zK _ _ _ _ (by omega), zK _ _ _ _ (hS 6 (by simp)), zK _ _ _ _ (hS 6 (by simp))]
  · rcases WI.setTop_ids hj with q | q
    · rcases hid j q with q | q
      · exact .inl q
      · right; omega
    · right; omega
  · have hj1 : j ≠ X1.top 6 := fun e => by
      rcases hid (X1.top 6) (WI.top_mem (by omega)) with q | q
      · exact hjX (e ▸ q)
      · omega
    rw [zK _ _ _ _ hjp, zK _ _ _ _ (by omega), zK _ _ _ _ hj1, zK _ _ _ _ hj1]
    exact hf1 j (by omega) hjp hjX
theorem c_isPlain {F : Nat → Bool} {w : Wld} {s : Int} : PC ctx.P 50 [.agg (wldV F w), .int .i64 s] (.bool (yY w.timers s)) := by
  have hl := vU w.timers.list s
  by_cases h0 : 0 ≤ zU w.timers.list s
  · have h0b : (0 ≤ zU w.timers.list s) = True := by simp [h0]
    have e : yY w.timers s = ((gt w.timers.list (zU w.timers.list s)).what == 2) := by simp [yY, h0]
    rw [e]
    refine PC.o okC Tryz.func50 rfl (.bool _) fun h nx hnx => ?_
    try simp [-qt, -qd, -ql, rgs, wldV, yO, h0b]
    repeat' first | done | ((first | ((with_reducible show zG _ _ _ _ _ _ _); refine zC rfl omA omA ?_) | ((with_reducible show zE _ _ _ 139 _ _); refine zD (c_tmsAt (t := w.timers) (F := F)) ?_)) <;> simp [-qt, -qd, -ql, rgs, wldV, yO, h0b]) | ((first | (with_reducible refine zH ?_ ?_)) <;> intro qb <;> (have qp := qb; try simp only [psq] at qp) <;> simp [-qt, -qd, -ql, rgs, wldV, yO, h0b, qb])
  · have h0b : (0 ≤ zU w.timers.list s) = False := by simp [h0]
    have e : yY w.timers s = false := by simp [yY, h0]
    rw [e]
    refine PC.o okC Tryz.func50 rfl (.bool _) fun h nx hnx => ?_
    try simp [-qt, -qd, -ql, rgs, wldV, yO, h0b]
    repeat' first | done | ((first | ((with_reducible show zG _ _ _ _ _ _ _); refine zC rfl omA omA ?_) | ((with_reducible show zE _ _ _ 139 _ _); refine zD (c_tmsAt (t := w.timers) (F := F)) ?_)) <;> simp [-qt, -qd, -ql, rgs, wldV, yO, h0b]) | ((first | (with_reducible refine zH ?_ ?_)) <;> intro qb <;> (have qp := qb; try simp only [psq] at qp) <;> simp [-qt, -qd, -ql, rgs, wldV, yO, h0b, qb])
theorem d_Reset {w : Wld} {s d : Int} {a b c : Nat} (hab : a ≠ c) (hbc : b ≠ c) (ht : -9223372036854775808 ≤ w.now ∧ w.now ≤ 9223372036854775807) (hd : -9223372036854775808 ≤ d ∧ d ≤ 9223372036854775807) (hw : vJ w.timers = true) :
    DoOk ctx.P 49 [(a, [.int .i64 s], [.int .i64 s]), (b, [.int .i64 d], [.int .i64 d]), (c, [.bool false], [.bool (yY w.timers s && zD0 w.timers s)])] w { w with timers := vX w.timers s (zK7 w.now d) } (yY w.timers s) := by
  intro p X
  refine AC.o okC Tryz.func49 rfl fun h nx hfr hnx hpre => ?_
  obtain ⟨o1, V1, hq⟩ := hpre
  obtain ⟨qa1, qa2⟩ := hq _ (List.mem_cons_self ..)
  obtain ⟨qb1, qb2⟩ := hq _ (List.mem_cons_of_mem _ (List.mem_cons_self ..))
  obtain ⟨qc1, qc2⟩ := hq _ (List.mem_cons_of_mem _ (List.mem_cons_of_mem _ (List.mem_cons_self ..)))
  dsimp only at qa1 qa2 qb1 qb2 qc1 qc2
  have hp : p < nx := hnx p (by rw [o1]; simp)
  have han : a < nx := hnx a (by rw [qa1]; simp)
  have hbn : b < nx := hnx b (by rw [qb1]; simp)
  have hcn : c < nx := hnx c (by rw [qc1]; simp)
  have hpX := V1.obj o1
  have haX := V1.obj qa1
  have hbX := V1.obj qb1
  have hcX := V1.obj qc1
  have hin := V1.lt hnx
  have o0 := o1
  try simp [-qt, -qd, -ql, rgs, o1, qa1, qb1, qc1, zO X w, yC, zW]
  repeat' first | done | ((first | (with_reducible refine zI (i := 1) [(0, [], []), (1, [], []), (2, [], []), (3, [], []), (4, [], []), (5, [], [])] (by kernel_rfl) ?_) | (with_reducible refine zI (i := 3) [(0, [], []), (1, [], []), (2, [], []), (3, [], []), (4, [], []), (5, [], []), (6, [], []), (7, [], []), (8, [], []), (9, [.tmp 1], []), (10, [], []), (11, [], [])] (by kernel_rfl) ?_)) <;> simp [-qt, -qd, -ql, rgs, o1, qa1, qb1, qc1, zO X w, yC, zW]) | ((first | (with_reducible refine zA ?_ ?_)) <;> intro qb <;> (have qp := qb; try simp only [psq] at qp) <;> simp [-qt, -qd, -ql, rgs, o1, qa1, qb1, qc1, zO X w, yC, zW, qb])
  refine yL (c_isPlain (F := FF) (w := w) (s := s)) (.bool _) ?hb ?_
  case hb => exact .cons (.agg1 V1.bors) (.cons (.same _) .nil)
  by_cases hpl : yY w.timers s = true
  · have h0 : 0 ≤ zU w.timers.list s := by simp only [yY, Bool.and_eq_true, decide_eq_true_eq] at hpl; exact hpl.1
    have ho : h p = some (.obj (zF9 X w)) := o0
    simp only [zF9] at o1
    rw [hpl, Bool.true_and] at hq ⊢
    try simp [-qt, -qd, -ql, rgs, o1, qa1, qb1, qc1, hpl]
    repeat' first | done | ((first | ((with_reducible show zE _ _ _ 52 _ _); refine zD (c_Later ht hd) ?_) | (with_reducible refine zI (i := 1) [(0, [], []), (1, [], []), (2, [], []), (3, [], []), (4, [], []), (5, [], [])] (by kernel_rfl) ?_) | (with_reducible refine zI (i := 3) [(0, [], []), (1, [], []), (2, [], []), (3, [], []), (4, [], []), (5, [], []), (6, [], []), (7, [], []), (8, [], []), (9, [.tmp 1], []), (10, [], []), (11, [], [])] (by kernel_rfl) ?_)) <;> simp [-qt, -qd, -ql, rgs, o1, qa1, qb1, qc1, hpl]) | ((first | (with_reducible refine zA ?_ ?_)) <;> intro qb <;> (have qp := qb; try simp only [psq] at qp) <;> simp [-qt, -qd, -ql, rgs, o1, qa1, qb1, qc1, hpl, qb])
    refine vB (m_reset (X := X) (w := w) (p := p) (s := s) (d := zK7 w.now d) hw h0) ⟨by simpa using o0, V1⟩ ?_
    rintro r h1 n1 ⟨rfl, ⟨X1, o2, V2, hid⟩, hf1⟩ hle1 hfr1
    dsimp only at hid hf1 hle1
    have ra := hf1 a (by omega) qa2 haX
    have rb := hf1 b (by omega) qb2 hbX
    have rc := hf1 c (by omega) qc2 hcX
    rw [qa1] at ra
    rw [qb1] at rb
    rw [qc1] at rc
    try simp [-qt, -qd, -ql, rgs, rc]
    repeat' first | done | ((first | (with_reducible refine zI (i := 1) [(0, [], []), (1, [], []), (2, [], []), (3, [], []), (4, [], []), (5, [], [])] (by kernel_rfl) ?_) | (with_reducible refine zI (i := 3) [(0, [], []), (1, [], []), (2, [], []), (3, [], []), (4, [], []), (5, [], []), (6, [], []), (7, [], []), (8, [], []), (9, [.tmp 1], []), (10, [], []), (11, [], [])] (by kernel_rfl) ?_)) <;> simp [-qt, -qd, -ql, rgs, rc]) | ((first | (with_reducible refine zA ?_ ?_)) <;> intro qb <;> (have qp := qb; try simp only [psq] at qp) <;> simp [-qt, -qd, -ql, rgs, rc, qb])
    have hac : a ≠ c := hab
    refine ⟨rfl, fun _ => ⟨X1, by rw [zK _ _ _ _ (fun e => qc2 e.symm)]; exact o2, V2.keep fun id hm => ?_, fun id hm => by rcases hid id hm with r | r <;> first | exact .inl r | (right; omega)⟩, fun q hm => ?_, fun j hj hjp hjX hjq => ?_⟩
    · rcases hid id hm with r | r
      · rw [zK _ _ _ _ (fun (e : id = c) => hcX (e ▸ r))]
      · rw [zK _ _ _ _ (by omega)]
    · simp only [List.mem_cons, List.not_mem_nil, or_false] at hm
      rcases hm with rfl | rfl | rfl
      · dsimp only; rw [zK _ _ _ _ hab]; exact ra
      · dsimp only; rw [zK _ _ _ _ hbc]; exact rb
      · dsimp only; rw [zL]
    · have hjc := hjq (c, _, _) (List.mem_cons_of_mem _ (List.mem_cons_of_mem _ (List.mem_cons_self ..)))
      rw [zK _ _ _ _ hjc]
      exact hf1 j (by omega) hjp hjX
  · have hpl2 : yY w.timers s = false := by simpa using hpl
    try simp [-qt, -qd, -ql, rgs, hpl2]
    repeat' first | done | ((first | (with_reducible refine zI (i := 1) [(0, [], []), (1, [], []), (2, [], []), (3, [], []), (4, [], []), (5, [], [])] (by kernel_rfl) ?_) | (with_reducible refine zI (i := 3) [(0, [], []), (1, [], []), (2, [], []), (3, [], []), (4, [], []), (5, [], []), (6, [], []), (7, [], []), (8, [], []), (9, [.tmp 1], []), (10, [], []), (11, [], [])] (by kernel_rfl) ?_)) <;> simp [-qt, -qd, -ql, rgs, hpl2]) | ((first | (with_reducible refine zA ?_ ?_)) <;> intro qb <;> (have qp := qb; try simp only [psq] at qp) <;> simp [-qt, -qd, -ql, rgs, hpl2, qb])
    refine ⟨rfl, (fun e => by cases e), fun q hm => ?_, fun j _ _ _ _ => rfl⟩
    simp only [List.mem_cons, List.not_mem_nil, or_false] at hm
    rcases hm with rfl | rfl | rfl
    · exact qa1
    · exact qb1
    · exact qc1
theorem w_ResetIn {F : Nat → Bool} {w : Wld} {s d : Int} (hs : zC9 w ≤ 1048576) (ht : -9223372036854775808 ≤ w.now ∧ w.now ≤ 9223372036854775807) (hd : -9223372036854775808 ≤ d ∧ d ≤ 9223372036854775807) : WC ctx.P 11 [.agg (wldV F w), .int .i64 s, .int .i64 d]
    (fun X => .tup [.agg (zF9 X (zE9 w s d)), .bool (zH3 w s)]) (zE9 w s d) := by
  obtain ⟨g1, g2⟩ := reset_ask (w := w) (s := s) (d := d)
  rw [← g1, ← g2]
  refine WC.of ?_
  have hdo : zB0 w = true → ∀ a b c, a ≠ c → b ≠ c → DoOk ctx.P 49 [(a, [.int .i64 s], [.int .i64 s]), (b, [.int .i64 d], [.int .i64 d]), (c, [.bool false], [.bool (yY w.timers s && zD0 w.timers s)])] w { w with timers := vX w.timers s (zK7 w.now d) } (yY w.timers s) := fun hw a b c h1 h2 => d_Reset h1 h2 ht hd (wldOk_all hw).2.2.2.2.2.2.1
  clear g1 g2
  generalize ({ w with timers := vX w.timers s (zK7 w.now d) } : Wld) = w' at *
  generalize yY w.timers s = b at *
  generalize zD0 w.timers s = u at *
  refine AC.o okC Tryz.func11 rfl fun h nx hfr hnx hpre => ?_
  try simp [-qt, -qd, -ql, rgs, uY, wldV_len, wldV_take]
  repeat' first | done | ((first | (with_reducible refine zI (i := 3) [(0, [], []), (1, [], []), (2, [], []), (3, [], []), (4, [], []), (5, [.tmp 8], []), (6, [], [])] (by kernel_rfl) ?_)) <;> simp [-qt, -qd, -ql, rgs, uY, wldV_len, wldV_take]) | ((first | (with_reducible refine zQ ?_ ?_)) <;> intro qb <;> (have qp := qb; try simp only [psq] at qp) <;> simp [-qt, -qd, -ql, rgs, uY, wldV_len, wldV_take, qb])
  refine vB (w_asked (F := F) (qs := [(nx + 1, [.int .i64 s], [.int .i64 s]), (nx + 2, [.int .i64 d], [.int .i64 d]), (nx + 5, [.bool false], [.bool (b && u)])]) hs (fun hw => hdo hw _ _ _ (by omega) (by omega))) ?_ ?_
  · intro q hm
    simp only [List.mem_cons, List.not_mem_nil, or_false] at hm
    rcases hm with rfl | rfl | rfl <;> dsimp only <;> repeat (first | exact zL .. | rw [zK _ _ _ _ (by omega)])
  · rintro r h1 n1 ⟨⟨X, rfl, V1, hid1⟩, hq1, hf1⟩ hle1 hfr1
    dsimp only at hid1 hf1 hle1
    have q3 := hq1 (nx + 5, _, _) (List.mem_cons_of_mem _ (List.mem_cons_of_mem _ (List.mem_cons_self ..)))
    dsimp only at q3
    have e3 : (if zB0 w = true then [AV.bool (b && u)] else [AV.bool false]) = [AV.bool (zB0 w && (b && u))] := by cases zB0 w <;> rfl
    rw [e3] at q3
    have K1 := fun j (hj : j < nx + 16) (a1 : j ≠ nx + 1) (a2 : j ≠ nx + 2) (a3 : j ≠ nx + 5) => hf1 j hj (fun q hm => by
      simp only [List.mem_cons, List.not_mem_nil, or_false] at hm
      rcases hm with rfl | rfl | rfl <;> assumption)
    have z1 := K1 (nx + 3) (by omega) (by omega) (by omega) (by omega)
    simp at z1
    by_cases hb : askB w w' b = true
    · have hh : zB0 w = true ∧ b = true := by simp only [askB, Bool.and_eq_true] at hb; exact ⟨hb.1, hb.2.1⟩
      rw [hh.1, hh.2, Bool.true_and, Bool.true_and] at q3
      rw [hb, Bool.true_and]
      try simp [-qt, -qd, -ql, rgs, z1, q3, zO X _, yC, zW]
      repeat' first | done | ((first | (with_reducible refine zI (i := 3) [(0, [], []), (1, [], []), (2, [], []), (3, [], []), (4, [], []), (5, [.tmp 8], []), (6, [], [])] (by kernel_rfl) ?_)) <;> simp [-qt, -qd, -ql, rgs, z1, q3, zO X _, yC, zW]) | ((first | (with_reducible refine zQ ?_ ?_)) <;> intro qb <;> (have qp := qb; try simp only [psq] at qp) <;> simp [-qt, -qd, -ql, rgs, z1, q3, zO X _, yC, zW, qb])
      refine ⟨fun j hj => ?_, X, rfl, V1.keep fun id hid => ?_, fun id hid => by have := hid1 id hid; omega⟩
      · repeat rw [zK _ _ _ _ (by omega)]
        rw [K1 j (by omega) (by omega) (by omega) (by omega)]
        repeat rw [zK _ _ _ _ (by omega)]
      · have := hid1 id hid
        repeat rw [zK _ _ _ _ (by omega)]
    · have hb2 : askB w w' b = false := by simpa using hb
      rw [hb2, Bool.false_and]
      try simp [-qt, -qd, -ql, rgs, z1, q3, zO X _, yC, zW]
      repeat' first | done | ((first | (with_reducible refine zI (i := 3) [(0, [], []), (1, [], []), (2, [], []), (3, [], []), (4, [], []), (5, [.tmp 8], []), (6, [], [])] (by kernel_rfl) ?_)) <;> simp [-qt, -qd, -ql, rgs, z1, q3, zO X _, yC, zW]) | ((first | (with_reducible refine zQ ?_ ?_)) <;> intro qb <;> (have qp := qb; try simp only [psq] at qp) <;> simp [-qt, -qd, -ql, rgs, z1, q3, zO X _, yC, zW, qb])
      refine ⟨fun j hj => ?_, X, rfl, V1.keep fun id hid => ?_, fun id hid => by have := hid1 id hid; omega⟩
      · repeat rw [zK _ _ _ _ (by omega)]
        rw [K1 j (by omega) (by omega) (by omega) (by omega)]
        repeat rw [zK _ _ _ _ (by omega)]
      · have := hid1 id hid
        repeat rw [zK _ _ _ _ (by omega)]
end Go.AE.Tryz
end

section
/- Contracts of the reference's changes of heaps. -/
set_option maxRecDepth 8000
set_option maxHeartbeats 2000000
namespace Go.AE.Tryz
open Go.Proofs
open List renaming map_take → qt, map_drop → qd, map_tail → ql
theorem s_l3Join {p q : Bool} {x : Twg} {l r : List Twg} (hl : isH l) (hr : isH r) (hm : l.length + r.length ≤ 1000) : PC ctx.P 337 [.agg (zY x), .view p 3 (l.map zY), .view q 3 (r.map zY)] (.view true 3 ((zE1 x l r).map zY)) := by
  have r1 := rkI_of hl
  have r2 := rkI_of hr
  by_cases hk : rk0 l < rk0 r
  · have hk2 : (rkI l < rkI r) = True := by simp only [eq_iff_iff, iff_true]; omega
    have hj : (zE1 x l r).map zY = zY ⟨x.due, x.seq, r.length⟩ :: (r.map zY ++ l.map zY) := by simp [zE1, hk]
    rw [hj]
    refine PC.o okC Tryz.func337 rfl (by rw [← hj]; exact .vmap yK) fun h nx hnx => ?_
    try simp [-qt, -qd, -ql, rgs, zY, hk2]
    repeat' first | done | ((first | ((with_reducible show zT _ _ _ _ _ _); refine zB rfl fun _ => ?_) | ((with_reducible show zE _ _ _ 281 _ _); refine zD (s_l3Rank) ?_) | ((with_reducible show zF4 _ _ _ _ _ _ _ _); refine yF rfl rfl (by decide) (by decide) (by first | (simp [-qt, -qd, -ql, rgs, zY, hk2]; done) | (simp [-qt, -qd, -ql, rgs, zY, hk2]; rfl)) (by first | (simp [-qt, -qd, -ql, rgs, zY, hk2]; done) | (simp [-qt, -qd, -ql, rgs, zY, hk2]; rfl)) (by first | (simp; done) | (simp; omega)) (by first | (simp only [yM, LIM] at *; simp; omega) | (simp only [yM]; simp; omega)) (by simp [iv, bv]) ?_)) <;> simp [-qt, -qd, -ql, rgs, zY, hk2]) | ((first | (with_reducible refine zA ?_ ?_)) <;> intro qb <;> (have qp := qb; try simp only [psq] at qp) <;> simp [-qt, -qd, -ql, rgs, zY, hk2, qb])
    rw [if_pos (by omega), List.take_of_length_le (by simp; omega)]
    exact (finP_some ..).mpr ⟨rfl, zJ⟩
  · have hk2 : (rkI l < rkI r) = False := by simp only [eq_iff_iff, iff_false]; omega
    have hj : (zE1 x l r).map zY = zY ⟨x.due, x.seq, l.length⟩ :: (l.map zY ++ r.map zY) := by simp [zE1, hk]
    rw [hj]
    refine PC.o okC Tryz.func337 rfl (by rw [← hj]; exact .vmap yK) fun h nx hnx => ?_
    try simp [-qt, -qd, -ql, rgs, zY, hk2]
    repeat' first | done | ((first | ((with_reducible show zT _ _ _ _ _ _); refine zB rfl fun _ => ?_) | ((with_reducible show zE _ _ _ 281 _ _); refine zD (s_l3Rank) ?_) | ((with_reducible show zF4 _ _ _ _ _ _ _ _); refine yF rfl rfl (by decide) (by decide) (by first | (simp [-qt, -qd, -ql, rgs, zY, hk2]; done) | (simp [-qt, -qd, -ql, rgs, zY, hk2]; rfl)) (by first | (simp [-qt, -qd, -ql, rgs, zY, hk2]; done) | (simp [-qt, -qd, -ql, rgs, zY, hk2]; rfl)) (by first | (simp; done) | (simp; omega)) (by first | (simp only [yM, LIM] at *; simp; omega) | (simp only [yM]; simp; omega)) (by simp [iv, bv]) ?_)) <;> simp [-qt, -qd, -ql, rgs, zY, hk2]) | ((first | (with_reducible refine zA ?_ ?_)) <;> intro qb <;> (have qp := qb; try simp only [psq] at qp) <;> simp [-qt, -qd, -ql, rgs, zY, hk2, qb])
    rw [if_pos (by omega), List.take_of_length_le (by simp; omega)]
    exact (finP_some ..).mpr ⟨rfl, zJ⟩
theorem s_l3MergeN : ∀ (n : Nat) (p q : Bool) (a b : List Twg), a.length + b.length ≤ n → n ≤ 1000 → isH a → isH b → apart a b → PC ctx.P 265 [.view p 3 (a.map zY), .view q 3 (b.map zY)] (.view true 3 ((zL5 n a b).map zY)) := by
  intro n
  induction n with
  | zero =>
    intro p q a b hn hm ha hb hd
    obtain rfl : a = [] := List.eq_nil_of_length_eq_zero (by omega)
    obtain rfl : b = [] := List.eq_nil_of_length_eq_zero (by simpa using hn)
    rw [mrgN_l]
    have hc := s_l3Copy (p := q) (xs := []) (by simp)
    refine PC.o okC Tryz.func265 rfl (.vmap yK) fun h nx hnx => ?_
    try simp [-qt, -qd, -ql, rgs]
    repeat' first | done | ((first | ((with_reducible show zT _ _ _ _ _ _); refine zB rfl fun _ => ?_) | ((with_reducible show zG _ _ _ _ _ _ _); refine zC rfl omA omA ?_) | (refine zD (hc) ?_) | (with_reducible refine zI (i := 5) [(0, [], []), (1, [], []), (2, [], []), (3, [], []), (4, [], []), (5, [], []), (6, [], []), (7, [], [])] (by kernel_rfl) ?_) | (with_reducible refine zI (i := 10) [(0, [], []), (1, [], []), (2, [], []), (3, [], []), (4, [], []), (5, [], []), (6, [.tmp 37], []), (7, [], []), (8, [], [])] (by kernel_rfl) ?_)) <;> simp [-qt, -qd, -ql, rgs]) | ((first | (with_reducible refine zA ?_ ?_)) <;> intro qb <;> (have qp := qb; try simp only [psq] at qp) <;> simp [-qt, -qd, -ql, rgs, qb])
  | succ n ih =>
    intro p q a b hn hm ha hb hd
    by_cases ha0 : a.length = 0
    · obtain rfl : a = [] := List.eq_nil_of_length_eq_zero ha0
      rw [mrgN_l]
      refine PC.o okC Tryz.func265 rfl (.vmap yK) fun h nx hnx => ?_
      try simp [-qt, -qd, -ql, rgs]
      repeat' first | done | ((first | ((with_reducible show zT _ _ _ _ _ _); refine zB rfl fun _ => ?_) | ((with_reducible show zG _ _ _ _ _ _ _); refine zC rfl omA omA ?_) | ((with_reducible show zE _ _ _ 206 _ _); refine zD (s_l3Copy (p := q) (xs := b) (by omega)) ?_) | (with_reducible refine zI (i := 5) [(0, [], []), (1, [], []), (2, [], []), (3, [], []), (4, [], []), (5, [], []), (6, [], []), (7, [], [])] (by kernel_rfl) ?_) | (with_reducible refine zI (i := 10) [(0, [], []), (1, [], []), (2, [], []), (3, [], []), (4, [], []), (5, [], []), (6, [.tmp 37], []), (7, [], []), (8, [], [])] (by kernel_rfl) ?_)) <;> simp [-qt, -qd, -ql, rgs]) | ((first | (with_reducible refine zA ?_ ?_)) <;> intro qb <;> (have qp := qb; try simp only [psq] at qp) <;> simp [-qt, -qd, -ql, rgs, qb])
    have hx0 : ((a.length : Int) == 0) = false := by simp; intro e; exact ha0 (by simp [e])
    by_cases hb0 : b.length = 0
    · obtain rfl : b = [] := List.eq_nil_of_length_eq_zero hb0
      rw [mrgN_r]
      refine PC.o okC Tryz.func265 rfl (.vmap yK) fun h nx hnx => ?_
      try simp [-qt, -qd, -ql, rgs, hx0]
      repeat' first | done | ((first | ((with_reducible show zT _ _ _ _ _ _); refine zB rfl fun _ => ?_) | ((with_reducible show zG _ _ _ _ _ _ _); refine zC rfl omA omA ?_) | ((with_reducible show zE _ _ _ 206 _ _); refine zD (s_l3Copy (p := p) (xs := a) (by omega)) ?_) | (with_reducible refine zI (i := 5) [(0, [], []), (1, [], []), (2, [], []), (3, [], []), (4, [], []), (5, [], []), (6, [], []), (7, [], [])] (by kernel_rfl) ?_) | (with_reducible refine zI (i := 10) [(0, [], []), (1, [], []), (2, [], []), (3, [], []), (4, [], []), (5, [], []), (6, [.tmp 37], []), (7, [], []), (8, [], [])] (by kernel_rfl) ?_)) <;> simp [-qt, -qd, -ql, rgs, hx0]) | ((first | (with_reducible refine zA ?_ ?_)) <;> intro qb <;> (have qp := qb; try simp only [psq] at qp) <;> simp [-qt, -qd, -ql, rgs, hx0, qb])
    have hy0 : ((b.length : Int) == 0) = false := by simp; intro e; exact hb0 (by simp [e])
    have ha0 : 0 < a.length := by omega
    have hb0 : 0 < b.length := by omega
    by_cases hyx : lt2 (gt b 0) (gt a 0)
    · have hcmp : (uM (gt a 0) (gt b 0) < 0) = False := by simp only [eq_iff_iff, iff_false]; exact fun h => lt2_irr hyx (cmp_lt.1 h)
      have pp := zJ0 hb hb0
      have hl1 := mrgN_len n (b.drop ((gt b 0).lefts.toNat + 1)) a (by omega) pp.2.2.2.1 ha
      rw [mrgN_b ha0 hb0 hyx]
      have hq2 := ih q p (b.drop ((gt b 0).lefts.toNat + 1)) a (by omega) (by omega) pp.2.2.2.1 ha (zD2 (zI5 hd) _)
      have hq3 := mrgN_isH (n := n) (by omega) pp.2.2.2.1 ha (zD2 (zI5 hd) _)
      refine PC.o okC Tryz.func265 rfl (.vmap yK) fun h nx hnx => ?_
      try simp [-qt, -qd, -ql, rgs, hx0, hy0, hcmp]
      repeat' first | done | ((first | ((with_reducible show zT _ _ _ _ _ _); refine zB rfl fun _ => ?_) | ((with_reducible show zG _ _ _ _ _ _ _); refine zC rfl omA omA ?_) | ((with_reducible show zE _ _ _ 336 _ _); refine zD (s_l3Ahead) ?_) | ((with_reducible show zE _ _ _ 264 _ _); refine zD (zI2 hb0 pp.1 pp.2.1) ?_) | (refine zD (hq2) ?_) | ((with_reducible show zE _ _ _ 337 _ _); refine zD (s_l3Join pp.2.2.1 hq3 (by omega)) ?_) | (with_reducible refine zI (i := 5) [(0, [], []), (1, [], []), (2, [], []), (3, [], []), (4, [], []), (5, [], []), (6, [], []), (7, [], [])] (by kernel_rfl) ?_) | (with_reducible refine zI (i := 10) [(0, [], []), (1, [], []), (2, [], []), (3, [], []), (4, [], []), (5, [], []), (6, [.tmp 37], []), (7, [], []), (8, [], [])] (by kernel_rfl) ?_)) <;> simp [-qt, -qd, -ql, rgs, hx0, hy0, hcmp]) | ((first | (with_reducible refine zA ?_ ?_)) <;> intro qb <;> (have qp := qb; try simp only [psq] at qp) <;> simp [-qt, -qd, -ql, rgs, hx0, hy0, hcmp, qb])
    · have hcmp : (uM (gt a 0) (gt b 0) < 0) = True := by simp only [eq_iff_iff, iff_true]; exact cmp_lt.2 (lt2_flip (hd _ (gt0_mem ha0) _ (gt0_mem hb0)) hyx)
      have pp := zJ0 ha ha0
      have hl1 := mrgN_len n (a.drop ((gt a 0).lefts.toNat + 1)) b (by omega) pp.2.2.2.1 hb
      rw [mrgN_a ha0 hb0 hyx]
      have hq2 := ih p q (a.drop ((gt a 0).lefts.toNat + 1)) b (by omega) (by omega) pp.2.2.2.1 hb (zD2 hd _)
      have hq3 := mrgN_isH (n := n) (by omega) pp.2.2.2.1 hb (zD2 hd _)
      refine PC.o okC Tryz.func265 rfl (.vmap yK) fun h nx hnx => ?_
      try simp [-qt, -qd, -ql, rgs, hx0, hy0, hcmp]
      repeat' first | done | ((first | ((with_reducible show zT _ _ _ _ _ _); refine zB rfl fun _ => ?_) | ((with_reducible show zG _ _ _ _ _ _ _); refine zC rfl omA omA ?_) | ((with_reducible show zE _ _ _ 336 _ _); refine zD (s_l3Ahead) ?_) | ((with_reducible show zE _ _ _ 264 _ _); refine zD (zI2 ha0 pp.1 pp.2.1) ?_) | (refine zD (hq2) ?_) | ((with_reducible show zE _ _ _ 337 _ _); refine zD (s_l3Join pp.2.2.1 hq3 (by omega)) ?_) | (with_reducible refine zI (i := 5) [(0, [], []), (1, [], []), (2, [], []), (3, [], []), (4, [], []), (5, [], []), (6, [], []), (7, [], [])] (by kernel_rfl) ?_) | (with_reducible refine zI (i := 10) [(0, [], []), (1, [], []), (2, [], []), (3, [], []), (4, [], []), (5, [], []), (6, [.tmp 37], []), (7, [], []), (8, [], [])] (by kernel_rfl) ?_)) <;> simp [-qt, -qd, -ql, rgs, hx0, hy0, hcmp]) | ((first | (with_reducible refine zA ?_ ?_)) <;> intro qb <;> (have qp := qb; try simp only [psq] at qp) <;> simp [-qt, -qd, -ql, rgs, hx0, hy0, hcmp, qb])
theorem s_l3Merge {p q : Bool} {a b : List Twg} (hl : a.length + b.length ≤ 1000) (ha : isH a) (hb : isH b) (hd : apart a b) : PC ctx.P 265 [.view p 3 (a.map zY), .view q 3 (b.map zY)] (.view true 3 ((mrg a b).map zY)) :=
  s_l3MergeN _ p q a b (Nat.le_refl _) hl ha hb hd
theorem s_l3WithoutN : ∀ (n : Nat) (p : Bool) (a : List Twg) (s : Int), a.length ≤ n → n ≤ 900 → isH a → once a → PC ctx.P 282 [.view p 3 (a.map zY), .int .i64 s] (.tup [.view true 3 ((woN n a s).map zY), .bool (a.any fun x => x.seq == s)]) := by
  have hfz : ∀ (xs : List Twg) (b : Bool), Fz (.tup [.view true 3 (xs.map zY), .bool b]) := fun xs b => .tup _ (by simp only [List.mem_cons, List.not_mem_nil, or_false]; rintro c (rfl | rfl); exact .vmap yK; exact .bool _)
  intro n
  induction n with
  | zero =>
    intro p a s hn hm ha ho
    obtain rfl : a = [] := List.eq_nil_of_length_eq_zero (by omega)
    have he : woN 0 [] s = [] := by simp [woN]
    rw [he]
    refine PC.o okC Tryz.func282 rfl (hfz _ _) fun h nx hnx => ?_
    try simp [-qt, -qd, -ql, rgs]
    repeat' first | done | ((first | ((with_reducible show zT _ _ _ _ _ _); refine zB rfl fun _ => ?_) | ((with_reducible show zG _ _ _ _ _ _ _); refine zC rfl omA omA ?_)) <;> simp [-qt, -qd, -ql, rgs]) | ((first | (with_reducible refine zA ?_ ?_)) <;> intro qb <;> (have qp := qb; try simp only [psq] at qp) <;> simp [-qt, -qd, -ql, rgs, qb])
  | succ n ih =>
    intro p a s hn hm ha ho
    by_cases ha0 : a.length = 0
    · obtain rfl : a = [] := List.eq_nil_of_length_eq_zero ha0
      have he : woN (n + 1) [] s = [] := by simp [woN]
      rw [he]
      refine PC.o okC Tryz.func282 rfl (hfz _ _) fun h nx hnx => ?_
      try simp [-qt, -qd, -ql, rgs]
      repeat' first | done | ((first | ((with_reducible show zT _ _ _ _ _ _); refine zB rfl fun _ => ?_) | ((with_reducible show zG _ _ _ _ _ _ _); refine zC rfl omA omA ?_)) <;> simp [-qt, -qd, -ql, rgs]) | ((first | (with_reducible refine zA ?_ ?_)) <;> intro qb <;> (have qp := qb; try simp only [psq] at qp) <;> simp [-qt, -qd, -ql, rgs, qb])
    have hx0 : ((a.length : Int) == 0) = false := by simp; intro e; exact ha0 (by simp [e])
    have ha0 : 0 < a.length := by omega
    have pp := zJ0 ha ha0
    obtain ⟨o1, o2, o3, o4⟩ := once_part ho ha0 (k := (gt a 0).lefts.toNat)
    have sp := zL9 ha0 (gt a 0).lefts.toNat
    by_cases h1 : (gt a 0).seq = s
    · have hf : a.any (fun x => x.seq == s) = true := List.any_eq_true.2 ⟨_, gt0_mem ha0, by simpa using h1⟩
      rw [woN_1 ha0 h1, hf]
      have h1b : ((gt a 0).seq == s) = true := by simpa using h1
      refine PC.o okC Tryz.func282 rfl (hfz _ _) fun h nx hnx => ?_
      try simp [-qt, -qd, -ql, rgs, zY, hx0, h1b]
      repeat' first | done | ((first | ((with_reducible show zT _ _ _ _ _ _); refine zB rfl fun _ => ?_) | ((with_reducible show zG _ _ _ _ _ _ _); refine zC rfl omA omA ?_) | ((with_reducible show zE _ _ _ 264 _ _); refine zD (zI2 ha0 pp.1 pp.2.1) ?_) | ((with_reducible show zE _ _ _ 265 _ _); refine zD (s_l3Merge (by omega) pp.2.2.1 pp.2.2.2.1 o3) ?_)) <;> simp [-qt, -qd, -ql, rgs, zY, hx0, h1b]) | ((first | (with_reducible refine zA ?_ ?_)) <;> intro qb <;> (have qp := qb; try simp only [psq] at qp) <;> simp [-qt, -qd, -ql, rgs, zY, hx0, h1b, qb])
    · have h1b : ((gt a 0).seq == s) = false := by simpa using h1
      have hany : a.any (fun x => x.seq == s) = ((a.tail.take (gt a 0).lefts.toNat).any (fun x => x.seq == s) || (a.drop ((gt a 0).lefts.toNat + 1)).any (fun x => x.seq == s)) := by
        conv => lhs; rw [sp]
        rw [List.any_cons, List.any_append, h1b, Bool.false_or]
      have hi1 := ih p (a.tail.take (gt a 0).lefts.toNat) s (by omega) (by omega) pp.2.2.1 o1
      have hi2 := ih p (a.drop ((gt a 0).lefts.toNat + 1)) s (by omega) (by omega) pp.2.2.2.1 o2
      by_cases h2 : (a.tail.take (gt a 0).lefts.toNat).any (fun x => x.seq == s) = true
      · have h2e : ∃ x ∈ a.tail.take (gt a 0).lefts.toNat, x.seq = s := by obtain ⟨x, hx, e⟩ := List.any_eq_true.1 h2; exact ⟨x, hx, by simpa using e⟩
        rw [woN_2 ha0 h1 h2e, hany]
        rw [h2] at hi1 ⊢
        obtain ⟨w1, w2⟩ := woN_sub (n := n) (by omega) pp.2.2.1 o1 h2e
        refine PC.o okC Tryz.func282 rfl (hfz _ _) fun h nx hnx => ?_
        try simp [-qt, -qd, -ql, rgs, zY, hx0, h1b]
        repeat' first | done | ((first | ((with_reducible show zT _ _ _ _ _ _); refine zB rfl fun _ => ?_) | ((with_reducible show zG _ _ _ _ _ _ _); refine zC rfl omA omA ?_) | ((with_reducible show zE _ _ _ 264 _ _); refine zD (zI2 ha0 pp.1 pp.2.1) ?_) | (refine zD (hi1) ?_) | ((with_reducible show zE _ _ _ 337 _ _); refine zD (s_l3Join w1 pp.2.2.2.1 (by omega)) ?_)) <;> simp [-qt, -qd, -ql, rgs, zY, hx0, h1b]) | ((first | (with_reducible refine zA ?_ ?_)) <;> intro qb <;> (have qp := qb; try simp only [psq] at qp) <;> simp [-qt, -qd, -ql, rgs, zY, hx0, h1b, qb])
      · have h2f : (a.tail.take (gt a 0).lefts.toNat).any (fun x => x.seq == s) = false := by simpa using h2
        have h2e : ¬ ∃ x ∈ a.tail.take (gt a 0).lefts.toNat, x.seq = s := fun ⟨x, hx, e⟩ => h2 (List.any_eq_true.2 ⟨x, hx, by simpa using e⟩)
        rw [woN_3 ha0 h1 h2e, hany]
        rw [h2f] at hi1 ⊢
        rw [Bool.false_or]
        have w : isH (woN n (a.drop ((gt a 0).lefts.toNat + 1)) s) ∧ (woN n (a.drop ((gt a 0).lefts.toNat + 1)) s).length ≤ (a.drop ((gt a 0).lefts.toNat + 1)).length := by
          by_cases h3 : ∃ x ∈ a.drop ((gt a 0).lefts.toNat + 1), x.seq = s
          · obtain ⟨w1, w2⟩ := woN_sub (n := n) (by omega) pp.2.2.2.1 o2 h3
            exact ⟨w1, by omega⟩
          · rw [woN_none n pp.2.2.2.1 (fun x hx e => h3 ⟨x, hx, e⟩)]
            exact ⟨pp.2.2.2.1, Nat.le_refl _⟩
        refine PC.o okC Tryz.func282 rfl (hfz _ _) fun h nx hnx => ?_
        try simp [-qt, -qd, -ql, rgs, zY, hx0, h1b]
        repeat' first | done | ((first | ((with_reducible show zT _ _ _ _ _ _); refine zB rfl fun _ => ?_) | ((with_reducible show zG _ _ _ _ _ _ _); refine zC rfl omA omA ?_) | ((with_reducible show zE _ _ _ 264 _ _); refine zD (zI2 ha0 pp.1 pp.2.1) ?_) | (refine zD (hi1) ?_) | (refine zD (hi2) ?_) | ((with_reducible show zE _ _ _ 337 _ _); refine zD (s_l3Join pp.2.2.1 w.1 (by omega)) ?_)) <;> simp [-qt, -qd, -ql, rgs, zY, hx0, h1b]) | ((first | (with_reducible refine zA ?_ ?_)) <;> intro qb <;> (have qp := qb; try simp only [psq] at qp) <;> simp [-qt, -qd, -ql, rgs, zY, hx0, h1b, qb])
theorem s_Without {p : Bool} {a : List Twg} {s : Int} (hk : zA6 a = true) : PC ctx.P 210 [.view p 3 (a.map zY), .int .i64 s] (.tup [.view true 3 ((if (a.any fun x => x.seq == s) = true then wo a s else a).map zY), .bool (a.any fun x => x.seq == s)]) := by
  obtain ⟨h1, h2, h3⟩ := zD4.1 hk
  have hw := s_l3WithoutN a.length p a s (Nat.le_refl _) (by omega) h3 h2
  by_cases hb : (a.any fun x => x.seq == s) = true
  · rw [if_pos hb]
    rw [hb] at hw ⊢
    refine PC.o okC Tryz.func210 rfl (.tup _ (by simp only [List.mem_cons, List.not_mem_nil, or_false]; rintro c (rfl | rfl); exact .vmap yK; exact .bool _)) fun h nx hnx => ?_
    try simp [-qt, -qd, -ql, rgs, hk, wo]
    repeat' first | done | ((first | ((with_reducible show zE _ _ _ 208 _ _); refine zD (zO4) ?_) | (refine zD (hw) ?_)) <;> simp [-qt, -qd, -ql, rgs, hk, wo]) | ((first | (with_reducible refine zA ?_ ?_)) <;> intro qb <;> (have qp := qb; try simp only [psq] at qp) <;> simp [-qt, -qd, -ql, rgs, hk, wo, qb])
  · rw [if_neg hb]
    have hb2 : (a.any fun x => x.seq == s) = false := by simpa using hb
    rw [hb2] at hw ⊢
    refine PC.o okC Tryz.func210 rfl (.tup _ (by simp only [List.mem_cons, List.not_mem_nil, or_false]; rintro c (rfl | rfl); exact .vmap yK; exact .bool _)) fun h nx hnx => ?_
    try simp [-qt, -qd, -ql, rgs, hk, wo]
    repeat' first | done | ((first | ((with_reducible show zE _ _ _ 208 _ _); refine zD (zO4) ?_) | (refine zD (hw) ?_) | ((with_reducible show zE _ _ _ 206 _ _); refine zD (s_l3Copy (p := p) (xs := a) (by omega)) ?_)) <;> simp [-qt, -qd, -ql, rgs, hk, wo]) | ((first | (with_reducible refine zA ?_ ?_)) <;> intro qb <;> (have qp := qb; try simp only [psq] at qp) <;> simp [-qt, -qd, -ql, rgs, hk, wo, qb])
theorem s_Merged {p q : Bool} {a b : List Twg} (ha : zA6 a = true) (hb : zA6 b = true) (hl : a.length + b.length ≤ 64) (hd : zH4 (a ++ b) = true) : PC ctx.P 211 [.view p 3 (a.map zY), .view q 3 (b.map zY)] (.tup [.view true 3 ((mrg a b).map zY), .bool true]) := by
  obtain ⟨a1, a2, a3⟩ := zD4.1 ha
  obtain ⟨b1, b2, b3⟩ := zD4.1 hb
  have hap : apart a b := (List.pairwise_append.1 (seqs_once.1 hd)).2.2
  have hl2 : (64 < (a.length : Int) + b.length) = False := by simp only [eq_iff_iff, iff_false]; omega
  have hw : IntKind.i64.wrap ((a.length : Int) + b.length) = a.length + b.length := zF (by omega)
  have htw := s_l3Twice (p := false) (l := a ++ b)
  rw [List.map_append] at htw
  refine PC.o okC Tryz.func211 rfl (.tup _ (by simp only [List.mem_cons, List.not_mem_nil, or_false]; rintro c (rfl | rfl); exact .vmap yK; exact .bool _)) fun h nx hnx => ?_
  try simp [-qt, -qd, -ql, rgs, ha, hb, hw, hl2, hd]
  repeat' first | done | ((first | ((with_reducible show zT _ _ _ _ _ _); refine zB rfl fun _ => ?_) | ((with_reducible show zE _ _ _ 208 _ _); refine zD (zO4 (l := a)) ?_) | ((with_reducible show zE _ _ _ 208 _ _); refine zD (zO4 (l := b)) ?_) | ((with_reducible show zE _ _ _ 206 _ _); refine yA (f_l3Copy (p := p) (xs := a) (by omega)) ?_) | (refine yL (htw) (by first | exact .bool _ | exact .int _ _ | exact .str _) (by repeat' first | exact Bors.nil | refine Bors.cons ?_ ?_ | exact Bor.same _ | refine Bor.fn1 ?_ | refine Bor.bnd1 ?_ | refine Bor.agg1 ?_ | refine Bor.ptr0 (by first | (simp; done) | (simp; rfl) | assumption | (simp [*]; done)) ?_ | refine Bor.ref0 (by first | (simp; done) | (simp; rfl) | (simp [iv, bv]; done)) (by simp) (by simp)) ?_) | ((with_reducible show zE _ _ _ 265 _ _); refine zD (s_l3Merge (by omega) a3 b3 hap) ?_) | ((with_reducible show zF4 _ _ _ _ _ _ _ _); refine yF rfl rfl (by decide) (by decide) (by first | (simp [-qt, -qd, -ql, rgs, ha, hb, hw, hl2, hd]; done) | (simp [-qt, -qd, -ql, rgs, ha, hb, hw, hl2, hd]; rfl)) (by first | (simp [-qt, -qd, -ql, rgs, ha, hb, hw, hl2, hd]; done) | (simp [-qt, -qd, -ql, rgs, ha, hb, hw, hl2, hd]; rfl)) (by first | (simp; done) | (simp; omega)) (by first | (simp only [yM, LIM] at *; simp; omega) | (simp only [yM]; simp; omega)) (by simp [iv, bv]) ?_)) <;> simp [-qt, -qd, -ql, rgs, ha, hb, hw, hl2, hd]) | ((first | (with_reducible refine zH ?_ ?_) | (with_reducible refine zA ?_ ?_)) <;> intro qb <;> (have qp := qb; try simp only [psq] at qp) <;> simp [-qt, -qd, -ql, rgs, ha, hb, hw, hl2, hd, qb])
theorem s_Put {p : Bool} {a : List Twg} {d s : Int} (ha : zA6 a = true) (hl : a.length + 1 ≤ 64) (hd : ∀ x ∈ a, x.seq ≠ s) : PC ctx.P 124 [.view p 3 (a.map zY), .int .i64 d, .int .i64 s] (.tup [.view true 3 ((putH a d s).map zY), .bool true]) := by
  have hb : zA6 [⟨d, s, 0⟩] = true := zD4.2 ⟨by simp, by simp [once], isH_one d s⟩
  have hs : zH4 (a ++ [⟨d, s, 0⟩]) = true := seqs_once.2 (List.pairwise_append.2 ⟨(zD4.1 ha).2.1, by simp, fun y hy z hz => by simp at hz; subst hz; exact hd y hy⟩)
  refine PC.o okC Tryz.func124 rfl (.tup _ (by simp only [List.mem_cons, List.not_mem_nil, or_false]; rintro c (rfl | rfl); exact .vmap yK; exact .bool _)) fun h nx hnx => ?_
  try simp [-qt, -qd, -ql, rgs]
  refine yL (s_Merged (p := p) (q := false) (b := [⟨d, s, 0⟩]) ha hb (by simpa using hl) hs) (.tup _ fun c hc => ?_) (.cons (.same _) (.cons (Bor.ref0 (by first | (simp; done) | (simp; rfl)) rfl rfl) .nil)) ?_
  · simp only [List.mem_cons, List.not_mem_nil, or_false] at hc
    rcases hc with rfl | rfl
    · exact .view _ _ fun i j x hx => by exact zN0 _ i j x hx
    · exact .bool _
  try simp [-qt, -qd, -ql, rgs, putH]
theorem f_Stopped {F : Nat → Bool} {t : Tms} {s : Int} (ht : vJ t = true) (h0 : 0 ≤ zU t.list s) : FC ctx.P 123 [.agg (vQ F t), .int .i64 s] (.tup [.agg [.view true 3 ((vE t s).heap.map zY), .ref 0 5 0 t.list.length, .int .i64 t.next], .bool (zD0 t s)]) [.row 5 ((vE t s).list.map yO)] := by
  obtain ⟨-, t2, t3, -, -, -⟩ := zC0.1 ht
  have hk : zA6 t.heap = true := zD4.2 t3
  have hl := vU t.list s
  have hn : (zU t.list s < 0) = False := by simp only [eq_iff_iff, iff_false]; omega
  have hany : (t.heap.any fun x => x.seq == s) = zD0 t s := by
    rw [Bool.eq_iff_iff, ← heap_has ht s, List.any_eq_true]; simp
  have hwo := s_Without (p := F 6) (a := t.heap) (s := s) hk
  rw [hany] at hwo
  have hst : (vE t s).heap = (if zD0 t s = true then wo t.heap s else t.heap) := by unfold vE; split <;> rfl
  have hsl : (vE t s).list.map yO = (t.list.map yO).set (zU t.list s).toNat (yO (zO2 (gt t.list (zU t.list s)))) := by
    rw [← List.map_set]
    congr 1
    unfold vE; split
    · rfl
    · rename_i h
      have : (gt t.list (zU t.list s)).armed = false := by simpa [zD0, h0] using h
      have e : zO2 (gt t.list (zU t.list s)) = gt t.list (zU t.list s) := by
        cases hq : gt t.list (zU t.list s); rw [hq] at this; simp at this; simp [zO2, this]
      rw [e, gt_get h0 hl, List.set_getElem_self]
  have hsb : zD0 t s = (gt t.list (zU t.list s)).armed := by simp [zD0, h0]
  rw [← hst] at hwo
  rw [hsl]
  have hg : (t.list.map yO)[(zU t.list s).toNat]? = some (yO (gt t.list (zU t.list s))) := by rw [List.getElem?_map, zH6 h0 hl]; rfl
  refine FC.o okC Tryz.func123 rfl ((okr_tms _ _ _ _)) ((fun e he => by simp at he; subst he; rw [← hsl]; exact zP zA5 _)) fun h nx hnx => ?_
  try simp [-qt, -qd, -ql, rgs, ht, hn, vQ, yH hnx]
  repeat' first | done | ((first | ((with_reducible show zG _ _ _ _ _ _ _); refine zC rfl omA omA ?_) | ((with_reducible show zE _ _ _ 122 _ _); refine zD (s_TimersOk (t := t) (F := F)) ?_) | ((with_reducible show zE _ _ _ 117 _ _); refine yA (f_l4Copy (F := F) (s := t) (by omega) (by omega)) ?_) | ((with_reducible show zE _ _ _ 121 _ _); refine zD (s_l4At (t := t) (F := F)) ?_) | (refine zD (hwo) ?_) | (((with_reducible show zG _ _ _ _ (.ref _ _ _ _) _ _); refine yI rfl (by omega) (by omega) ?_)) | (with_reducible refine zI (i := 9) [(0, [], []), (1, [], []), (2, [], []), (3, [], []), (4, [], []), (5, [], []), (6, [], []), (7, [.tmp 34, .tmp 38], []), (8, [], [])] (by kernel_rfl) ?_)) <;> simp [-qt, -qd, -ql, rgs, ht, hn, vQ, yH hnx]) | ((first | (with_reducible refine zA ?_ ?_)) <;> intro qb <;> (have qp := qb; try simp only [psq] at qp) <;> simp [-qt, -qd, -ql, rgs, ht, hn, vQ, yH hnx, qb])
  refine zI3 (sz := 5) (xs := t.list.map yO) (cells := yO (gt t.list (zU t.list s))) (by simp) (by simp) rfl (by decide) hg ?_
  rw [show splice (yO (gt t.list (zU t.list s))) 4 [.bool false] = yO (zO2 (gt t.list (zU t.list s))) from rfl]
  generalize hrow : (t.list.map yO).set (zU t.list s).toNat (yO (zO2 (gt t.list (zU t.list s)))) = row
  try simp [-qt, -qd, -ql, rgs, ht, hn, vQ, yO, yH hnx]
  repeat' first | done | ((first | ((with_reducible show zG _ _ _ _ _ _ _); refine zC rfl omA omA ?_) | (refine zD (hwo) ?_) | (with_reducible refine zI (i := 9) [(0, [], []), (1, [], []), (2, [], []), (3, [], []), (4, [], []), (5, [], []), (6, [], []), (7, [.tmp 34, .tmp 38], []), (8, [], [])] (by kernel_rfl) ?_)) <;> simp [-qt, -qd, -ql, rgs, ht, hn, vQ, yO, yH hnx]) | ((first | (with_reducible refine zA ?_ ?_)) <;> intro qb <;> (have qp := qb; try simp only [psq] at qp) <;> simp [-qt, -qd, -ql, rgs, ht, hn, vQ, yO, yH hnx, qb])
  exact finF1 (i := nx + 11) zJ (by omega) (by simp) (by simp [hsb])
theorem s_Reset {F : Nat → Bool} {t : Tms} {s d : Int} (ht : vJ t = true) (h0 : 0 ≤ zU t.list s) : PC ctx.P 36 [.agg (vQ F t), .int .i64 s, .int .i64 d] (.tup [.agg (vQ (fun _ => true) (vX t s d)), .bool (zD0 t s)]) := by
  have hl := vU t.list s
  have hn : (zU t.list s < 0) = False := by simp only [eq_iff_iff, iff_false]; omega
  obtain ⟨k1, k2⟩ := zL8 (s := s) ht
  have k3 := stop_room ht h0
  have hsl := zP7 (t := t) (s := s)
  have hlen : zU t.list s < ((vE t s).list.length : Int) := by omega
  have hk : zA6 (vE t s).heap = true := zD4.2 (zC0.1 k1).2.2.1
  have hat := stopT_at h0
  have hg : ((vE t s).list.map yO)[(zU t.list s).toNat]? = some (yO (zO2 (gt t.list (zU t.list s)))) := by rw [List.getElem?_map, zH6 h0 hlen, hat]; rfl
  have hres : (vX t s d).list.map yO = ((vE t s).list.map yO).set (zU t.list s).toNat (yO (onT (gt t.list (zU t.list s)) d)) := by
    rw [← List.map_set, stopT_list h0]; simp [vX, h0]
  have hrn : (vX t s d).next = t.next := by simp [vX, h0]
  have hrh : (vX t s d).heap = putH (vE t s).heap d s := by simp [vX, h0]
  have hrl : (vX t s d).list.length = t.list.length := by simp [vX, h0]
  have hs := f_Stopped (F := F) ht h0
  refine PC.o okC Tryz.func36 rfl (.tup _ (by simp only [List.mem_cons, List.not_mem_nil, or_false]; rintro c (rfl | rfl); exact .agg _ (tmsV_fz _); exact .bool _)) fun h nx hnx => ?_
  rw [show vQ (fun _ => true) (vX t s d) = [.view true 3 ((putH (vE t s).heap d s).map zY), .view true 5 (((vE t s).list.map yO).set (zU t.list s).toNat (yO (onT (gt t.list (zU t.list s)) d))), .int .i64 t.next] by simp only [vQ, hres, hrn, hrh]]
  generalize hrow : (vE t s).list.map yO = row at hg hs ⊢
  have hrowl : row.length = t.list.length := by rw [← hrow]; simp [hsl]
  try simp [-qt, -qd, -ql, rgs, ht, hn, vQ, yH hnx]
  repeat' first | done | ((first | ((with_reducible show zG _ _ _ _ _ _ _); refine zC rfl omA omA ?_) | ((with_reducible show zE _ _ _ 122 _ _); refine zD (s_TimersOk (t := t) (F := F)) ?_) | (refine yA (hs) ?_) | ((with_reducible show zE _ _ _ 121 _ _); refine zD (s_l4At (t := t) (F := F)) ?_) | (((with_reducible show zG _ _ _ _ (.ref _ _ _ _) _ _); refine yI rfl (by omega) (by omega) ?_))) <;> simp [-qt, -qd, -ql, rgs, ht, hn, vQ, yH hnx]) | ((first | (with_reducible refine zA ?_ ?_)) <;> intro qb <;> (have qp := qb; try simp only [psq] at qp) <;> simp [-qt, -qd, -ql, rgs, ht, hn, vQ, yH hnx, qb])
  refine zI3 (sz := 5) (xs := row) (cells := yO (zO2 (gt t.list (zU t.list s)))) (by simp) (by simp) rfl (by decide) hg ?_
  rw [show splice (yO (zO2 (gt t.list (zU t.list s)))) 4 [.bool true] = yO (onT (gt t.list (zU t.list s)) (gt t.list (zU t.list s)).due) from rfl]
  try simp [-qt, -qd, -ql, rgs, ht, hn, vQ, yH hnx]
  repeat' first | done | ((first | ((with_reducible show zG _ _ _ _ _ _ _); refine zC rfl omA omA ?_) | (((with_reducible show zG _ _ _ _ (.ref _ _ _ _) _ _); refine yI rfl (by omega) (by omega) ?_))) <;> simp [-qt, -qd, -ql, rgs, ht, hn, vQ, yH hnx]) | ((first | (with_reducible refine zA ?_ ?_)) <;> intro qb <;> (have qp := qb; try simp only [psq] at qp) <;> simp [-qt, -qd, -ql, rgs, ht, hn, vQ, yH hnx, qb])
  refine zI3 (sz := 5) (xs := row.set (zU t.list s).toNat (yO (onT (gt t.list (zU t.list s)) (gt t.list (zU t.list s)).due))) (cells := yO (onT (gt t.list (zU t.list s)) (gt t.list (zU t.list s)).due)) (by simp) (by simp) rfl (by decide) (by rw [List.getElem?_set_self (by omega)]) ?_
  rw [show splice (yO (onT (gt t.list (zU t.list s)) (gt t.list (zU t.list s)).due)) 1 [.int .i64 d] = yO (onT (gt t.list (zU t.list s)) d) from rfl, List.set_set]
  generalize hrow2 : row.set (zU t.list s).toNat (yO (onT (gt t.list (zU t.list s)) d)) = row2
  have hrowl2 : row2.length = t.list.length := by rw [← hrow2]; simp [hrowl]
  try simp [-qt, -qd, -ql, rgs, vQ, yH hnx]
  repeat' first | done | ((first | ((with_reducible show zG _ _ _ _ _ _ _); refine zC rfl omA omA ?_) | ((with_reducible show zE _ _ _ 124 _ _); refine zD (s_Put hk k3 k2) ?_)) <;> simp [-qt, -qd, -ql, rgs, vQ, yH hnx]) | ((first | (with_reducible refine zA ?_ ?_)) <;> intro qb <;> (have qp := qb; try simp only [psq] at qp) <;> simp [-qt, -qd, -ql, rgs, vQ, yH hnx, qb])
  simp only [hrowl2, Nat.le_refl, if_true]
  rw [List.take_of_length_le (by omega)]
  try simp [-qt, -qd, -ql, rgs]
  repeat' first | done | ((first | ((with_reducible show zG _ _ _ _ _ _ _); refine zC rfl omA omA ?_)) <;> simp [-qt, -qd, -ql, rgs]) | ((first | (with_reducible refine zA ?_ ?_)) <;> intro qb <;> (have qp := qb; try simp only [psq] at qp) <;> simp [-qt, -qd, -ql, rgs, qb])
end Go.AE.Tryz
end

section
/- Contracts of the reference's request to set a timer anew. -/
set_option maxRecDepth 8000
set_option maxHeartbeats 4000000
namespace Go.AE.Tryz
open Go.Proofs
open List renaming map_take → qt, map_drop → qd, map_tail → ql
theorem s_l14Plain {F : Nat → Bool} {w : Wld} {s : Int} : PC ctx.P 35 [.agg (wldV F w), .int .i64 s] (.bool (yY w.timers s)) := by
  have hl := vU w.timers.list s
  by_cases h0 : 0 ≤ zU w.timers.list s
  · have h0b : (0 ≤ zU w.timers.list s) = True := by simp [h0]
    have e : yY w.timers s = ((gt w.timers.list (zU w.timers.list s)).what == 2) := by simp [yY, h0]
    rw [e]
    refine PC.o okC Tryz.func35 rfl (.bool _) fun h nx hnx => ?_
    try simp [-qt, -qd, -ql, rgs, wldV, yO, h0b]
    repeat' first | done | ((first | ((with_reducible show zG _ _ _ _ _ _ _); refine zC rfl omA omA ?_) | ((with_reducible show zE _ _ _ 121 _ _); refine zD (s_l4At (t := w.timers) (F := F)) ?_)) <;> simp [-qt, -qd, -ql, rgs, wldV, yO, h0b]) | ((first | (with_reducible refine zH ?_ ?_)) <;> intro qb <;> (have qp := qb; try simp only [psq] at qp) <;> simp [-qt, -qd, -ql, rgs, wldV, yO, h0b, qb])
  · have h0b : (0 ≤ zU w.timers.list s) = False := by simp [h0]
    have e : yY w.timers s = false := by simp [yY, h0]
    rw [e]
    refine PC.o okC Tryz.func35 rfl (.bool _) fun h nx hnx => ?_
    try simp [-qt, -qd, -ql, rgs, wldV, yO, h0b]
    repeat' first | done | ((first | ((with_reducible show zG _ _ _ _ _ _ _); refine zC rfl omA omA ?_) | ((with_reducible show zE _ _ _ 121 _ _); refine zD (s_l4At (t := w.timers) (F := F)) ?_)) <;> simp [-qt, -qd, -ql, rgs, wldV, yO, h0b]) | ((first | (with_reducible refine zH ?_ ?_)) <;> intro qb <;> (have qp := qb; try simp only [psq] at qp) <;> simp [-qt, -qd, -ql, rgs, wldV, yO, h0b, qb])
theorem s_ResetIn {F : Nat → Bool} {w : Wld} {s d : Int} (hs : zC9 w ≤ 1048576) (ht : -9223372036854775808 ≤ w.now ∧ w.now ≤ 9223372036854775807) (hd : -9223372036854775808 ≤ d ∧ d ≤ 9223372036854775807) : PC ctx.P 9 [.agg (wldV F w), .int .i64 s, .int .i64 d] (.tup [.agg (wldV (fun _ => true) (zE9 w s d)), .bool (zH3 w s)]) := by
  by_cases hw : zB0 w = true
  · by_cases h0 : yY w.timers s = true
    · have g1 : zE9 w s d = { w with timers := vX w.timers s (zK7 w.now d) } := by simp [zE9, hw, h0]
      have g2 : zH3 w s = zD0 w.timers s := by simp [zH3, hw, h0]
      have hto : vJ w.timers = true := by simp [zB0] at hw; exact hw.2.2.2.2.2.2.1
      have h0t : 0 ≤ zU w.timers.list s := by simp [yY] at h0; exact h0.1
      have hr := s_Reset (F := F) (t := w.timers) (s := s) (d := zK7 w.now d) hto h0t
      rw [g1, g2]
      refine PC.o okC Tryz.func9 rfl (.tup _ (by simp only [List.mem_cons, List.not_mem_nil, or_false]; rintro c (rfl | rfl); exact wldV_fz _; exact .bool _)) fun h nx hnx => ?_
      try simp [-qt, -qd, -ql, rgs, hw, h0, wldV, vQ, yH hnx]
      repeat' first | done | ((first | ((with_reducible show zE _ _ _ 33 _ _); refine zD (s_WorldOk (w := w) (F := F)) ?_) | ((with_reducible show zE _ _ _ 34 _ _); refine zD (s_l13Copy (w := w) (F := F) hs) ?_) | ((with_reducible show zE _ _ _ 37 _ _); refine zD (s_Later ht hd) ?_) | ((with_reducible show zE _ _ _ 35 _ _); refine zD (s_l14Plain (w := w) (F := F)) ?_) | (refine zD (hr) ?_) | (with_reducible refine zI (i := 6) [(0, [], []), (1, [], [11]), (2, [], []), (3, [], []), (4, [], [11]), (5, [], []), (6, [.tmp 23], [11]), (7, [], [11]), (8, [], []), (9, [], []), (10, [], []), (11, [], []), (12, [], []), (13, [], [])] (by kernel_rfl) ?_)) <;> simp [-qt, -qd, -ql, rgs, hw, h0, wldV, vQ, yH hnx]) | ((first | (with_reducible refine zA ?_ ?_)) <;> intro qb <;> (have qp := qb; try simp only [psq] at qp) <;> simp [-qt, -qd, -ql, rgs, hw, h0, wldV, vQ, yH hnx, qb])
    · have g1 : zE9 w s d = w := by simp [zE9, hw, h0]
      have g2 : zH3 w s = false := by simp [zH3, hw, h0]
      have h1 : yY w.timers s = false := by simpa using h0
      rw [g1, g2]
      refine PC.o okC Tryz.func9 rfl (.tup _ (by simp only [List.mem_cons, List.not_mem_nil, or_false]; rintro c (rfl | rfl); exact wldV_fz _; exact .bool _)) fun h nx hnx => ?_
      try simp [-qt, -qd, -ql, rgs, hw, h1, wldV]
      repeat' first | done | ((first | ((with_reducible show zE _ _ _ 33 _ _); refine zD (s_WorldOk (w := w) (F := F)) ?_) | ((with_reducible show zE _ _ _ 34 _ _); refine zD (s_l13Copy (w := w) (F := F) hs) ?_) | ((with_reducible show zE _ _ _ 35 _ _); refine zD (s_l14Plain (w := w) (F := F)) ?_) | (with_reducible refine zI (i := 6) [(0, [], []), (1, [], [11]), (2, [], []), (3, [], []), (4, [], [11]), (5, [], []), (6, [.tmp 23], [11]), (7, [], [11]), (8, [], []), (9, [], []), (10, [], []), (11, [], []), (12, [], []), (13, [], [])] (by kernel_rfl) ?_)) <;> simp [-qt, -qd, -ql, rgs, hw, h1, wldV]) | ((first | (with_reducible refine zA ?_ ?_)) <;> intro qb <;> (have qp := qb; try simp only [psq] at qp) <;> simp [-qt, -qd, -ql, rgs, hw, h1, wldV, qb])
  · have g1 : zE9 w s d = default := by simp [zE9, hw]
    have g2 : zH3 w s = false := by simp [zH3, hw]
    rw [g1, g2]
    refine PC.nv (r := .tup [.agg zeroC, .bool false]) ?_ (.tups (.cons (.aggs nvs_world) (.cons (.same _) .nil)))
    refine PC.o okC Tryz.func9 rfl (.tup _ (by simp only [List.mem_cons, List.not_mem_nil, or_false]; rintro c (rfl | rfl); exact zeroC_fz; exact .bool _)) fun h nx hnx => ?_
    try simp [-qt, -qd, -ql, rgs, hw, wldV, zeroC]
    repeat' first | done | ((first | ((with_reducible show zE _ _ _ 33 _ _); refine zD (s_WorldOk (w := w) (F := F)) ?_) | (with_reducible refine zI (i := 6) [(0, [], []), (1, [], [11]), (2, [], []), (3, [], []), (4, [], [11]), (5, [], []), (6, [.tmp 23], [11]), (7, [], [11]), (8, [], []), (9, [], []), (10, [], []), (11, [], []), (12, [], []), (13, [], [])] (by kernel_rfl) ?_)) <;> simp [-qt, -qd, -ql, rgs, hw, wldV, zeroC]) | ((first | (with_reducible refine zA ?_ ?_)) <;> intro qb <;> (have qp := qb; try simp only [psq] at qp) <;> simp [-qt, -qd, -ql, rgs, hw, wldV, zeroC, qb])
end Go.AE.Tryz
end

section
/- The law of timers set anew: what the program and the reference make of a world is the same, in memory of its own. -/
set_option maxRecDepth 8000
set_option maxHeartbeats 4000000
namespace Go.AE.Tryz
open Go.Proofs
open List renaming map_take → qt, map_drop → qd, map_tail → ql
theorem law_ResetIn {w : Wld} {s d : Int} (ht : -9223372036854775808 ≤ w.now ∧ w.now ≤ 9223372036854775807) (hd : -9223372036854775808 ≤ d ∧ d ≤ 9223372036854775807) : PC ctx.P 3 [.agg (wldV (fun _ => true) w), .int .i64 s, .int .i64 d] (.bool true) := by
  by_cases hs : zC9 w ≤ 1048576
  · have e : szR (zC9 w) 1048576 = 1048576 - zC9 w := by rcases uX (zC9 w) 1048576 with q | q <;> omega
    have hs2 : zC9 (zE9 w s d) ≤ 1048576 := reset_ask.1 ▸ ask_sz hs
    have hcB : ∀ (F : Nat → Bool), WC ctx.P 11 [.agg (wldV F w), .int .i64 s, .int .i64 d] (fun X => .tup [.agg (zF9 X (zE9 w s d)), .bool (zH3 w s)]) (zE9 w s d) := fun F => w_ResetIn hs ht hd
    have hcS := s_ResetIn (F := fun _ => true) (s := s) (d := d) hs ht hd
    generalize zE9 w s d = W at *
    generalize zH3 w s = B at *
    refine PC.o okC Tryz.func3 rfl (.bool _) fun h nx hnx => ?_
    try simp [-qt, -qd, -ql, rgs, e, yW, vS, yX]
    repeat' first | done | ((first | ((with_reducible show zE _ _ _ 8 _ _); refine zD (c_szWorld (s := w) (F := fun _ => true) (by omega) (by omega)) ?_) | (with_reducible refine zI (i := 10) [(0, [], []), (1, [], []), (2, [.tmp 10], []), (3, [], []), (4, [], [])] (by kernel_rfl) ?_)) <;> simp [-qt, -qd, -ql, rgs, e, yW, vS, yX]) | ((first | (with_reducible refine zH ?_ ?_) | (with_reducible refine zA ?_ ?_)) <;> intro qb <;> (have qp := qb; try simp only [psq] at qp) <;> simp [-qt, -qd, -ql, rgs, e, yW, vS, yX, qb])
    all_goals first | omega | skip
    refine zD (s_toWorld (s := w) (F := fun _ => true) hs) ?_
    try simp [-qt, -qd, -ql, rgs, yW, vS, yX]
    repeat' first | done | ((first | (refine zD (hcS) ?_) | (with_reducible refine zI (i := 10) [(0, [], []), (1, [], []), (2, [.tmp 10], []), (3, [], []), (4, [], [])] (by kernel_rfl) ?_)) <;> simp [-qt, -qd, -ql, rgs, yW, vS, yX]) | ((first | (with_reducible refine zH ?_ ?_) | (with_reducible refine zA ?_ ?_)) <;> intro qb <;> (have qp := qb; try simp only [psq] at qp) <;> simp [-qt, -qd, -ql, rgs, yW, vS, yX, qb])
    refine vB (w_toWorld (F := fun _ => true) hs) trivial ?_
    rintro r h1 n1 ⟨hK1, X, rfl, V1, hid1⟩ hle1 hfr1
    dsimp only at hK1 hid1 hle1
    try simp [-qt, -qd, -ql, rgs, zO X w, yC, zW]
    repeat' first | done | ((first | (with_reducible refine zI (i := 10) [(0, [], []), (1, [], []), (2, [.tmp 10], []), (3, [], []), (4, [], [])] (by kernel_rfl) ?_)) <;> simp [-qt, -qd, -ql, rgs, zO X w, yC, zW]) | ((first | (with_reducible refine zH ?_ ?_) | (with_reducible refine zA ?_ ?_)) <;> intro qb <;> (have qp := qb; try simp only [psq] at qp) <;> simp [-qt, -qd, -ql, rgs, zO X w, yC, zW, qb])
    refine call_wcB (hcB FF) (fun X => rrW_cl X W B) ?hb ?_
    case hb => exact .cons (.agg1 (V1.keep fun id hid => by have := hid1 id hid; dsimp only; repeat rw [zK _ _ _ _ (by omega)]).bors) (.cons (.same _) (.cons (.same _) (.nil)))
    intro X2 h2 n2 V2 hid2 hle2 hf2
    dsimp only at hid2 hle2 hf2
    have nX2 : ∀ j, j < n1 + 10 ∨ n2 ≤ j → j ∉ X2.ids := fun j hj hm => by have := hid2 j hm; omega
    have oS2 : h2 (nx + 17) = some (.obj (wldV (fun _ => true) W)) := by
      rw [hf2 _ (nX2 _ (by omega))]
      repeat rw [zK _ _ _ _ (by omega)]
      rw [hK1 _ (by omega), zL]
    have n16 : (nx + 17 = n1 + 7) = False := by simp only [eq_iff_iff, iff_false]; omega
    try simp [-qt, -qd, -ql, rgs, n16, oS2, yW, vS, yX, zO X2 W, yC, zW]
    repeat' first | done | ((first | (with_reducible refine zI (i := 10) [(0, [], []), (1, [], []), (2, [.tmp 10], []), (3, [], []), (4, [], [])] (by kernel_rfl) ?_)) <;> simp [-qt, -qd, -ql, rgs, n16, oS2, yW, vS, yX, zO X2 W, yC, zW]) | ((first | (with_reducible refine zH ?_ ?_) | (with_reducible refine zA ?_ ?_)) <;> intro qb <;> (have qp := qb; try simp only [psq] at qp) <;> simp [-qt, -qd, -ql, rgs, n16, oS2, yW, vS, yX, zO X2 W, yC, zW, qb])
    generalize hH : upd (upd h2 (n1 + 7) _) (n1 + 7) (some (Ent.obj (zF9 X2 W))) = H3
    have hX : ∀ j ∈ X.ids, nx + 24 ≤ j ∧ j < n1 := hid1
    have hX2 : ∀ j ∈ X2.ids, n1 + 10 ≤ j ∧ j < n2 := hid2
    have nX : ∀ j, j < nx + 24 ∨ n1 ≤ j → j ∉ X.ids := fun j hj hm => by have := hX j hm; omega
    have V3 : WV H3 X w := hH ▸ (V1.keep fun id hid => by have := hX id hid; (repeat rw [zK _ _ _ _ (by omega)]); rw [hf2 id (nX2 _ (by omega))]; repeat rw [zK _ _ _ _ (by omega)])
    have G3 : WV H3 X2 W := hH ▸ (V2.keep fun id hid => by have := hX2 id hid; repeat rw [zK _ _ _ _ (by omega)])
    have oG3 : H3 (n1 + 7) = some (.obj (zF9 X2 W)) := by rw [← hH, zL]
    have oX3 : H3 (nx + 22) = some (.obj (zF9 X w)) := by
      rw [← hH]
      repeat rw [zK _ _ _ _ (by omega)]
      rw [hf2 _ (nX2 _ (by omega)), zL]
    have oS3 : H3 (nx + 17) = some (.obj (wldV (fun _ => true) W)) := by
      rw [← hH]
      repeat rw [zK _ _ _ _ (by omega)]
      rw [hf2 _ (nX2 _ (by omega))]
      repeat rw [zK _ _ _ _ (by omega)]
      rw [hK1 _ (by omega), zL]
    have oA3 : H3 nx = some (.obj (wldV (fun _ => true) w)) := by
      rw [← hH]
      repeat rw [zK _ _ _ _ (by omega)]
      rw [hf2 _ (nX2 _ (by omega))]
      repeat rw [zK _ _ _ _ (by omega)]
      rw [hK1 _ (by omega)]
      repeat rw [zK _ _ _ _ (by omega)]
      rw [zL]
    have K3 : KeepB nx H3 h := fun j hj => by
      rw [← hH]
      repeat rw [zK _ _ _ _ (by omega)]
      rw [hf2 _ (nX2 _ (by omega))]
      repeat rw [zK _ _ _ _ (by omega)]
      rw [hK1 _ (by omega)]
      repeat rw [zK _ _ _ _ (by omega)]
    clear hH hf2 hK1 V1 V2 hid1 hid2
    refine yL (zO5 (x := W) (y := W) (F1 := FF) (F2 := fun _ => true)) (.bool _) ?hb3 ?_
    case hb3 => exact .cons (.agg1 G3.bors) (.cons (.same _) .nil)
    try simp [-qt, -qd, -ql, rgs, oG3, oS3, oX3, oA3, yW, vS, yX, zO X w, zO X2 W, yC, zW]
    repeat' first | done | ((first | ((with_reducible show zE _ _ _ 10 _ _); refine zD (s_toWorld (s := w) (F := fun _ => true) hs) ?_) | (with_reducible refine zI (i := 10) [(0, [], []), (1, [], []), (2, [.tmp 10], []), (3, [], []), (4, [], [])] (by kernel_rfl) ?_)) <;> simp [-qt, -qd, -ql, rgs, oG3, oS3, oX3, oA3, yW, vS, yX, zO X w, zO X2 W, yC, zW]) | ((first | (with_reducible refine zH ?_ ?_) | (with_reducible refine zA ?_ ?_)) <;> intro qb <;> (have qp := qb; try simp only [psq] at qp) <;> simp [-qt, -qd, -ql, rgs, oG3, oS3, oX3, oA3, yW, vS, yX, zO X w, zO X2 W, yC, zW, qb])
    refine yL (zO5 (x := w) (y := w) (F1 := FF) (F2 := fun _ => true)) (.bool _) ?hb4 ?_
    case hb4 => exact .cons (.agg1 V3.bors) (.cons (.same _) .nil)
    try simp [-qt, -qd, -ql, rgs, oX3, yW, vS, yX, zO X w, zO X2 W, yC, zW]
    repeat' first | done | ((first | (with_reducible refine zI (i := 10) [(0, [], []), (1, [], []), (2, [.tmp 10], []), (3, [], []), (4, [], [])] (by kernel_rfl) ?_)) <;> simp [-qt, -qd, -ql, rgs, oX3, yW, vS, yX, zO X w, zO X2 W, yC, zW]) | ((first | (with_reducible refine zH ?_ ?_) | (with_reducible refine zA ?_ ?_)) <;> intro qb <;> (have qp := qb; try simp only [psq] at qp) <;> simp [-qt, -qd, -ql, rgs, oX3, yW, vS, yX, zO X w, zO X2 W, yC, zW, qb])
    refine vB (m_markWorld (X := X) (w := w) (k := 1) hs (by omega) (by omega)) V3 ?_
    rintro r H4 n4 ⟨rfl, V4, f4⟩ hle4 hfr4
    dsimp only at V4 f4 hle4
    have oG4 := f4 (n1 + 7) (by omega) (nX _ (by omega))
    have oS4 := f4 (nx + 17) (by omega) (nX _ (by omega))
    have oA4 := f4 nx (by omega) (nX _ (by omega))
    rw [oG3] at oG4
    rw [oS3] at oS4
    rw [oA3] at oA4
    have G4 : WV H4 X2 W := G3.keep fun id hid => f4 id (by have := hX2 id hid; omega) (nX _ (by have := hX2 id hid; omega))
    have K4 : KeepB nx H4 h := fun j hj => by rw [f4 j (by omega) (nX _ (by omega)), K3 j hj]
    have z4 : (kZ w 1 < 0) = False := by
      simp only [eq_iff_iff, iff_false]
      simp only [kZ, kR, kB, kV, kG, kK, kF, kU, kA, kL, kH, kW, kS, kE, kT]; omega
    clear hfr4
    try simp [-qt, -qd, -ql, rgs, z4, oG4, oS4, yW, vS, yX, zO X w, zO X2 W, yC, zW]
    repeat' first | done | ((first | (with_reducible refine zI (i := 10) [(0, [], []), (1, [], []), (2, [.tmp 10], []), (3, [], []), (4, [], [])] (by kernel_rfl) ?_)) <;> simp [-qt, -qd, -ql, rgs, z4, oG4, oS4, yW, vS, yX, zO X w, zO X2 W, yC, zW]) | ((first | (with_reducible refine zH ?_ ?_) | (with_reducible refine zA ?_ ?_)) <;> intro qb <;> (have qp := qb; try simp only [psq] at qp) <;> simp [-qt, -qd, -ql, rgs, z4, oG4, oS4, yW, vS, yX, zO X w, zO X2 W, yC, zW, qb])
    refine yL (zO5 (x := W) (y := W) (F1 := FF) (F2 := fun _ => true)) (.bool _) ?hb5 ?_
    case hb5 => exact .cons (.agg1 G4.bors) (.cons (.same _) .nil)
    try simp [-qt, -qd, -ql, rgs, z4, oG4, oS4, yW, vS, yX, zO X w, zO X2 W, yC, zW]
    repeat' first | done | ((first | (with_reducible refine zI (i := 10) [(0, [], []), (1, [], []), (2, [.tmp 10], []), (3, [], []), (4, [], [])] (by kernel_rfl) ?_)) <;> simp [-qt, -qd, -ql, rgs, z4, oG4, oS4, yW, vS, yX, zO X w, zO X2 W, yC, zW]) | ((first | (with_reducible refine zH ?_ ?_) | (with_reducible refine zA ?_ ?_)) <;> intro qb <;> (have qp := qb; try simp only [psq] at qp) <;> simp [-qt, -qd, -ql, rgs, z4, oG4, oS4, yW, vS, yX, zO X w, zO X2 W, yC, zW, qb])
    refine vB (m_markWorld (X := X2) (w := W) (k := 1) hs2 (by omega) (by omega)) G4 ?_
    rintro r H5 n5 ⟨rfl, G5, f5⟩ hle5 hfr5
    dsimp only at G5 f5 hle5
    have oG5 := f5 (n1 + 7) (by omega) (nX2 _ (by omega))
    have oS5 := f5 (nx + 17) (by omega) (nX2 _ (by omega))
    have oA5 := f5 nx (by omega) (nX2 _ (by omega))
    rw [oG4] at oG5
    rw [oS4] at oS5
    rw [oA4] at oA5
    have K5 : KeepB nx H5 h := fun j hj => by rw [f5 j (by omega) (nX2 _ (by omega)), K4 j hj]
    have z5 : (kZ W 1 < 0) = False := by
      simp only [eq_iff_iff, iff_false]
      simp only [kZ, kR, kB, kV, kG, kK, kF, kU, kA, kL, kH, kW, kS, kE, kT]; omega
    clear hfr5
    try simp [-qt, -qd, -ql, rgs, z5, oG5, yW, vS, yX, zO X w, zO X2 W, yC, zW]
    repeat' first | done | ((first | (with_reducible refine zI (i := 10) [(0, [], []), (1, [], []), (2, [.tmp 10], []), (3, [], []), (4, [], [])] (by kernel_rfl) ?_)) <;> simp [-qt, -qd, -ql, rgs, z5, oG5, yW, vS, yX, zO X w, zO X2 W, yC, zW]) | ((first | (with_reducible refine zH ?_ ?_) | (with_reducible refine zA ?_ ?_)) <;> intro qb <;> (have qp := qb; try simp only [psq] at qp) <;> simp [-qt, -qd, -ql, rgs, z5, oG5, yW, vS, yX, zO X w, zO X2 W, yC, zW, qb])
    refine yL (h_heldWorld (F := FF) (w := W) (k := 1) hs2 (by omega) (by omega)) (.int _ _) ?hb6 ?_
    case hb6 => exact .cons (.agg1 (wldR_mk X2 W 1 ▸ G5.bors)) (.cons (.same _) .nil)
    try simp [-qt, -qd, -ql, rgs, z5, oA5, yW, vS, yX, zO X w, zO X2 W, yC, zW]
    repeat' first | done | ((first | ((with_reducible show zE _ _ _ 10 _ _); refine zD (s_toWorld (s := w) (F := fun _ => true) hs) ?_) | (with_reducible refine zI (i := 10) [(0, [], []), (1, [], []), (2, [.tmp 10], []), (3, [], []), (4, [], [])] (by kernel_rfl) ?_)) <;> simp [-qt, -qd, -ql, rgs, z5, oA5, yW, vS, yX, zO X w, zO X2 W, yC, zW]) | ((first | (with_reducible refine zH ?_ ?_) | (with_reducible refine zA ?_ ?_)) <;> intro qb <;> (have qp := qb; try simp only [psq] at qp) <;> simp [-qt, -qd, -ql, rgs, z5, oA5, yW, vS, yX, zO X w, zO X2 W, yC, zW, qb])
    refine call_wc (hcB _) ?_
    intro X6 H6 n6 V6 hid6 hle6 f6
    dsimp only at hid6 hle6 f6
    have nX6 : ∀ j, j < n5 → j ∉ X6.ids := fun j hj hm => by have := hid6 j hm; omega
    have oG6 := f6 (n1 + 7) (nX6 _ (by omega))
    have oS6 := f6 (nx + 17) (nX6 _ (by omega))
    rw [oG5] at oG6
    rw [oS5] at oS6
    have G6 : WV H6 X2 (mkWld W 1) := G5.keep fun id hid => f6 id (nX6 _ (by have := hX2 id hid; omega))
    have K6 : KeepB nx H6 h := fun j hj => by rw [f6 j (nX6 _ (by omega)), K5 j hj]
    have n17 : (nx + 17 = n5 + 18) = False := by simp only [eq_iff_iff, iff_false]; omega
    have m18 : ∀ k, (n1 = n5 + k) = False := fun k => by simp only [eq_iff_iff, iff_false]; omega
    have m19 : ∀ k, (nx = n5 + k) = False := fun k => by simp only [eq_iff_iff, iff_false]; omega
    have m17 : (n1 + 7 = n5 + 18) = False := by simp only [eq_iff_iff, iff_false]; omega
    try simp [-qt, -qd, -ql, rgs, n17, m17, m18, m19, z5, oG6, oS6, zO X6 W, yW, vS, yX, zO X2 W, yC, zW]
    repeat' first | done | ((first | (with_reducible refine zI (i := 10) [(0, [], []), (1, [], []), (2, [.tmp 10], []), (3, [], []), (4, [], [])] (by kernel_rfl) ?_)) <;> simp [-qt, -qd, -ql, rgs, n17, m17, m18, m19, z5, oG6, oS6, zO X6 W, yW, vS, yX, zO X2 W, yC, zW]) | ((first | (with_reducible refine zH ?_ ?_) | (with_reducible refine zA ?_ ?_)) <;> intro qb <;> (have qp := qb; try simp only [psq] at qp) <;> simp [-qt, -qd, -ql, rgs, n17, m17, m18, m19, z5, oG6, oS6, zO X6 W, yW, vS, yX, zO X2 W, yC, zW, qb])
    refine yL (zO5 (x := W) (y := W) (F1 := FF) (F2 := fun _ => true)) (.bool _) ?hb7 ?_
    case hb7 => exact .cons (.agg1 (V6.keep fun id hid => by have := hid6 id hid; dsimp only; repeat rw [zK _ _ _ _ (by omega)]).bors) (.cons (.same _) .nil)
    try simp [-qt, -qd, -ql, rgs, n17, m17, m18, m19, z5, oG6, oS6, zO X6 W, yW, vS, yX, zO X2 W, yC, zW]
    repeat' first | done | ((first | (with_reducible refine zI (i := 10) [(0, [], []), (1, [], []), (2, [.tmp 10], []), (3, [], []), (4, [], [])] (by kernel_rfl) ?_)) <;> simp [-qt, -qd, -ql, rgs, n17, m17, m18, m19, z5, oG6, oS6, zO X6 W, yW, vS, yX, zO X2 W, yC, zW]) | ((first | (with_reducible refine zH ?_ ?_) | (with_reducible refine zA ?_ ?_)) <;> intro qb <;> (have qp := qb; try simp only [psq] at qp) <;> simp [-qt, -qd, -ql, rgs, n17, m17, m18, m19, z5, oG6, oS6, zO X6 W, yW, vS, yX, zO X2 W, yC, zW, qb])
    refine yL (h_heldWorld (F := FF) (w := W) (k := 1) hs2 (by omega) (by omega)) (.int _ _) ?hb8 ?_
    case hb8 => exact .cons (.agg1 (wldR_mk X2 W 1 ▸ (G6.keep fun id hid => by have := hX2 id hid; dsimp only; repeat rw [zK _ _ _ _ (by omega)]).bors)) (.cons (.same _) .nil)
    try simp [-qt, -qd, -ql, rgs, z5]
    repeat' first | done | ((first | (with_reducible refine zI (i := 10) [(0, [], []), (1, [], []), (2, [.tmp 10], []), (3, [], []), (4, [], [])] (by kernel_rfl) ?_)) <;> simp [-qt, -qd, -ql, rgs, z5]) | ((first | (with_reducible refine zH ?_ ?_) | (with_reducible refine zA ?_ ?_)) <;> intro qb <;> (have qp := qb; try simp only [psq] at qp) <;> simp [-qt, -qd, -ql, rgs, z5, qb])
    exact zO0 (by omega) (zO0 (by omega) K6)
  · have e : szR (zC9 w) 1048576 = -1 := by rcases uX (zC9 w) 1048576 with q | q <;> omega
    refine PC.o okC Tryz.func3 rfl (.bool _) fun h nx hnx => ?_
    try simp [-qt, -qd, -ql, rgs, e]
    repeat' first | done | ((first | ((with_reducible show zE _ _ _ 8 _ _); refine zD (c_szWorld (s := w) (F := fun _ => true) (by omega) (by omega)) ?_) | (with_reducible refine zI (i := 10) [(0, [], []), (1, [], []), (2, [.tmp 10], []), (3, [], []), (4, [], [])] (by kernel_rfl) ?_)) <;> simp [-qt, -qd, -ql, rgs, e]) | ((first | (with_reducible refine zH ?_ ?_) | (with_reducible refine zA ?_ ?_)) <;> intro qb <;> (have qp := qb; try simp only [psq] at qp) <;> simp [-qt, -qd, -ql, rgs, e, qb])
end Go.AE.Tryz
end
