/- Contracts of the seat's functions: what each answers, for all arguments. -/
import Derived.Test.YtfffnioddgeohaaGreatB1
import Derived.Test.YtfffnioddgeohaaGreatA3
import Derived.Test.YtfffnioddgeohaaGreatA4
set_option linter.unusedVariables false
set_option linter.unusedSimpArgs false
set_option linter.deprecated false
section
/- Contracts of the program's requests: what is asked of a world, and what it makes of a copy. -/
set_option maxRecDepth 8000
set_option maxHeartbeats 4000000
namespace Go.AE.Tryz
open Go.Proofs
open List (map_take map_drop map_tail)
theorem wldR_ones (X : WI) (w : Wld) : (∀ x ∈ wldR X w, x.one = true) = True := by simp [wldR]
theorem wldR_len (X : WI) (w : Wld) : (wldR X w).length = 17 := rfl
theorem wldR_take (X : WI) (w : Wld) : (wldR X w).take 17 = wldR X w := rfl
theorem wldV_ones {F : Nat → Bool} {w : Wld} : (∀ x ∈ wldV F w, x.one = true) = True := by simp [wldV]
theorem wldV_len (F : Nat → Bool) (w : Wld) : (wldV F w).length = 17 := rfl
theorem wldV_take (F : Nat → Bool) (w : Wld) : (wldV F w).take 17 = wldV F w := rfl
theorem w_cloned {F : Nat → Bool} {w : Wld} (hs : wldsz w ≤ 1048576) : WC ctx.P 124 [.agg (wldV F w)] (fun X => .agg (wldR X w)) w := WC.of (w_clonedA hs)
theorem w_asked {F : Nat → Bool} {w w' : Wld} {b : Bool} {g : FuncId} {qs : List (Nat × List AV × List AV)} (hs : wldsz w ≤ 1048576) (hd : wldOk w = true → DoOk ctx.P g qs w w' b) :
    AC ctx.P 29 [.agg (wldV F w), .fn g (qs.map fun q => .ptr q.1 0)] (fun h _ => ∀ q ∈ qs, h q.1 = some (.obj q.2.1))
    (AskQ qs w w' b) := by
  refine AC.ghostT ?_
  refine AC.o okC Tryz.func29 rfl fun h nx hfr hnx hpre => ?_
  have hqn : ∀ q ∈ qs, q.1 < nx := fun q hq => hnx q.1 (by rw [hpre q hq]; simp)
  by_cases hw : wldOk w = true
  · try simp [-map_take, -map_drop, -map_tail, rgs, hw, wldV_ones, wldV_len, wldV_take]
    repeat' first | done | (((with_reducible show doCall _ _ _ 28 _ _); refine call_pc (c_WorldOk (w := w) (F := F)) ?_) <;> simp [-map_take, -map_drop, -map_tail, rgs, hw, wldV_ones, wldV_len, wldV_take]) | fail
    refine call_wc (w_cloned (F := F) hs) ?_
    intro X1 h1 n1 V1 hid1 hle1 hfr1
    dsimp only at hid1 hle1 hfr1
    have nX : ∀ j, j < nx + 9 → j ∉ X1.ids := fun j hj hm => by have := hid1 j hm; omega
    try simp [-map_take, -map_drop, -map_tail, rgs, hw, wldR_ones X1 w, wldR_len, wldR_take]
    generalize hH : upd (upd h1 (nx + 8) _) (nx + 8) (some (Ent.obj (wldR X1 w))) = H2
    have V2 : WV H2 X1 w := hH ▸ (V1.keep fun id hid => by have := hid1 id hid; repeat rw [upd_ne _ _ _ _ (by omega)])
    have o2 : H2 (nx + 8) = some (.obj (wldR X1 w)) := by rw [← hH, upd_same]
    have a2 : H2 nx = some (.obj (wldV F w)) := by
      rw [← hH]
      repeat rw [upd_ne _ _ _ _ (by omega)]
      rw [hfr1 nx (nX _ (by omega))]
      repeat (first | exact upd_same .. | rw [upd_ne _ _ _ _ (by omega)])
    have z2 : H2 (nx + 1) = some (.obj [AV.int IntKind.i64 0, AV.nil, AV.nil, AV.nil, AV.nil, AV.nil, AV.nil, AV.nil, AV.int IntKind.i64 0, AV.nil, AV.nil, AV.nil, AV.nil, AV.nil, AV.nil, AV.nil, AV.nil]) := by
      rw [← hH]
      repeat rw [upd_ne _ _ _ _ (by omega)]
      rw [hfr1 (nx + 1) (nX _ (by omega))]
      exact upd_same ..
    have K2 : ∀ j, j < nx → H2 j = h j := fun j hj => by
      rw [← hH]
      repeat rw [upd_ne _ _ _ _ (by omega)]
      rw [hfr1 j (nX _ (by omega))]
      repeat rw [upd_ne _ _ _ _ (by omega)]
    clear hH
    have qn : ∀ j, nx ≤ j → ∀ q ∈ qs, j ≠ q.1 := fun j hj q hq => by have := hqn q hq; omega
    refine call_ac (hd hw (nx + 8) X1) ⟨o2, V2, fun q hq => ⟨by dsimp only; rw [K2 _ (hqn q hq)]; exact hpre q hq, by have := hqn q hq; omega⟩⟩ ?_
    rintro r h3 n3 ⟨rfl, hb, hq3, hf3⟩ hle3 hfr3
    dsimp only at hb hf3 hle3
    have a3 := hf3 nx (by omega) (by omega) (nX _ (by omega)) (qn _ (by omega))
    have z3 := hf3 (nx + 1) (by omega) (by omega) (nX _ (by omega)) (qn _ (by omega))
    rw [a2] at a3
    rw [z2] at z3
    have K3 : ∀ j, j < nx → (∀ q ∈ qs, j ≠ q.1) → h3 j = h j := fun j hj hq => by rw [hf3 j (by omega) (by omega) (nX _ (by omega)) hq, K2 j hj]
    cases b with
    | false =>
      try simp [-map_take, -map_drop, -map_tail, rgs, a3, z3, wldV_ones, wldV_len, wldV_take]
      refine call_wc (w_cloned (F := F) hs) ?_
      intro X4 h4 n4 V4 hid4 hle4 hfr4
      dsimp only at hid4 hle4 hfr4
      have z4 := hfr4 (nx + 1) (fun hm => by have := hid4 _ hm; omega)
      rw [z3] at z4
      try simp [-map_take, -map_drop, -map_tail, rgs, z4, wldR_ones X4 w, wldR_len, wldR_take]
      have e1 : askW w w' false = w := by simp [askW, hw]
      have e2 : askB w w' false = false := by simp [askB]
      refine .done ⟨⟨X4, by rw [e1, e2], by rw [e1]; exact V4.keep fun id hid => (by have := hid4 id hid; repeat rw [upd_ne _ _ _ _ (by omega)]), fun id hid => by have := hid4 id hid; omega⟩, fun q hq => ?_, fun j hj hq => ?_⟩
      · have := hqn q hq
        rw [if_pos hw, upd_ne _ _ _ _ (by omega), hfr4 _ (fun hm => by have := hid4 _ hm; omega)]
        exact hq3 q hq
      · rw [upd_ne _ _ _ _ (by omega), hfr4 _ (fun hm => by have := hid4 _ hm; omega)]
        exact K3 j hj hq
    | true =>
      obtain ⟨X3, o3, V3, hid3⟩ := hb rfl
      try simp [-map_take, -map_drop, -map_tail, rgs, a3, z3, o3, wldR_ones X3 w', wldR_len, wldR_take]
      refine call_pcB (c_WorldOk (w := w') (F := FF)) (.bool _) ?hb2 ?_
      case hb2 => exact .cons (.agg1 V3.bors) .nil
      by_cases hw2 : wldOk w' = true
      · try simp [-map_take, -map_drop, -map_tail, rgs, a3, z3, o3, hw2, wldR_ones X3 w', wldR_len, wldR_take]
        have e1 : askW w w' true = w' := by simp [askW, hw, hw2]
        have e2 : askB w w' true = true := by simp [askB, hw, hw2]
        have hb3 : ∀ id ∈ X3.ids, nx + 9 ≤ id ∧ id < n3 := fun id hid => by
          rcases hid3 id hid with q | q
          · have := hid1 id q; omega
          · omega
        refine .done ⟨⟨X3, by rw [e1, e2], by rw [e1]; exact V3.keep fun id hid => (by have := hb3 id hid; rw [upd_ne _ _ _ _ (by omega)]), fun id hid => by have := hb3 id hid; omega⟩, fun q hq => ?_, fun j hj hq => ?_⟩
        · have := hqn q hq
          rw [if_pos hw, upd_ne _ _ _ _ (by omega)]
          exact hq3 q hq
        · rw [upd_ne _ _ _ _ (by omega)]
          exact K3 j hj hq
      · try simp [-map_take, -map_drop, -map_tail, rgs, a3, z3, o3, hw2, wldV_ones, wldV_len, wldV_take]
        refine call_wc (w_cloned (F := F) hs) ?_
        intro X4 h4 n4 V4 hid4 hle4 hfr4
        dsimp only at hid4 hle4 hfr4
        have z4 := hfr4 (nx + 1) (fun hm => by have := hid4 _ hm; omega)
        rw [z3] at z4
        try simp [-map_take, -map_drop, -map_tail, rgs, z4, wldR_ones X4 w, wldR_len, wldR_take]
        have e1 : askW w w' true = w := by simp [askW, hw, hw2]
        have e2 : askB w w' true = false := by simp [askB, hw2]
        refine .done ⟨⟨X4, by rw [e1, e2], by rw [e1]; exact V4.keep fun id hid => (by have := hid4 id hid; repeat rw [upd_ne _ _ _ _ (by omega)]), fun id hid => by have := hid4 id hid; omega⟩, fun q hq => ?_, fun j hj hq => ?_⟩
        · have := hqn q hq
          rw [if_pos hw, upd_ne _ _ _ _ (by omega), hfr4 _ (fun hm => by have := hid4 _ hm; omega)]
          exact hq3 q hq
        · rw [upd_ne _ _ _ _ (by omega), hfr4 _ (fun hm => by have := hid4 _ hm; omega)]
          exact K3 j hj hq
  · try simp [-map_take, -map_drop, -map_tail, rgs, hw, wldV_ones, wldV_len, wldV_take]
    repeat' first | done | (((with_reducible show doCall _ _ _ 28 _ _); refine call_pc (c_WorldOk (w := w) (F := F)) ?_) <;> simp [-map_take, -map_drop, -map_tail, rgs, hw, wldV_ones, wldV_len, wldV_take]) | fail
    exact AskQ.bad hw hpre hqn (fun j hj => by repeat rw [upd_ne _ _ _ _ (by omega)]) (by omega)
theorem c_Later {t d : Int} (ht : -9223372036854775808 ≤ t ∧ t ≤ 9223372036854775807) (hd : -9223372036854775808 ≤ d ∧ d ≤ 9223372036854775807) : PC ctx.P 32 [.int .i64 t, .int .i64 d] (.int .i64 (later t d)) := by
  by_cases h0 : 0 < d
  · obtain ⟨m1, hm1⟩ : ∃ m1 : Int, m1 = 9223372036854775807 - d := ⟨_, rfl⟩
    have e1w : IntKind.i64.wrap (9223372036854775807 - d) = m1 := by rw [hm1]; exact i64_ok (by omega)
    have h1 : ¬ d < 0 := by omega
    refine PC.o okC Tryz.func32 rfl (.int _ _) fun h nx hnx => ?_
    try simp [-map_take, -map_drop, -map_tail, rgs, e1w, h0, h1]
    repeat' first | done | ((with_reducible refine condS_split ?_ ?_) <;> intro qb <;> (have qp := qb; try simp only [psq] at qp) <;> simp [-map_take, -map_drop, -map_tail, rgs, e1w, h0, h1, qb])
    all_goals (clear hnx; (try rw [i64_ok (by omega)]); simp only [later]; repeat (first | rw [if_pos (by omega)] | rw [if_neg (by omega)]))
  · by_cases h1 : d < 0
    · obtain ⟨m1, hm1⟩ : ∃ m1 : Int, m1 = -9223372036854775808 - d := ⟨_, rfl⟩
      have e1w : IntKind.i64.wrap (-9223372036854775808 - d) = m1 := by rw [hm1]; exact i64_ok (by omega)
      refine PC.o okC Tryz.func32 rfl (.int _ _) fun h nx hnx => ?_
      try simp [-map_take, -map_drop, -map_tail, rgs, e1w, h0, h1]
      repeat' first | done | ((with_reducible refine condS_split ?_ ?_) <;> intro qb <;> (have qp := qb; try simp only [psq] at qp) <;> simp [-map_take, -map_drop, -map_tail, rgs, e1w, h0, h1, qb])
      all_goals (clear hnx; (try rw [i64_ok (by omega)]); simp only [later]; repeat (first | rw [if_pos (by omega)] | rw [if_neg (by omega)]))
    · refine PC.o okC Tryz.func32 rfl (.int _ _) fun h nx hnx => ?_
      try simp [-map_take, -map_drop, -map_tail, rgs, h0, h1]
      all_goals (clear hnx; (try rw [i64_ok (by omega)]); simp only [later]; repeat (first | rw [if_pos (by omega)] | rw [if_neg (by omega)]))
theorem d_Tick {w : Wld} {d : Int} {q : Nat} (ht : -9223372036854775808 ≤ w.now ∧ w.now ≤ 9223372036854775807) (hd : -9223372036854775808 ≤ d ∧ d ≤ 9223372036854775807) : DoOk ctx.P 34 [(q, [.int .i64 d], [.int .i64 d])] w { w with now := later w.now d } (decide (0 ≤ d)) := by
  intro p X
  generalize hw' : ({ w with now := later w.now d } : Wld) = w'
  refine AC.o okC Tryz.func34 rfl fun h nx hfr hnx hpre => ?_
  obtain ⟨o1, V1, hq⟩ := hpre
  obtain ⟨hq1, hq2⟩ := hq _ (List.mem_cons_self ..)
  dsimp only at hq1 hq2
  have hp : p < nx := hnx p (by rw [o1]; simp)
  have hqn : q < nx := hnx q (by rw [hq1]; simp)
  have hpX := V1.obj o1
  simp only [wldR] at o1
  try simp [-map_take, -map_drop, -map_tail, rgs, o1, hq1, hq2]
  repeat' first | done | ((first | ((with_reducible show doCall _ _ _ 32 _ _); refine call_pc (c_Later ht hd) ?_) | (with_reducible refine go_draw (i := 1) [(0, [], []), (1, [], []), (2, [], []), (3, [], []), (4, [], []), (5, [], []), (6, [], []), (7, [], []), (8, [], []), (9, [], [])] (by kernel_rfl) ?_)) <;> simp [-map_take, -map_drop, -map_tail, rgs, o1, hq1, hq2]) | fail
  refine ⟨rfl, fun _ => ⟨X, ?_, ?_, fun id hid => .inl hid⟩, fun q' hm => ?_, fun j hj hjp _ _ => ?_⟩
  · subst hw'; rw [upd_same]; rfl
  · subst hw'
    exact (V1.setNow _).keep fun id hid => upd_ne _ _ _ _ (fun e => hpX (e ▸ hid))
  · simp at hm; subst hm
    rw [upd_ne _ _ _ _ hq2]; exact hq1
  · rw [upd_ne _ _ _ _ hjp]
theorem w_TickIn {F : Nat → Bool} {w : Wld} {d : Int} (hs : wldsz w ≤ 1048576) (ht : -9223372036854775808 ≤ w.now ∧ w.now ≤ 9223372036854775807) (hd : -9223372036854775808 ≤ d ∧ d ≤ 9223372036854775807) : WC ctx.P 14 [.agg (wldV F w), .int .i64 d]
    (fun X => .tup [.agg (wldR X (askW w { w with now := later w.now d } (decide (0 ≤ d)))), .bool (askB w { w with now := later w.now d } (decide (0 ≤ d)))]) (askW w { w with now := later w.now d } (decide (0 ≤ d))) := by
  refine WC.of ?_
  have hdo : ∀ q, DoOk ctx.P 34 [(q, [.int .i64 d], [.int .i64 d])] w { w with now := later w.now d } (decide (0 ≤ d)) := fun q => d_Tick ht hd
  generalize ({ w with now := later w.now d } : Wld) = w' at *
  generalize decide (0 ≤ d) = b at *
  refine AC.o okC Tryz.func14 rfl fun h nx hfr hnx hpre => ?_
  try simp [-map_take, -map_drop, -map_tail, rgs, wldV_ones, wldV_len, wldV_take]
  refine call_ac (w_asked (F := F) (qs := [(nx + 1, [.int .i64 d], [.int .i64 d])]) hs (fun _ => hdo _)) ?_ ?_
  · intro q hm
    simp at hm; subst hm
    dsimp only
    rw [upd_ne _ _ _ _ (by omega), upd_same]
  · rintro r h1 n1 ⟨⟨X, rfl, V1, hid1⟩, _, hf1⟩ hle1 hfr1
    dsimp only at hid1 hf1 hle1
    have K1 : ∀ j, j < nx + 11 → j ≠ nx + 1 → h1 j = upd (upd (upd h nx (some (Ent.obj (wldV F w)))) (nx + 1) (some (Ent.obj [AV.int IntKind.i64 d]))) (nx + 2) (some (Ent.obj [AV.int IntKind.i64 0, AV.nil, AV.nil, AV.nil, AV.nil, AV.nil, AV.nil, AV.nil, AV.int IntKind.i64 0, AV.nil, AV.nil, AV.nil, AV.nil, AV.nil, AV.nil, AV.nil, AV.nil])) j := fun j hj hj2 => hf1 j hj (fun q hm => by simp at hm; subst hm; exact hj2)
    have z1 := K1 (nx + 2) (by omega) (by omega)
    rw [upd_same] at z1
    try simp [-map_take, -map_drop, -map_tail, rgs, z1, wldR_ones X _, wldR_len, wldR_take]
    refine ⟨fun j hj => ?_, X, rfl, V1.keep fun id hid => ?_, fun id hid => by have := hid1 id hid; omega⟩
    · rw [upd_ne _ _ _ _ (by omega), K1 j (by omega) (by omega)]
      repeat rw [upd_ne _ _ _ _ (by omega)]
    · have := hid1 id hid
      rw [upd_ne _ _ _ _ (by omega)]
end Go.AE.Tryz
end

section
/- Contracts of the program's changes of heaps, as new rows. -/
set_option maxRecDepth 8000
set_option maxHeartbeats 2000000
namespace Go.AE.Tryz
open Go.Proofs
open List (map_take map_drop map_tail)
theorem f_growTwig {n : Nat} (h0 : 0 < n) (hm : n ≤ MLIM) : FC ctx.P 412 [.nil, .int .i64 n] (.ref 0 3 0 0) [.row 3 (List.replicate n twZ)] := by
  have hw : IntKind.i64.wrap (n : Int) = n := i64_ok (by simp only [MLIM] at hm; omega)
  have hw0 : IntKind.i64.wrap 0 = 0 := rfl
  have q1 : ((n : Int) < 0) = False := by simp only [eq_iff_iff, iff_false]; omega
  have q2 : (0 < n) = True := by simp only [eq_iff_iff, iff_true]; omega
  refine FC.o okC Tryz.func412 rfl ((.one _ (.one _ (.ref _ _ _ _ (by simp))))) ((fun e he => by simp at he; subst he; exact twZ_fz _)) fun h nx hnx => ?_
  try simp [-map_take, -map_drop, -map_tail, rgs, run_zeros, hw0, hw, q1, q2]
  repeat' first | done | ((first | ((with_reducible show lenS _ _ _ _ _ _); refine lenS_slice rfl fun _ => ?_) | (((with_reducible show capX _ _ _ _ _ _); refine cap_nil rfl ?_)) | (((with_reducible show sliceS _ _ _ _ .nil _ _ _); refine slice_nil rfl rfl rfl ?_)) | (((with_reducible show zerS _ _ _ _ _ _ _ _ _); refine zer_nil rfl (by decide) (by decide) rfl rfl h0 hm ?_)) | (((with_reducible show sliceS _ _ _ _ (.ref _ _ _ _) _ _ _); refine slice_ref (l := 0) (h := 0) rfl rfl (by simp [bndA]) (by omega) (by omega) ?_))) <;> simp [-map_take, -map_drop, -map_tail, rgs, run_zeros, hw0, hw, q1, q2]) | fail
  exact finF1 (i := nx + 18) keepA (by omega) (by simp [twZ]) (by simp)
theorem f_concatTwig {p : Bool} {qs : List (Bool × List Twg)} (h0 : 0 < (cq qs qs.length).length) (hm : (cq qs qs.length).length ≤ 1048576) (hq : qs.length ≤ 1000) : FC ctx.P 396 [.view p 1 (qs.map twV)] (.ref 0 3 0 ((cq qs qs.length).map twgC).length) [.row 3 ((cq qs qs.length).map twgC)] := by
  have hlim : qs.length ≤ LIM := by simp only [LIM]; omega
  have hM : (cq qs qs.length).length ≤ MLIM := by simp only [MLIM]; omega
  refine FC.o1 okC Tryz.func396 rfl (fz_mapR twgC_fz _) fun h nx hnx => ?_
  try simp [-map_take, -map_drop, -map_tail, rgs]
  repeat' first | done | (((with_reducible show lenS _ _ _ _ _ _); refine lenS_slice rfl fun _ => ?_) <;> simp [-map_take, -map_drop, -map_tail, rgs]) | fail
  refine go_upP [3, 5, 11, 12, 13, 14, 15, 16, 17, 18, 19, 20, 21, 22] (qs.length) (fun (i : Nat) a => [(11, .int .i64 i), (3, .int .i64 ((cq qs i).length : Nat))]) (fun i_ a_ h_ _ => (fun i (_ : Unit) _ => True) i_ a_ h_) (()) (by simp) ?_ keep_rfl (Nat.le_refl _) ?_
  · trivial
  · intro i a tm h' n' hle hJ hE hn' next hnx
    try dsimp only at hJ
    have hK : KeepB nx h' h := KeepB.sub hE keepA (by omega)
    simp [-map_take, -map_drop, -map_tail]
    by_cases hlt : i < qs.length
    · have hcl := cq_lt hlt
      have hcs := cq_succ hlt
      have hw : IntKind.i64.wrap ((((cq qs i).length : Nat) : Int) + (((gt qs (i : Int)).2.length : Nat) : Int)) = (((cq qs (i + 1)).length : Nat) : Int) := by rw [i64_ok (by omega), hcs, List.length_append]; omega
      have hn : ((((cq qs (i + 1)).length : Nat) : Int) < 0) = False := by simp only [eq_iff_iff, iff_false]; omega
      try simp [-map_take, -map_drop, -map_tail, rgs, twV, hlt, hw, hn]
      repeat' first | done | ((first | ((with_reducible show lenS _ _ _ _ _ _); refine lenS_slice rfl fun _ => ?_) | ((with_reducible show iaddrS _ _ _ _ _ _ _); refine iaddr_map rfl omA omA ?_)) <;> simp [-map_take, -map_drop, -map_tail, rgs, twV, hlt, hw, hn]) | fail
      refine hnx.go () ?_ ?_ ?_ ?_ ?_ ?_
      · omega
      · simp [wrap_succ hlt hlim]
      · simp
      · exact keepA
      · first | omega | (simp; omega)
      trivial
    · have he : i = qs.length := by omega
      subst he
      try simp [-map_take, -map_drop, -map_tail, rgs, hlt]
      repeat' first | done | ((first | ((with_reducible show lenS _ _ _ _ _ _); refine lenS_slice rfl fun _ => ?_) | ((with_reducible show doCall _ _ _ 412 _ _); refine call_fc (f_growTwig h0 hM) ?_)) <;> simp [-map_take, -map_drop, -map_tail, rgs, hlt]) | fail
      refine go_upP (h0 := h) (nx0 := nx) [6, 8, 27, 28, 29, 30, 31, 32, 33, 34] (qs.length) (fun (i : Nat) a => [(27, .int .i64 i), (6, .ref a 3 0 (cq qs i).length)]) (fun i (a : Nat) h' n' => h' a = some (.row 3 ((cq qs i).map twgC ++ List.replicate ((cq qs qs.length).length - (cq qs i).length) twZ)) ∧ nx ≤ a ∧ a < n') (n' + 4) (by simp) ?_ keepA (by omega) ?_
      · exact ⟨by simp, by omega, by omega⟩
      · intro j a tm2 h2 n2 hle2 hJ2 hE2 hn2 next2 hnx2
        obtain ⟨g1, g2, g3⟩ := hJ2
        have k1 : ∀ k, (a = n2 + k) = False := fun k => by simp only [eq_iff_iff, iff_false]; omega
        simp [-map_take, -map_drop, -map_tail]
        by_cases hlt2 : j < qs.length
        · have hcl := cq_lt hlt2
          have hcs := cq_succ hlt2
          try simp [-map_take, -map_drop, -map_tail, rgs, twV, hlt2, k1]
          repeat' first | done | (((with_reducible show iaddrS _ _ _ _ _ _ _); refine iaddr_map rfl omA omA ?_) <;> simp [-map_take, -map_drop, -map_tail, rgs, twV, hlt2, k1]) | fail
          refine app_mid (ws := (cq qs j).map twgC ++ List.replicate ((cq qs qs.length).length - (cq qs j).length) twZ) (ys := (gt qs (j : Int)).2.map twgC) rfl rfl (by decide) (by decide) ?r1 ?r2 ?r3 ?r4 ?r5 ?_
          case r1 => exact g1
          case r2 => simp
          case r3 => simp
          case r4 => simp only [MLIM]; simp; omega
          case r5 => simp [twgC]
          rw [cq_row hlt2 rfl]
          try simp [-map_take, -map_drop, -map_tail, rgs]
          refine hnx2.go (n2 + 6) ?_ ?_ ?_ ?_ ?_ ?_
          · omega
          · simp [wrap_succ hlt2 hlim, hcs]
          · simp
          · exact keepA
          · first | omega | (simp; omega)
          exact ⟨by simp, by omega, by omega⟩
        · have he : j = qs.length := by omega
          subst he
          try simp [-map_take, -map_drop, -map_tail, rgs, hlt2, k1]
          exact fin1_ref (i := a) keepA (by first | omega | (simp; omega)) g2 (by simp [g1]) rfl (by simp)
theorem f_joined {p q : Bool} {x : Twg} {l r : List Twg} (hl : isH l) (hr : isH r) (hm : l.length + r.length ≤ 1000) : FC ctx.P 350 [.agg (twgC x), .view p 3 (l.map twgC), .view q 3 (r.map twgC)] (.ref 0 3 0 ((joinH x l r).map twgC).length) [.row 3 ((joinH x l r).map twgC)] := by
  refine FC.o1 okC Tryz.func350 rfl (fz_mapR twgC_fz _) fun h nx hnx => ?_
  by_cases hk : rk0 l < rk0 r
  · have hk2 : ((rk0 l : Int) < (rk0 r : Int)) = True := by simp only [eq_iff_iff, iff_true]; omega
    have hj : joinH x l r = ⟨x.due, x.seq, r.length⟩ :: (r ++ l) := by simp [joinH, hk]
    try simp [-map_take, -map_drop, -map_tail, rgs, twgC, hk2]
    repeat' first | done | ((first | ((with_reducible show doCall _ _ _ 393 _ _); refine call_pc (c_rank (rk0_some hl)) ?_) | ((with_reducible show doCall _ _ _ 393 _ _); refine call_pc (c_rank (rk0_some hr)) ?_) | ((with_reducible show doCall _ _ _ 392 _ _); refine call_pc (c_size_Twig) ?_)) <;> simp [-map_take, -map_drop, -map_tail, rgs, twgC, hk2]) | fail
    refine call_fcB (f_concatTwig (p := false) (qs := [(false, [⟨x.due, x.seq, (r.length : Int)⟩]), (q, r), (p, l)]) (by simp [cq]) (by simp [cq]; omega) (by simp)) (fun f => by simp; exact .ref _ _ _ _) (fun e he => by simp at he; subst he; exact twg_cl _) (.cons (Bor.row3 (by simp; rfl) (Bor.ref0 (by simp; rfl) rfl rfl) (.same _) (.same _)) .nil) ?_
    try simp [-map_take, -map_drop, -map_tail, rgs]
    rw [cq3n]
    exact fin1_ref (i := nx + 22) keepA (by first | omega | (simp; done) | (simp; omega)) (by omega) (by simp [hj]) rfl (by simp [hj])
  · have hk2 : ((rk0 l : Int) < (rk0 r : Int)) = False := by simp only [eq_iff_iff, iff_false]; omega
    have hj : joinH x l r = ⟨x.due, x.seq, l.length⟩ :: (l ++ r) := by simp [joinH, hk]
    try simp [-map_take, -map_drop, -map_tail, rgs, twgC, hk2]
    repeat' first | done | ((first | ((with_reducible show doCall _ _ _ 393 _ _); refine call_pc (c_rank (rk0_some hl)) ?_) | ((with_reducible show doCall _ _ _ 393 _ _); refine call_pc (c_rank (rk0_some hr)) ?_) | ((with_reducible show doCall _ _ _ 392 _ _); refine call_pc (c_size_Twig) ?_)) <;> simp [-map_take, -map_drop, -map_tail, rgs, twgC, hk2]) | fail
    refine call_fcB (f_concatTwig (p := false) (qs := [(false, [⟨x.due, x.seq, (l.length : Int)⟩]), (p, l), (q, r)]) (by simp [cq]) (by simp [cq]; omega) (by simp)) (fun f => by simp; exact .ref _ _ _ _) (fun e he => by simp at he; subst he; exact twg_cl _) (.cons (Bor.row3 (by simp; rfl) (Bor.ref0 (by simp; rfl) rfl rfl) (.same _) (.same _)) .nil) ?_
    try simp [-map_take, -map_drop, -map_tail, rgs]
    rw [cq3n]
    exact fin1_ref (i := nx + 18) keepA (by first | omega | (simp; done) | (simp; omega)) (by omega) (by simp [hj]) rfl (by simp [hj])
theorem f_mergeN : ∀ (n : Nat) (p q : Bool) (a b : List Twg), a.length + b.length ≤ n → n ≤ 1000 → isH a → isH b → apart a b → FC ctx.P 266 [.view p 3 (a.map twgC), .view q 3 (b.map twgC)] (.ref 0 3 0 ((mrgN n a b).map twgC).length) [.row 3 ((mrgN n a b).map twgC)] := by
  intro n
  induction n with
  | zero =>
    intro p q a b hn hm ha hb hd
    obtain rfl : a = [] := List.eq_nil_of_length_eq_zero (by omega)
    obtain rfl : b = [] := List.eq_nil_of_length_eq_zero (by simpa using hn)
    rw [mrgN_l]
    have hc := f_cloneTwigS (p := q) (xs := []) (by simp [MLIM])
    refine FC.o1 okC Tryz.func266 rfl (fz_mapR twgC_fz _) fun h nx hnx => ?_
    try simp [-map_take, -map_drop, -map_tail, rgs]
    repeat' first | done | ((first | ((with_reducible show lenS _ _ _ _ _ _); refine lenS_slice rfl fun _ => ?_) | (refine call_fc (hc) ?_)) <;> simp [-map_take, -map_drop, -map_tail, rgs]) | fail
    exact fin1_ref (i := nx + 7) keepA (by first | omega | (simp; done) | (simp; omega)) (by omega) (by simp) rfl (by simp)
  | succ n ih =>
    intro p q a b hn hm ha hb hd
    by_cases ha0 : a.length = 0
    · obtain rfl : a = [] := List.eq_nil_of_length_eq_zero ha0
      have hc := f_cloneTwigS (p := q) (xs := b) (by simp only [MLIM]; omega)
      rw [mrgN_l]
      refine FC.o1 okC Tryz.func266 rfl (fz_mapR twgC_fz _) fun h nx hnx => ?_
      try simp [-map_take, -map_drop, -map_tail, rgs]
      repeat' first | done | ((first | ((with_reducible show lenS _ _ _ _ _ _); refine lenS_slice rfl fun _ => ?_) | (refine call_fc (hc) ?_)) <;> simp [-map_take, -map_drop, -map_tail, rgs]) | fail
      exact fin1_ref (i := nx + 7) keepA (by first | omega | (simp; done) | (simp; omega)) (by omega) (by simp) rfl (by simp)
    have hx0 : ((a.length : Int) == 0) = false := by simp; intro e; exact ha0 (by simp [e])
    by_cases hb0 : b.length = 0
    · obtain rfl : b = [] := List.eq_nil_of_length_eq_zero hb0
      have hc := f_cloneTwigS (p := p) (xs := a) (by simp only [MLIM]; omega)
      rw [mrgN_r]
      refine FC.o1 okC Tryz.func266 rfl (fz_mapR twgC_fz _) fun h nx hnx => ?_
      try simp [-map_take, -map_drop, -map_tail, rgs, hx0]
      repeat' first | done | ((first | ((with_reducible show lenS _ _ _ _ _ _); refine lenS_slice rfl fun _ => ?_) | (refine call_fc (hc) ?_)) <;> simp [-map_take, -map_drop, -map_tail, rgs, hx0]) | fail
      exact fin1_ref (i := nx + 10) keepA (by first | omega | (simp; done) | (simp; omega)) (by omega) (by simp) rfl (by simp)
    have hy0 : ((b.length : Int) == 0) = false := by simp; intro e; exact hb0 (by simp [e])
    have ha0 : 0 < a.length := by omega
    have hb0 : 0 < b.length := by omega
    by_cases hyx : lt2 (gt b 0) (gt a 0)
    · have hcmp : (twgCmp (gt b 0) (gt a 0) < 0) = True := by simp only [eq_iff_iff, iff_true]; exact cmp_lt.2 hyx
      have pp := isH_part hb hb0
      have hl1 := mrgN_len n (b.drop ((gt b 0).lefts.toNat + 1)) a (by omega) pp.2.2.2.1 ha
      rw [mrgN_b ha0 hb0 hyx]
      have hq2 := ih q p (b.drop ((gt b 0).lefts.toNat + 1)) a (by omega) (by omega) pp.2.2.2.1 ha (apart_drop (apart_symm hd) _)
      have hq3 := mrgN_isH (n := n) (by omega) pp.2.2.2.1 ha (apart_drop (apart_symm hd) _)
      refine FC.o1 okC Tryz.func266 rfl (fz_mapR twgC_fz _) fun h nx hnx => ?_
      try simp [-map_take, -map_drop, -map_tail, rgs, hx0, hy0, hcmp]
      repeat' first | done | ((first | ((with_reducible show lenS _ _ _ _ _ _); refine lenS_slice rfl fun _ => ?_) | ((with_reducible show iaddrS _ _ _ _ _ _ _); refine iaddr_map rfl omA omA ?_) | ((with_reducible show doCall _ _ _ 348 _ _); refine call_pc (c_compare) ?_) | ((with_reducible show doCall _ _ _ 349 _ _); refine call_pc (c_parts hb0 pp.1 pp.2.1) ?_) | (refine call_fc (hq2) ?_) | (with_reducible refine go_draw (i := 5) [(0, [], []), (1, [], []), (2, [], []), (3, [], []), (4, [], []), (5, [], []), (6, [], []), (7, [], [])] (by kernel_rfl) ?_) | (with_reducible refine go_draw (i := 8) [(0, [], []), (1, [], []), (2, [], []), (3, [], []), (4, [], []), (5, [], []), (6, [.tmp 33], []), (7, [], []), (8, [], [])] (by kernel_rfl) ?_)) <;> simp [-map_take, -map_drop, -map_tail, rgs, hx0, hy0, hcmp]) | fail
      refine call_fcB (f_joined (p := q) (q := false) pp.2.2.1 hq3 (by omega)) (fun f => by simp; exact .ref _ _ _ _) (fun e he => by simp at he; subst he; exact twg_cl _) (.cons (.same _) (.cons (.same _) (.cons (Bor.ref0 (by first | (simp; done) | (simp; rfl)) rfl (by simp)) .nil))) ?_
      try simp [-map_take, -map_drop, -map_tail, rgs]
      exact fin1_ref keepA (by first | omega | (simp; done) | (simp; omega)) (by omega) (by simp) rfl (by simp)
    · have hcmp : (twgCmp (gt b 0) (gt a 0) < 0) = False := by simp only [eq_iff_iff, iff_false]; exact fun h => hyx (cmp_lt.1 h)
      have pp := isH_part ha ha0
      have hl1 := mrgN_len n (a.drop ((gt a 0).lefts.toNat + 1)) b (by omega) pp.2.2.2.1 hb
      rw [mrgN_a ha0 hb0 hyx]
      have hq2 := ih p q (a.drop ((gt a 0).lefts.toNat + 1)) b (by omega) (by omega) pp.2.2.2.1 hb (apart_drop hd _)
      have hq3 := mrgN_isH (n := n) (by omega) pp.2.2.2.1 hb (apart_drop hd _)
      refine FC.o1 okC Tryz.func266 rfl (fz_mapR twgC_fz _) fun h nx hnx => ?_
      try simp [-map_take, -map_drop, -map_tail, rgs, hx0, hy0, hcmp]
      repeat' first | done | ((first | ((with_reducible show lenS _ _ _ _ _ _); refine lenS_slice rfl fun _ => ?_) | ((with_reducible show iaddrS _ _ _ _ _ _ _); refine iaddr_map rfl omA omA ?_) | ((with_reducible show doCall _ _ _ 348 _ _); refine call_pc (c_compare) ?_) | ((with_reducible show doCall _ _ _ 349 _ _); refine call_pc (c_parts ha0 pp.1 pp.2.1) ?_) | (refine call_fc (hq2) ?_) | (with_reducible refine go_draw (i := 5) [(0, [], []), (1, [], []), (2, [], []), (3, [], []), (4, [], []), (5, [], []), (6, [], []), (7, [], [])] (by kernel_rfl) ?_) | (with_reducible refine go_draw (i := 8) [(0, [], []), (1, [], []), (2, [], []), (3, [], []), (4, [], []), (5, [], []), (6, [.tmp 33], []), (7, [], []), (8, [], [])] (by kernel_rfl) ?_)) <;> simp [-map_take, -map_drop, -map_tail, rgs, hx0, hy0, hcmp]) | fail
      refine call_fcB (f_joined (p := p) (q := false) pp.2.2.1 hq3 (by omega)) (fun f => by simp; exact .ref _ _ _ _) (fun e he => by simp at he; subst he; exact twg_cl _) (.cons (.same _) (.cons (.same _) (.cons (Bor.ref0 (by first | (simp; done) | (simp; rfl)) rfl (by simp)) .nil))) ?_
      try simp [-map_take, -map_drop, -map_tail, rgs]
      exact fin1_ref keepA (by first | omega | (simp; done) | (simp; omega)) (by omega) (by simp) rfl (by simp)
theorem f_merge {p q : Bool} {a b : List Twg} (hl : a.length + b.length ≤ 1000) (ha : isH a) (hb : isH b) (hd : apart a b) : FC ctx.P 266 [.view p 3 (a.map twgC), .view q 3 (b.map twgC)] (.ref 0 3 0 ((mrg a b).map twgC).length) [.row 3 ((mrg a b).map twgC)] :=
  f_mergeN _ p q a b (Nat.le_refl _) hl ha hb hd
theorem f_put {p : Bool} {a : List Twg} {d s : Int} (hl : a.length ≤ 900) (ha : isH a) (hd : ∀ x ∈ a, x.seq ≠ s) : FC ctx.P 125 [.view p 3 (a.map twgC), .int .i64 d, .int .i64 s] (.ref 0 3 0 ((putH a d s).map twgC).length) [.row 3 ((putH a d s).map twgC)] := by
  refine FC.o1 okC Tryz.func125 rfl (fz_mapR twgC_fz _) fun h nx hnx => ?_
  try simp [-map_take, -map_drop, -map_tail, rgs]
  refine call_fcB (f_merge (p := p) (q := false) (b := [⟨d, s, 0⟩]) (by simp; omega) ha (isH_one d s) (fun x hx y hy => by simp at hy; subst hy; exact hd x hx)) (fun f => by simp; exact .ref _ _ _ _) (fun e he => by simp at he; subst he; exact twg_cl _) (.cons (.same _) (.cons (Bor.ref0 (by first | (simp; done) | (simp; rfl)) rfl rfl) .nil)) ?_
  try simp [-map_take, -map_drop, -map_tail, rgs]
  exact fin1_ref keepA (by first | omega | (simp; done) | (simp; omega)) (by omega) (by simp [putH]) rfl (by simp [putH])
theorem f_withoutN : ∀ (n : Nat) (p : Bool) (a : List Twg) (s : Int), a.length ≤ n → n ≤ 900 → isH a → once a → (∃ x ∈ a, x.seq = s) → FC ctx.P 351 [.view p 3 (a.map twgC), .int .i64 s] (.ref 0 3 0 ((woN n a s).map twgC).length) [.row 3 ((woN n a s).map twgC)] := by
  intro n
  induction n with
  | zero =>
    intro p a s hn hm ha ho hx
    obtain rfl : a = [] := List.eq_nil_of_length_eq_zero (by omega)
    obtain ⟨x, hx, _⟩ := hx
    simp at hx
  | succ n ih =>
    intro p a s hn hm ha ho hx
    have ha0 : 0 < a.length := by
      obtain ⟨x, hx, _⟩ := hx
      exact List.length_pos_of_mem hx
    have pp := isH_part ha ha0
    obtain ⟨o1, o2, o3, o4⟩ := once_part ho ha0 (k := (gt a 0).lefts.toNat)
    by_cases h1 : (gt a 0).seq = s
    · rw [woN_1 ha0 h1]
      have h1b : ((gt a 0).seq == s) = true := by simpa using h1
      refine FC.o1 okC Tryz.func351 rfl (fz_mapR twgC_fz _) fun h nx hnx => ?_
      try simp [-map_take, -map_drop, -map_tail, rgs, twgC, h1b]
      repeat' first | done | ((first | ((with_reducible show iaddrS _ _ _ _ _ _ _); refine iaddr_map rfl omA omA ?_) | ((with_reducible show doCall _ _ _ 349 _ _); refine call_pc (c_parts ha0 pp.1 pp.2.1) ?_) | ((with_reducible show doCall _ _ _ 266 _ _); refine call_fc (f_merge (by omega) pp.2.2.1 pp.2.2.2.1 o3) ?_)) <;> simp [-map_take, -map_drop, -map_tail, rgs, twgC, h1b]) | fail
      exact fin1_ref keepA (by first | omega | (simp; done) | (simp; omega)) (by omega) (by simp) rfl (by simp)
    · have h1b : ((gt a 0).seq == s) = false := by simpa using h1
      by_cases h2 : ∃ x ∈ a.tail.take (gt a 0).lefts.toNat, x.seq = s
      · rw [woN_2 ha0 h1 h2]
        have h2b : (0 ≤ seqAt (a.tail.take (gt a 0).lefts.toNat) s) = True := by simp only [eq_iff_iff, iff_true]; exact seqAt_pos.2 h2
        obtain ⟨w1, w2⟩ := woN_sub (n := n) (by omega) pp.2.2.1 o1 h2
        refine FC.o1 okC Tryz.func351 rfl (fz_mapR twgC_fz _) fun h nx hnx => ?_
        try simp [-map_take, -map_drop, -map_tail, rgs, twgC, h1b, h2b]
        repeat' first | done | ((first | ((with_reducible show iaddrS _ _ _ _ _ _ _); refine iaddr_map rfl omA omA ?_) | ((with_reducible show doCall _ _ _ 349 _ _); refine call_pc (c_parts ha0 pp.1 pp.2.1) ?_) | ((with_reducible show doCall _ _ _ 330 _ _); refine call_pc (c_seqAt) ?_) | (refine call_fc (ih p _ s (by omega) (by omega) pp.2.2.1 o1 h2) ?_)) <;> simp [-map_take, -map_drop, -map_tail, rgs, twgC, h1b, h2b]) | fail
        refine call_fcB (f_joined (p := false) (q := p) w1 pp.2.2.2.1 (by have := pp.2.2.2.2; omega)) (fun f => by simp; exact .ref _ _ _ _) (fun e he => by simp at he; subst he; exact twg_cl _) (.cons (.same _) (.cons (Bor.ref0 (by first | (simp; done) | (simp; rfl)) rfl (by simp)) (.cons (.same _) .nil))) ?_
        try simp [-map_take, -map_drop, -map_tail, rgs]
        exact fin1_ref keepA (by first | omega | (simp; done) | (simp; omega)) (by omega) (by simp) rfl (by simp)
      · have h3 := once_in ha0 h1 h2 hx
        rw [woN_3 ha0 h1 h2]
        have h2b : (0 ≤ seqAt (a.tail.take (gt a 0).lefts.toNat) s) = False := by simp only [eq_iff_iff, iff_false]; exact fun h => h2 (seqAt_pos.1 h)
        obtain ⟨w1, w2⟩ := woN_sub (n := n) (by omega) pp.2.2.2.1 o2 h3
        refine FC.o1 okC Tryz.func351 rfl (fz_mapR twgC_fz _) fun h nx hnx => ?_
        try simp [-map_take, -map_drop, -map_tail, rgs, twgC, h1b, h2b]
        repeat' first | done | ((first | ((with_reducible show iaddrS _ _ _ _ _ _ _); refine iaddr_map rfl omA omA ?_) | ((with_reducible show doCall _ _ _ 349 _ _); refine call_pc (c_parts ha0 pp.1 pp.2.1) ?_) | ((with_reducible show doCall _ _ _ 330 _ _); refine call_pc (c_seqAt) ?_) | (refine call_fc (ih p _ s (by omega) (by omega) pp.2.2.2.1 o2 h3) ?_)) <;> simp [-map_take, -map_drop, -map_tail, rgs, twgC, h1b, h2b]) | fail
        refine call_fcB (f_joined (p := p) (q := false) pp.2.2.1 w1 (by have := pp.2.2.2.2; omega)) (fun f => by simp; exact .ref _ _ _ _) (fun e he => by simp at he; subst he; exact twg_cl _) (.cons (.same _) (.cons (.same _) (.cons (Bor.ref0 (by first | (simp; done) | (simp; rfl)) rfl (by simp)) .nil))) ?_
        try simp [-map_take, -map_drop, -map_tail, rgs]
        exact fin1_ref keepA (by first | omega | (simp; done) | (simp; omega)) (by omega) (by simp) rfl (by simp)
theorem f_without {p : Bool} {a : List Twg} {s : Int} (hm : a.length ≤ 900) (ha : isH a) (ho : once a) (hx : ∃ x ∈ a, x.seq = s) : FC ctx.P 351 [.view p 3 (a.map twgC), .int .i64 s] (.ref 0 3 0 ((wo a s).map twgC).length) [.row 3 ((wo a s).map twgC)] :=
  f_withoutN _ p a s (Nat.le_refl _) hm ha ho hx
end Go.AE.Tryz
end

section
/- Contracts of the program's changes of timers. -/
set_option maxRecDepth 8000
set_option maxHeartbeats 4000000
namespace Go.AE.Tryz
open Go.Proofs
open List (map_take map_drop map_tail)
theorem m_stop {X : WI} {w : Wld} {p : Nat} {s : Int} (ht : tmsOk w.timers = true) : AC ctx.P 267 [.ptr p 6, .int .i64 s]
    (fun h _ => h p = some (.obj (wldR X w)) ∧ WV h X w) (TmsQ p X { w with timers := stopT w.timers s } (stopB w.timers s)) := by
  obtain ⟨-, t2, t3, -, -, -⟩ := tmsOk_iff.1 ht
  refine AC.o okC Tryz.func267 rfl fun h nx hfr hnx hpre => ?_
  obtain ⟨o1, V1⟩ := hpre
  have hp : p < nx := hnx p (by rw [o1]; simp)
  have hpX := V1.obj o1
  have hin := V1.lt hnx
  have t5 := V1.top 5 (by omega)
  have t6 := V1.top 6 (by omega)
  simp only [wRow] at t5 t6
  have o0 := o1
  simp only [wldR] at o1
  have hl := tmsAt_lt w.timers.list s
  have l5 := hin _ (WI.top_mem (X := X) (k := 5) (by omega))
  have l6 := hin _ (WI.top_mem (X := X) (k := 6) (by omega))
  have k1 : ∀ k, (p = nx + k) = False := fun k => by simp only [eq_iff_iff, iff_false]; omega
  have k2 : ∀ k, (X.top 5 = nx + k) = False := fun k => by simp only [eq_iff_iff, iff_false]; omega
  have k3 : ∀ k, (X.top 6 = nx + k) = False := fun k => by simp only [eq_iff_iff, iff_false]; omega
  have k4 : (p = X.top 5) = False := by simp only [eq_iff_iff, iff_false]; exact fun e => hpX (e ▸ WI.top_mem (by omega))
  have k5 : (p = X.top 6) = False := by simp only [eq_iff_iff, iff_false]; exact fun e => hpX (e ▸ WI.top_mem (by omega))
  have k6 : (X.top 5 = X.top 6) = False := by simp only [eq_iff_iff, iff_false]; exact fun e => absurd (V1.top_inj (by omega) (by omega) e) (by omega)
  try simp [-map_take, -map_drop, -map_tail, rgs, o1]
  refine call_pcB (c_tmsAt (F := FF) (t := w.timers) (s := s)) (.int _ _) ?hb ?_
  case hb => exact .cons (.agg1 (.cons (.ref0 t5 (by simp) (by simp)) (.cons (.ref0 t6 (by simp) (by simp)) (.cons (.same _) .nil)))) (.cons (.same _) .nil)
  by_cases h0 : 0 ≤ tmsAt w.timers.list s
  · have hn : (tmsAt w.timers.list s < 0) = False := by simp only [eq_iff_iff, iff_false]; omega
    have hsb : stopB w.timers s = (gt w.timers.list (tmsAt w.timers.list s)).armed := by simp [stopB, h0]
    have hg : (w.timers.list.map tmrC)[(tmsAt w.timers.list s).toNat]? = some (tmrC (gt w.timers.list (tmsAt w.timers.list s))) := by rw [List.getElem?_map, gt_some h0 hl]; rfl
    by_cases hb : stopB w.timers s = true
    · have ha : (gt w.timers.list (tmsAt w.timers.list s)).armed = true := by rw [← hsb]; exact hb
      rw [hb]
      try simp [-map_take, -map_drop, -map_tail, rgs, o1, t6, hn, ha, k1, k2, k3, k4, k5, k6]
      repeat' first | done | ((first | (((with_reducible show iaddrS _ _ _ _ (.ref _ _ _ _) _ _); refine iaddr_ref rfl (by omega) (by omega) ?_)) | (((with_reducible show loadE _ _ _ _ _ _ _ _); refine loadE_row hg ?_))) <;> simp [-map_take, -map_drop, -map_tail, rgs, o1, t6, hn, ha, k1, k2, k3, k4, k5, k6]) | fail
      refine storeE_at (sz := 5) (xs := w.timers.list.map tmrC) (cells := tmrC (gt w.timers.list (tmsAt w.timers.list s))) (by simp [t6]) (by simp) rfl (by decide) hg ?_
      rw [show splice (tmrC (gt w.timers.list (tmsAt w.timers.list s))) 4 [.bool false] = tmrC (offT (gt w.timers.list (tmsAt w.timers.list s))) from rfl]
      have hsl : (w.timers.list.map tmrC).set (tmsAt w.timers.list s).toNat (tmrC (offT (gt w.timers.list (tmsAt w.timers.list s)))) = (stopT w.timers s).list.map tmrC := by rw [← List.map_set]; simp [stopT, hb]
      have hsh : (stopT w.timers s).heap = wo w.timers.heap s := by simp [stopT, hb]
      have hsn : (stopT w.timers s).next = w.timers.next := stopT_next
      have hsll : (stopT w.timers s).list.length = w.timers.list.length := stopT_len
      rw [hsl]
      try simp [-map_take, -map_drop, -map_tail, rgs, o1, k1, k2, k3, k4, k5, k6]
      refine call_fcB (f_without (p := false) (a := w.timers.heap) (s := s) (by omega) t3.2.2 t3.2.1 ((heap_has ht s).2 hb)) (fun f => by simp; exact .ref _ _ _ _) (fun e he => by simp at he; subst he; exact twg_cl _) (.cons (Bor.ref0 (by simp [t5, k6]) (by simp) (by simp)) (.cons (.same _) .nil)) ?_
      try simp [-map_take, -map_drop, -map_tail, rgs, o1, k1, k2, k3, k4, k5, k6]
      have hp6 : X.top 6 ≠ p := fun e => hpX (e ▸ WI.top_mem (by omega))
      refine ⟨rfl, ⟨X.setTop 5 (nx + 38), ?_, V1.newTop [6] (by omega) (fun hm => by have := hin _ hm; omega) ?_ (by simp) (fun k hk => ?_) (fun k hk hS hne => ?_) rfl rfl (fun j hj hS hne => ?_), fun j hj => ?_⟩, fun j hj hjp hjX => ?_⟩
      · rw [upd_same]; simp [wldR, WI.setTop, hsh, hsn, hsll]
      · rw [upd_ne _ _ _ _ (by omega), upd_same]; simp [wRow, hsh]
      · simp only [List.mem_cons, List.not_mem_nil, or_false] at hk; subst hk
        rw [upd_ne _ _ _ _ hp6, upd_ne _ _ _ _ (by omega), upd_same]; rfl
      · rcases lt15 hk with rfl | rfl | rfl | rfl | rfl | rfl | rfl | rfl | rfl | rfl | rfl | rfl | rfl | rfl | rfl <;> first | rfl | exact absurd (by decide) hS | exact absurd rfl hne
      · have := hin j hj
        rw [upd_ne _ _ _ _ (fun (e : j = p) => hpX (e ▸ hj)), upd_ne _ _ _ _ (by omega), upd_ne _ _ _ _ (hS 6 (by simp))]
      · rcases WI.setTop_ids hj with q | q
        · exact .inl q
        · right; omega
      · rw [upd_ne _ _ _ _ hjp, upd_ne _ _ _ _ (by omega), upd_ne _ _ _ _ (fun (e : j = X.top 6) => hjX (e ▸ WI.top_mem (by omega)))]
    · have hb2 : stopB w.timers s = false := by simpa using hb
      have ha : (gt w.timers.list (tmsAt w.timers.list s)).armed = false := by rw [← hsb]; exact hb2
      rw [hb2, stopT_not hb]
      try simp [-map_take, -map_drop, -map_tail, rgs, o1, t6, hn, ha, k1, k2, k3, k4, k5, k6]
      repeat' first | done | ((first | (((with_reducible show iaddrS _ _ _ _ (.ref _ _ _ _) _ _); refine iaddr_ref rfl (by omega) (by omega) ?_)) | (((with_reducible show loadE _ _ _ _ _ _ _ _); refine loadE_row hg ?_))) <;> simp [-map_take, -map_drop, -map_tail, rgs, o1, t6, hn, ha, k1, k2, k3, k4, k5, k6]) | fail
      exact ⟨rfl, ⟨X, o0, V1, fun id h => .inl h⟩, fun j _ _ _ => rfl⟩
  · have hn : (tmsAt w.timers.list s < 0) = True := by simp only [eq_iff_iff, iff_true]; omega
    have hb : ¬ stopB w.timers s = true := by simp [stopB]; omega
    have hb2 : stopB w.timers s = false := by simpa using hb
    rw [hb2, stopT_not hb]
    try simp [-map_take, -map_drop, -map_tail, rgs, o1, hn]
    exact ⟨rfl, ⟨X, o0, V1, fun id h => .inl h⟩, fun j _ _ _ => rfl⟩
end Go.AE.Tryz
end

section
/- Contracts of the program's request to create a node. -/
set_option maxRecDepth 8000
set_option maxHeartbeats 4000000
namespace Go.AE.Tryz
open Go.Proofs
open List (map_take map_drop map_tail)
theorem m_begin {X : WI} {w : Wld} {p : Nat} {n : Int} (h4 : w.spread.work.length ≤ 1048576) : AC ctx.P 134 [.ptr p 4, .int .i64 n]
    (fun h _ => h p = some (.obj (wldR X w)) ∧ WV h X w) (TmsQ p X (begW w n) (canBeg w n)) := by
  refine AC.o okC Tryz.func134 rfl fun h nx hfr hnx hpre => ?_
  obtain ⟨o1, V1⟩ := hpre
  have hp : p < nx := hnx p (by rw [o1]; simp)
  have hpX := V1.obj o1
  have hin := V1.lt hnx
  have t3 := V1.top 3 (by omega)
  have t4 := V1.top 4 (by omega)
  simp only [wRow] at t3 t4
  have o0 := o1
  simp only [wldR] at o1
  have l4 := hin _ (WI.top_mem (X := X) (k := 4) (by omega))
  have k1 : ∀ k, (p = nx + k) = False := fun k => by simp only [eq_iff_iff, iff_false]; omega
  have k2 : ∀ k, (X.top 4 = nx + k) = False := fun k => by simp only [eq_iff_iff, iff_false]; omega
  have k4 : (p = X.top 4) = False := by simp only [eq_iff_iff, iff_false]; exact fun e => hpX (e ▸ WI.top_mem (by omega))
  try simp [-map_take, -map_drop, -map_tail, rgs, o1]
  refine call_pcB (c_isIn_bool (p := false) (n := n) (xs := w.spread.told)) (.bool _) ?hb ?_
  case hb => exact .cons (.same _) (.cons (.ref0 (by simpa using t3) (by simp) (by simp)) .nil)
  by_cases hi : isIn n w.spread.told = true
  · by_cases hw : w.spread.work.length = 240
    · have hc : canBeg w n = false := by simp [canBeg, canBegR, hw]
      have e : begW w n = w := by simp [begW, hc]
      rw [hc, e]
      try simp [-map_take, -map_drop, -map_tail, rgs, o1, hi, hw]
      repeat' first | done | (((with_reducible show lenS _ _ _ _ _ _); refine lenS_slice rfl fun _ => ?_) <;> simp [-map_take, -map_drop, -map_tail, rgs, o1, hi, hw]) | fail
      exact ⟨rfl, ⟨X, o0, V1, fun id h => .inl h⟩, fun j _ _ _ => rfl⟩
    · have hc : canBeg w n = true := by simp [canBeg, canBegR, hi, hw]
      have e : begW w n = begS w n := by simp [begW, hc]
      have hw2 : ((w.spread.work.length : Int) == 240) = false := by simp; omega
      rw [hc, e]
      try simp [-map_take, -map_drop, -map_tail, rgs, o1, t4, hi, hw, hw2, iv, k1, k2, k4]
      repeat' first | done | ((first | ((with_reducible show lenS _ _ _ _ _ _); refine lenS_slice rfl fun _ => ?_) | ((with_reducible show appS _ _ _ _ _ _ _ _); refine app_end rfl rfl (by decide) (by decide) (by (simp [-map_take, -map_drop, -map_tail, rgs, o1, t4, hi, hw, hw2, iv, k1, k2, k4]; rfl)) (by (simp [-map_take, -map_drop, -map_tail, rgs, o1, t4, hi, hw, hw2, iv, k1, k2, k4]; rfl)) (by (simp; done)) (by (simp only [MLIM, LIM] at *; simp; omega)) (by simp [iv, bv]) ?_)) <;> simp [-map_take, -map_drop, -map_tail, rgs, o1, t4, hi, hw, hw2, iv, k1, k2, k4]) | fail
      refine ⟨rfl, ⟨X.setTop 4 (nx + 23), ?_, V1.newTop [] (by omega) (fun hm => by have := hin _ hm; omega) ?_ (by simp) (by simp) (fun k hk _ hne => ?_) rfl rfl (fun j hj _ hne => ?_), fun j hj => ?_⟩, fun j hj hjp hjX => ?_⟩
      · rw [upd_same]; simp [wldR, WI.setTop, begS, mkW]
      · rw [upd_ne _ _ _ _ (by omega), upd_same]; simp [wRow, begS, mkW, iv]
      · rcases lt15 hk with rfl | rfl | rfl | rfl | rfl | rfl | rfl | rfl | rfl | rfl | rfl | rfl | rfl | rfl | rfl <;> first | rfl | exact absurd rfl hne
      · have := hin j hj
        rw [upd_ne _ _ _ _ (fun (e : j = p) => hpX (e ▸ hj)), upd_ne _ _ _ _ (by omega), upd_ne _ _ _ _ hne, upd_ne _ _ _ _ (by omega)]
      · rcases WI.setTop_ids hj with q | q
        · exact .inl q
        · right; omega
      · rw [upd_ne _ _ _ _ hjp, upd_ne _ _ _ _ (by omega), upd_ne _ _ _ _ (fun (e : j = X.top 4) => hjX (e ▸ WI.top_mem (by omega))), upd_ne _ _ _ _ (by omega)]
  · have hi2 : isIn n w.spread.told = false := by simpa using hi
    have hc : canBeg w n = false := by simp [canBeg, canBegR, hi2]
    have e : begW w n = w := by simp [begW, hc]
    rw [hc, e]
    try simp [-map_take, -map_drop, -map_tail, rgs, o1, hi2]
    exact ⟨rfl, ⟨X, o0, V1, fun id h => .inl h⟩, fun j _ _ _ => rfl⟩
theorem m_cancel {X : WI} {w : Wld} {p : Nat} {n er ca : Int} (ht : treeOk w.tree = true) (h4 : w.spread.work.length ≤ 1048576) (h2 : w.events.length ≤ 1048576) : AC ctx.P 128 [.ptr p 0, .int .i64 n, .int .i64 er, .int .i64 ca]
    (fun h _ => h p = some (.obj (wldR X w)) ∧ WV h X w) (TmsQ p X (cutW w ⟨n, er, ca, w.now⟩) (canCut w ⟨n, er, ca, w.now⟩)) := by
  refine AC.o okC Tryz.func128 rfl fun h nx hfr hnx hpre => ?_
  obtain ⟨o1, V1⟩ := hpre
  have hp : p < nx := hnx p (by rw [o1]; simp)
  have hpX := V1.obj o1
  have hin := V1.lt hnx
  have t1 := V1.top 1 (by omega)
  have t2 := V1.top 2 (by omega)
  simp only [wRow] at t1 t2
  have o0 := o1
  simp only [wldR] at o1
  have l2 := hin _ (WI.top_mem (X := X) (k := 2) (by omega))
  have k1 : ∀ k, (p = nx + k) = False := fun k => by simp only [eq_iff_iff, iff_false]; omega
  have l1 := hin _ (WI.top_mem (X := X) (k := 1) (by omega))
  have k2 : ∀ k, (X.top 1 = nx + k) = False := fun k => by simp only [eq_iff_iff, iff_false]; omega
  have k3 : ∀ k, (X.top 2 = nx + k) = False := fun k => by simp only [eq_iff_iff, iff_false]; omega
  try simp [-map_take, -map_drop, -map_tail, rgs, o1, k1, evtC]
  repeat' first | done | ((with_reducible refine go_draw (i := 2) [(0, [], []), (1, [], []), (2, [], []), (3, [], []), (4, [], []), (5, [], []), (6, [], []), (7, [], []), (8, [], []), (9, [], []), (10, [], []), (11, [], []), (12, [], []), (13, [], []), (14, [], []), (15, [], []), (16, [], []), (17, [], []), (18, [], [])] (by kernel_rfl) ?_) <;> simp [-map_take, -map_drop, -map_tail, rgs, o1, k1, evtC]) | fail
  refine call_pcB (c_fits (p := false) (q := false) (t := w.tree) (l := w.events) (e := ⟨n, er, ca, w.now⟩) ht) (.bool _) ?hb ?_
  case hb => exact .cons (.same _) (.cons (.ref0 (by simp [t1, k2]) (by simp) (by simp)) (.cons (.ref0 (by simp [t2, k3]) (by simp) (by simp)) .nil))
  obtain ⟨e, hee⟩ : ∃ e : Evt, e = ⟨n, er, ca, w.now⟩ := ⟨_, rfl⟩
  have hbg := m_begin (X := X) (w := w) (p := p) (n := n) h4
  by_cases hf : fits w.tree w.events ⟨n, er, ca, w.now⟩ = true
  · try simp [-map_take, -map_drop, -map_tail, rgs, o1, k1, hf]
    refine call_ac hbg ⟨by simp [k1, o0], V1.keep fun id hm => by have := hin id hm; dsimp only; repeat rw [upd_ne _ _ _ _ (by omega)]⟩ ?_
    rintro r h1 n1 ⟨rfl, ⟨X1, o2, V2, hid⟩, hf1⟩ hle1 hfr1
    dsimp only at hid hf1 hle1
    have hev := hf1 (nx + 9) (by omega) (by omega) (fun hm => by have := hin _ hm; omega)
    simp at hev
    by_cases hb : canBeg w n = true
    · have hc : canCut w ⟨n, er, ca, w.now⟩ = true := by simp [canCut, hf, hb]
      have hW : cutW w ⟨n, er, ca, w.now⟩ = cutS w ⟨n, er, ca, w.now⟩ := by simp [cutW, hc]
      have hW2 : begW w n = begS w n := by simp [begW, hb]
      rw [hc, hW]
      rw [hb]
      rw [hW2] at o2 V2
      have s2 := V2.top 2 (by omega)
      simp only [wRow] at s2
      have p2 := V2.obj o2
      have in2 : ∀ j ∈ X1.ids, j < n1 := fun j hj => by rcases hid j hj with r | r; (have := hin j r; omega); omega
      have m2 := in2 _ (WI.top_mem (X := X1) (k := 2) (by omega))
      have o3 := o2
      simp only [wldR] at o3
      have j1 : ∀ k, (p = n1 + k) = False := fun k => by simp only [eq_iff_iff, iff_false]; omega
      have j2 : ∀ k, (X1.top 2 = n1 + k) = False := fun k => by simp only [eq_iff_iff, iff_false]; omega
      have j3 : (p = X1.top 2) = False := by simp only [eq_iff_iff, iff_false]; exact fun e => p2 (e ▸ WI.top_mem (by omega))
      have j4 : ∀ k, (nx + 9 = n1 + k) = False := fun k => by simp only [eq_iff_iff, iff_false]; omega
      try simp [-map_take, -map_drop, -map_tail, rgs, o3, s2, hev, begS, mkW, evtC, j1, j2, j3, j4]
      repeat' first | done | ((first | ((with_reducible show appS _ _ _ _ _ _ _ _); refine app_end rfl rfl (by decide) (by decide) (by (simp [-map_take, -map_drop, -map_tail, rgs, o3, s2, hev, begS, mkW, evtC, j1, j2, j3, j4]; rfl)) (by (simp [-map_take, -map_drop, -map_tail, rgs, o3, s2, hev, begS, mkW, evtC, j1, j2, j3, j4]; rfl)) (by (simp; done)) (by (simp only [MLIM, LIM] at *; simp; omega)) (by simp [iv, bv]) ?_) | (with_reducible refine go_draw (i := 4) [(0, [], []), (1, [], []), (2, [], []), (3, [], []), (4, [], [6]), (5, [], []), (6, [], []), (7, [], []), (8, [], []), (9, [], []), (10, [], [])] (by kernel_rfl) ?_)) <;> simp [-map_take, -map_drop, -map_tail, rgs, o3, s2, hev, begS, mkW, evtC, j1, j2, j3, j4]) | fail
      refine ⟨rfl, ⟨X1.setTop 2 (n1 + 7), ?_, V2.newTop [] (by omega) (fun hm => by have := in2 _ hm; omega) ?_ (by simp) (by simp) (fun k hk _ hne => ?_) rfl rfl (fun j hj _ hne => ?_), fun j hj => ?_⟩, fun j hj hjp hjX => ?_⟩
      · rw [upd_same]; simp [wldR, WI.setTop, cutS, begS, mkW]
      · rw [upd_ne _ _ _ _ (by omega), upd_same]; simp [wRow, cutS, mkW, evtC]
      · rcases lt15 hk with rfl | rfl | rfl | rfl | rfl | rfl | rfl | rfl | rfl | rfl | rfl | rfl | rfl | rfl | rfl <;> first | rfl | exact absurd rfl hne
      · have := in2 j hj
        rw [upd_ne _ _ _ _ (fun (e : j = p) => p2 (e ▸ hj)), upd_ne _ _ _ _ (by omega), upd_ne _ _ _ _ hne, upd_ne _ _ _ _ (by omega)]
      · rcases WI.setTop_ids hj with q | q
        · rcases hid j q with r | r
          · exact .inl r
          · right; omega
        · right; omega
      · have hne : j ≠ X1.top 2 := fun e => by
          rcases hid (X1.top 2) (WI.top_mem (by omega)) with r | r
          · exact hjX (e ▸ r)
          · omega
        rw [upd_ne _ _ _ _ hjp, upd_ne _ _ _ _ (by omega), upd_ne _ _ _ _ hne, upd_ne _ _ _ _ (by omega), hf1 j (by omega) hjp hjX]
        repeat rw [upd_ne _ _ _ _ (by omega)]
    · have hb2 : canBeg w n = false := by simpa using hb
      have hc : canCut w ⟨n, er, ca, w.now⟩ = false := by simp [canCut, hb2]
      have hW : cutW w ⟨n, er, ca, w.now⟩ = w := by simp [cutW, hc]
      have hW2 : begW w n = w := by simp [begW, hb2]
      rw [hc, hW]
      rw [hb2]
      rw [hW2] at o2 V2
      try simp [-map_take, -map_drop, -map_tail, rgs]
      refine ⟨rfl, ⟨X1, o2, V2, fun id hm => by rcases hid id hm with r | r <;> first | exact .inl r | (right; omega)⟩, fun j hj hjp hjX => ?_⟩
      rw [hf1 j (by omega) hjp hjX]
      repeat rw [upd_ne _ _ _ _ (by omega)]
  · have hf2 : fits w.tree w.events ⟨n, er, ca, w.now⟩ = false := by simpa using hf
    have hc : canCut w ⟨n, er, ca, w.now⟩ = false := by simp [canCut, hf2]
    have hW : cutW w ⟨n, er, ca, w.now⟩ = w := by simp [cutW, hc]
    rw [hc, hW]
    try simp [-map_take, -map_drop, -map_tail, rgs, o1, k1, hf2]
    refine ⟨rfl, ⟨X, by simp [k1, o0], V1.keep fun id hm => by have := hin id hm; (repeat rw [upd_ne _ _ _ _ (by omega)]), fun id hm => .inl hm⟩, fun j hj hjp hjX => ?_⟩
    repeat rw [upd_ne _ _ _ _ (by omega)]
theorem m_arm {X : WI} {w : Wld} {p : Nat} {d what whom : Int} (ht : tmsOk w.timers = true) : AC ctx.P 31 [.ptr p 6, .int .i64 d, .int .i64 what, .int .i64 whom]
    (fun h _ => h p = some (.obj (wldR X w)) ∧ WV h X w) (ChgQ p X (setT w (armT w.timers d what whom)) (.int .i64 (armI w.timers what whom))) := by
  obtain ⟨h1, h2, ⟨h3, h4, h5⟩, h6, h7, h8⟩ := tmsOk_iff.1 ht
  have ew : IntKind.i64.wrap (w.timers.next + 1) = w.timers.next + 1 := i64_ok (by omega)
  refine AC.o okC Tryz.func31 rfl fun h nx hfr hnx hpre => ?_
  obtain ⟨o1, V1⟩ := hpre
  have hp : p < nx := hnx p (by rw [o1]; simp)
  have hpX := V1.obj o1
  have hin := V1.lt hnx
  have t5 := V1.top 5 (by omega)
  have t6 := V1.top 6 (by omega)
  simp only [wRow] at t5 t6
  have o0 := o1
  simp only [wldR] at o1
  have l5 := hin _ (WI.top_mem (X := X) (k := 5) (by omega))
  have l6 := hin _ (WI.top_mem (X := X) (k := 6) (by omega))
  have k1 : ∀ k, (p = nx + k) = False := fun k => by simp only [eq_iff_iff, iff_false]; omega
  have k2 : ∀ k, (X.top 5 = nx + k) = False := fun k => by simp only [eq_iff_iff, iff_false]; omega
  have k3 : ∀ k, (X.top 6 = nx + k) = False := fun k => by simp only [eq_iff_iff, iff_false]; omega
  have k4 : (p = X.top 5) = False := by simp only [eq_iff_iff, iff_false]; exact fun e => hpX (e ▸ WI.top_mem (by omega))
  have k5 : (p = X.top 6) = False := by simp only [eq_iff_iff, iff_false]; exact fun e => hpX (e ▸ WI.top_mem (by omega))
  have k6 : (X.top 5 = X.top 6) = False := by simp only [eq_iff_iff, iff_false]; exact fun e => absurd (V1.top_inj (by omega) (by omega) e) (by omega)
  have k7 : (X.top 5 = p) = False := by simp only [eq_iff_iff, iff_false]; exact fun e => hpX (e ▸ WI.top_mem (by omega))
  have k8 : (X.top 6 = p) = False := by simp only [eq_iff_iff, iff_false]; exact fun e => hpX (e ▸ WI.top_mem (by omega))
  have k9 : ∀ k, (nx + k = p) = False := fun k => by simp only [eq_iff_iff, iff_false]; omega
  by_cases hc : canArm w.timers what whom = true
  · have e1 : armT w.timers d what whom = armS w.timers d what whom := by simp [armT, hc]
    have e2 : armI w.timers what whom = w.timers.next := by simp [armI, hc]
    rw [e1, e2]
    simp only [canArm, Bool.and_eq_true, decide_eq_true_eq, bne_iff_ne, ne_eq] at hc
    obtain ⟨c1, c2, c3, c4⟩ := hc
    obtain ⟨r1, r2⟩ := arm_room ht c1
    have c1p : ((w.timers.list.length : Int) == 64) = false := by simp; omega
    have c2p : (w.timers.next == 1000000) = false := by simpa using c2
    try simp [-map_take, -map_drop, -map_tail, rgs, o1, t5, t6, c1p, c2p, c3, c4, ew, tmrC, k1, k2, k3, k4, k5, k6]
    repeat' first | done | ((first | ((with_reducible show lenS _ _ _ _ _ _); refine lenS_slice rfl fun _ => ?_) | ((with_reducible show doCall _ _ _ 106 _ _); refine call_pc (c_within) ?_) | ((with_reducible show appS _ _ _ _ _ _ _ _); refine app_end rfl rfl (by decide) (by decide) (by (simp [-map_take, -map_drop, -map_tail, rgs, o1, t5, t6, c1p, c2p, c3, c4, ew, tmrC, k1, k2, k3, k4, k5, k6]; rfl)) (by (simp [-map_take, -map_drop, -map_tail, rgs, o1, t5, t6, c1p, c2p, c3, c4, ew, tmrC, k1, k2, k3, k4, k5, k6]; rfl)) (by (simp; done)) (by (simp only [MLIM, LIM] at *; simp; omega)) (by simp [iv, bv]) ?_)) <;> simp [-map_take, -map_drop, -map_tail, rgs, o1, t5, t6, c1p, c2p, c3, c4, ew, tmrC, k1, k2, k3, k4, k5, k6]) | fail
    refine call_fcB (f_put (p := false) (a := w.timers.heap) (d := d) (s := w.timers.next) (by omega) h5 r2) (fun f => by simp; exact .ref _ _ _ _) (fun e he => by simp at he; subst he; exact twg_cl _) (.cons (Bor.ref0 (by simp [t5, k1, k2, k3, k4, k5, k6, k7, k8]) (by simp) (by simp)) (.cons (.same _) (.cons (.same _) .nil))) ?_
    try simp [-map_take, -map_drop, -map_tail, rgs, o1, k1, k2, k3, k4, k5, k6]
    refine ⟨rfl, ⟨(X.setTop 6 (nx + 40)).setTop 5 (nx + 63), ?_, V1.lay2 (by omega) (by omega) (by omega) (fun hm => by have := hin _ hm; omega) (fun hm => by have := hin _ hm; omega) (by omega) ?_ ?_ (fun k hk h6 h5 => ?_) rfl rfl (fun j hj h6 h5 => ?_), fun j hj => ?_⟩, fun j hj hjp hjX => ?_⟩
    · rw [upd_same]; simp [wldR, WI.setTop, setT, mkW, armS]
    · simp [wRow, setT, mkW, armS, tmrC, k9]
    · simp [wRow, setT, mkW, armS, k9]
    · rcases lt15 hk with rfl | rfl | rfl | rfl | rfl | rfl | rfl | rfl | rfl | rfl | rfl | rfl | rfl | rfl | rfl <;> first | rfl | exact absurd rfl h6 | exact absurd rfl h5
    · have := hin j hj
      have hjp : j ≠ p := fun e => hpX (e ▸ hj)
      simp [hjp, h5, h6, show ∀ k, (j = nx + k) = False from fun k => by simp only [eq_iff_iff, iff_false]; omega]
    · rcases WI.setTop_ids hj with q | q
      · rcases WI.setTop_ids q with q | q
        · exact .inl q
        · right; omega
      · right; omega
    · have h5 : j ≠ X.top 5 := fun e => hjX (e ▸ WI.top_mem (by omega))
      have h6 : j ≠ X.top 6 := fun e => hjX (e ▸ WI.top_mem (by omega))
      simp [hjp, h5, h6, show ∀ k, (j = nx + k) = False from fun k => by simp only [eq_iff_iff, iff_false]; omega]
  · have e1 : armT w.timers d what whom = w.timers := by simp [armT, hc]
    have e2 : armI w.timers what whom = -1 := by simp [armI, hc]
    rw [e1, e2, setT_same]
    by_cases c1 : w.timers.list.length = 64
    · have c1p : ((w.timers.list.length : Int) == 64) = true := by simp; omega
      try simp [-map_take, -map_drop, -map_tail, rgs, o1, c1p, k1, k2, k3, k4, k5, k6]
      repeat' first | done | (((with_reducible show lenS _ _ _ _ _ _); refine lenS_slice rfl fun _ => ?_) <;> simp [-map_take, -map_drop, -map_tail, rgs, o1, c1p, k1, k2, k3, k4, k5, k6]) | fail
      exact ⟨rfl, ⟨X, o0, V1, fun id h => .inl h⟩, fun j _ _ _ => rfl⟩
    · have c1p : ((w.timers.list.length : Int) == 64) = false := by simp; omega
      by_cases c2 : w.timers.next = 1000000
      · have c2p : (w.timers.next == 1000000) = true := by simp [c2]
        try simp [-map_take, -map_drop, -map_tail, rgs, o1, c1p, c2p, k1, k2, k3, k4, k5, k6]
        repeat' first | done | (((with_reducible show lenS _ _ _ _ _ _); refine lenS_slice rfl fun _ => ?_) <;> simp [-map_take, -map_drop, -map_tail, rgs, o1, c1p, c2p, k1, k2, k3, k4, k5, k6]) | fail
        exact ⟨rfl, ⟨X, o0, V1, fun id h => .inl h⟩, fun j _ _ _ => rfl⟩
      · have c2p : (w.timers.next == 1000000) = false := by simpa using c2
        by_cases c3 : inR what 0 2 = true
        · have c4 : inR whom 0 99 = false := by
            cases hq : inR whom 0 99 with
            | false => rfl
            | true => exact absurd (by simp [canArm, c1, c2, c3, hq]) hc
          try simp [-map_take, -map_drop, -map_tail, rgs, o1, c1p, c2p, c3, c4, k1, k2, k3, k4, k5, k6]
          repeat' first | done | ((first | ((with_reducible show lenS _ _ _ _ _ _); refine lenS_slice rfl fun _ => ?_) | ((with_reducible show doCall _ _ _ 106 _ _); refine call_pc (c_within) ?_)) <;> simp [-map_take, -map_drop, -map_tail, rgs, o1, c1p, c2p, c3, c4, k1, k2, k3, k4, k5, k6]) | fail
          exact ⟨rfl, ⟨X, o0, V1, fun id h => .inl h⟩, fun j _ _ _ => rfl⟩
        · have c3f : inR what 0 2 = false := by simpa using c3
          try simp [-map_take, -map_drop, -map_tail, rgs, o1, c1p, c2p, c3f, k1, k2, k3, k4, k5, k6]
          repeat' first | done | ((first | ((with_reducible show lenS _ _ _ _ _ _); refine lenS_slice rfl fun _ => ?_) | ((with_reducible show doCall _ _ _ 106 _ _); refine call_pc (c_within) ?_)) <;> simp [-map_take, -map_drop, -map_tail, rgs, o1, c1p, c2p, c3f, k1, k2, k3, k4, k5, k6]) | fail
          exact ⟨rfl, ⟨X, o0, V1, fun id h => .inl h⟩, fun j _ _ _ => rfl⟩
end Go.AE.Tryz
end

section
/- Contracts of the program's request to let the first timer ring. -/
set_option maxRecDepth 8000
set_option maxHeartbeats 4000000
namespace Go.AE.Tryz
open Go.Proofs
open List (map_take map_drop map_tail)
theorem m_DeleteTmr {id i : Nat} {xs : List Tmr} (hi : i < xs.length) (hl : xs.length ≤ 1048576) : AC ctx.P 268 [.ref id 5 0 xs.length, .int .i64 i, .int .i64 ((i : Int) + 1)]
    (fun h _ => h id = some (.row 5 (xs.map tmrC)))
    (fun h nx r h' nx' => ∃ jd, r = .ref jd 5 0 (xs.eraseIdx i).length ∧ nx ≤ jd ∧ jd < nx' ∧ h' jd = some (.row 5 ((xs.eraseIdx i).map tmrC)) ∧ ∀ j, j < nx → j ≠ id → h' j = h j) := by
  refine AC.o okC Tryz.func268 rfl fun h nx hfr hnx hpre => ?_
  have i1 : id < nx := hnx id (by rw [hpre]; simp)
  try simp [-map_take, -map_drop, -map_tail, rgs, hpre]
  repeat' first | done | (((with_reducible show lenS _ _ _ _ _ _); refine lenS_slice rfl fun _ => ?_) <;> simp [-map_take, -map_drop, -map_tail, rgs, hpre]) | fail
  refine run_slice3 ⟨_, xs.length, i, i + 1, _, (xs.length : Int), rfl, rfl, bounds_of (by simp [bndA]) (by simp [bndA]; omega) (by omega), rfl, by omega, by simp; omega, by simp, ?_⟩
  have hne : ((i : Int) == (i : Int) + 1) = false := by simp; omega
  try simp [-map_take, -map_drop, -map_tail, rgs, hpre, hne]
  repeat' first | done | ((first | ((with_reducible show lenS _ _ _ _ _ _); refine lenS_slice rfl fun _ => ?_) | (with_reducible refine go_draw (i := 5) [(0, [], []), (1, [], []), (2, [], []), (3, [], []), (4, [], []), (5, [], []), (6, [], []), (7, [], [])] (by kernel_rfl) ?_)) <;> simp [-map_take, -map_drop, -map_tail, rgs, hpre, hne]) | fail
  refine sliceI_ref (l := 0) (h := i) rfl (by simp [bndA]) (by simp [bndA]) (by omega) (by omega) ?_
  try simp [-map_take, -map_drop, -map_tail, rgs, hpre]
  refine sliceI_ref (l := i + 1) (h := xs.length) rfl (by simp [bndA]; omega) (by simp [bndA]) (by omega) (by omega) ?_
  try simp [-map_take, -map_drop, -map_tail, rgs, hpre]
  refine app_mid (ws := xs.map tmrC) (ys := (xs.map tmrC).drop (i + 1)) rfl rfl (by decide) (by decide) ?r1 ?r2 ?r3 ?r4 ?r5 ?_
  case r1 => exact hpre
  case r2 =>
    simp [hpre, -map_drop]
    exact ⟨by omega, List.take_of_length_le (by simp)⟩
  case r3 => simp; omega
  case r4 => simp only [MLIM]; simp; omega
  case r5 =>
    simp only [List.all_eq_true]
    intro c hc x hx
    obtain ⟨y, _, rfl⟩ := List.mem_map.1 (List.mem_of_mem_drop hc)
    simp [tmrC] at hx
    rcases hx with rfl | rfl | rfl | rfl | rfl <;> rfl
  try simp [-map_take, -map_drop, -map_tail, rgs, hpre]
  repeat' first | done | (((with_reducible show lenS _ _ _ _ _ _); refine lenS_slice rfl fun _ => ?_) <;> simp [-map_take, -map_drop, -map_tail, rgs, hpre]) | fail
  have hbd : bndA 0 (some (AV.int IntKind.i64 ((i : Int) + ((xs.length - (i + 1) : Nat) : Int)))) = some (xs.length - 1) := by
    simp only [bndA]; rw [if_pos (by omega)]; congr 1; omega
  have hrw : xs.length = (List.take i (List.map tmrC xs) ++ (List.drop (i + 1) (List.map tmrC xs) ++ List.drop (i + (xs.length - (i + 1))) (List.map tmrC xs))).length := by simp; omega
  refine slice_far (l := xs.length - 1) (h := xs.length) rfl hbd (by simp [bndA]) (by omega) (upd_same ..) (by omega) ?_
  try simp [-map_take, -map_drop, -map_tail, rgs]
  refine ⟨_, rfl, _, upd_same .., rfl, by omega, by decide, ?_⟩
  try simp [-map_take, -map_drop, -map_tail, rgs]
  have hA : (List.take i (List.map tmrC xs) ++ List.drop (i + 1) (List.map tmrC xs)).length = xs.length - 1 := by simp; omega
  refine ⟨nx + 19, ⟨rfl, by rw [List.length_eraseIdx, if_pos hi]; omega⟩, by omega, by omega, ?_, fun j hj hne2 => ?_⟩
  · rw [if_pos rfl, ← List.append_assoc, List.take_append_of_le_length (by omega), List.take_of_length_le (by omega), List.eraseIdx_eq_take_drop_succ, List.map_append, List.map_take, List.map_drop]
  · rw [if_neg (by omega), if_neg (by omega), if_neg hne2]
theorem m_forget {X : WI} {w : Wld} {p : Nat} {s : Int} (ht : tmsOk w.timers = true) : AC ctx.P 127 [.ptr p 6, .int .i64 s]
    (fun h _ => h p = some (.obj (wldR X w)) ∧ WV h X w) (ChgQ p X (setT w (forgetT w.timers s)) (.bool (decide (0 ≤ tmsAt (stopT w.timers s).list s)))) := by
  obtain ⟨s1, s2⟩ := tmsOk_stop (s := s) ht
  obtain ⟨-, u2, -, -, -, -⟩ := tmsOk_iff.1 s1
  have hstop := fun X p => m_stop (X := X) (p := p) (w := w) (s := s) ht
  have hcat := c_tmsAt (F := FF) (t := stopT w.timers s) (s := s)
  have hl := tmsAt_lt (stopT w.timers s).list s
  have hW : forgetT w.timers s = dropT (stopT w.timers s) s := rfl
  rw [hW]
  generalize stopT w.timers s = t1 at *
  refine AC.o okC Tryz.func127 rfl fun h nx hfr hnx hpre => ?_
  obtain ⟨o1, V1⟩ := hpre
  have hp : p < nx := hnx p (by rw [o1]; simp)
  try simp [-map_take, -map_drop, -map_tail, rgs]
  refine call_ac (hstop X p) ⟨o1, V1⟩ ?_
  rintro r h1 n1 ⟨rfl, ⟨X1, o2, V2, hid⟩, hf1⟩ hle1 hfr1
  dsimp only at hid hf1 hle1
  have hpX := V2.obj o2
  have hin : ∀ j ∈ X1.ids, j < n1 := fun j hj => by rcases hid j hj with q | q; have := V1.lt hnx j q; omega; omega
  have t5 := V2.top 5 (by omega)
  have t6 := V2.top 6 (by omega)
  simp only [wRow] at t5 t6
  have o0 := o2
  simp only [wldR] at o2
  have l6 := hin _ (WI.top_mem (X := X1) (k := 6) (by omega))
  have k1 : ∀ k, (p = n1 + k) = False := fun k => by simp only [eq_iff_iff, iff_false]; omega
  have k3 : ∀ k, (X1.top 6 = n1 + k) = False := fun k => by simp only [eq_iff_iff, iff_false]; omega
  have k5 : (p = X1.top 6) = False := by simp only [eq_iff_iff, iff_false]; exact fun e => hpX (e ▸ WI.top_mem (by omega))
  try simp [-map_take, -map_drop, -map_tail, rgs, o2]
  refine call_pcB hcat (.int _ _) ?hb ?_
  case hb => exact .cons (.agg1 (.cons (.ref0 t5 (by simp) (by simp)) (.cons (.ref0 t6 (by simp) (by simp)) (.cons (.same _) .nil)))) (.cons (.same _) .nil)
  by_cases h0 : 0 ≤ tmsAt t1.list s
  · have hn : (tmsAt t1.list s < 0) = False := by simp only [eq_iff_iff, iff_false]; omega
    obtain ⟨i, hi⟩ : ∃ i : Nat, tmsAt t1.list s = (i : Int) := ⟨(tmsAt t1.list s).toNat, by omega⟩
    have hD : dropT t1 s = ⟨t1.heap, t1.list.eraseIdx i, t1.next⟩ := by simp [dropT, h0, hi]
    have hd : decide (0 ≤ tmsAt t1.list s) = true := by simp [h0]
    have ew : IntKind.i64.wrap ((i : Int) + 1) = (i : Int) + 1 := i64_ok (by omega)
    rw [hD, hd]
    rw [hi] at hn ⊢
    have hil : i < t1.list.length := by omega
    try simp [-map_take, -map_drop, -map_tail, rgs, o2, hn, ew]
    refine call_ac (m_DeleteTmr hil (by omega)) (by simpa using t6) ?_
    rintro r h2 n2 ⟨jd, rfl, hj1, hj2, hrow, hf⟩ hle2 hfr2
    dsimp only at hj1 hf hle2
    have o3 := hf p (by omega) (fun e => hpX (e ▸ WI.top_mem (by omega)))
    rw [o2] at o3
    try simp [-map_take, -map_drop, -map_tail, rgs, o3]
    refine ⟨rfl, ⟨X1.setTop 6 jd, ?_, V2.newTop [] (by omega) (fun hm => by have := hin _ hm; omega) ?_ (by simp) (by simp) (fun k hk _ hne => ?_) rfl rfl (fun j hj _ hne => ?_), fun j hj => ?_⟩, fun j hj hjp hjX => ?_⟩
    · rw [upd_same]; simp [wldR, WI.setTop, setT, mkW]
    · exact (upd_ne _ _ _ _ (by omega)).trans hrow
    · rcases lt15 hk with rfl | rfl | rfl | rfl | rfl | rfl | rfl | rfl | rfl | rfl | rfl | rfl | rfl | rfl | rfl <;> first | rfl | exact absurd rfl hne
    · have := hin j hj
      rw [upd_ne _ _ _ _ (fun (e : j = p) => hpX (e ▸ hj)), hf j (by omega) hne]
    · rcases WI.setTop_ids hj with q | q
      · rcases hid j q with r | r
        · exact .inl r
        · right; omega
      · right; omega
    · have hne : j ≠ X1.top 6 := fun e => by
        rcases hid (X1.top 6) (WI.top_mem (by omega)) with r | r
        · exact hjX (e ▸ r)
        · omega
      rw [upd_ne _ _ _ _ hjp, hf j (by omega) hne]
      exact hf1 j (by omega) hjp hjX
  · have hn : (tmsAt t1.list s < 0) = True := by simp only [eq_iff_iff, iff_true]; omega
    have hD : dropT t1 s = t1 := by simp [dropT, h0]
    have hd : decide (0 ≤ tmsAt t1.list s) = false := by simpa using h0
    rw [hD, hd]
    try simp [-map_take, -map_drop, -map_tail, rgs, hn]
    exact ⟨rfl, ⟨X1, o0, V2, fun id hm => by rcases hid id hm with r | r <;> first | exact .inl r | (right; omega)⟩, fun j hj hjp hjX => hf1 j (by omega) hjp hjX⟩
theorem m_fire {X : WI} {w : Wld} {p : Nat} {now : Int} (ht : tmsOk w.timers = true) : AC ctx.P 126 [.ptr p 6, .int .i64 now]
    (fun h _ => h p = some (.obj (wldR X w)) ∧ WV h X w) (ChgQ p X (setT w (fireT w.timers now)) (.tup [.agg (tmrC (fireR w.timers now)), .bool (fireC w.timers now)])) := by
  obtain ⟨-, u2, ⟨u3, -, -⟩, -, -, -⟩ := tmsOk_iff.1 ht
  refine AC.o okC Tryz.func126 rfl fun h nx hfr hnx hpre => ?_
  obtain ⟨o1, V1⟩ := hpre
  have hp : p < nx := hnx p (by rw [o1]; simp)
  have hpX := V1.obj o1
  have hin := V1.lt hnx
  have t5 := V1.top 5 (by omega)
  have t6 := V1.top 6 (by omega)
  simp only [wRow] at t5 t6
  have o0 := o1
  simp only [wldR] at o1
  have l5 := hin _ (WI.top_mem (X := X) (k := 5) (by omega))
  have l6 := hin _ (WI.top_mem (X := X) (k := 6) (by omega))
  have k1 : ∀ k, (p = nx + k) = False := fun k => by simp only [eq_iff_iff, iff_false]; omega
  have k2 : ∀ k, (X.top 5 = nx + k) = False := fun k => by simp only [eq_iff_iff, iff_false]; omega
  have k3 : ∀ k, (X.top 6 = nx + k) = False := fun k => by simp only [eq_iff_iff, iff_false]; omega
  have k4 : (p = nx) = False := by simp only [eq_iff_iff, iff_false]; omega
  have k5 : (X.top 5 = nx) = False := by simp only [eq_iff_iff, iff_false]; omega
  have k6 : (X.top 6 = nx) = False := by simp only [eq_iff_iff, iff_false]; omega
  by_cases hl : w.timers.heap.length = 0
  · have hC : fireC w.timers now = false := by simp [fireC, hl]
    have hT : fireT w.timers now = w.timers := by simp [fireT, hC]
    have hR : fireR w.timers now = default := by simp [fireR, hC]
    have hlp : ((w.timers.heap.length : Int) == 0) = true := by rw [hl]; rfl
    rw [hC, hT, hR, setT_same]
    try simp [-map_take, -map_drop, -map_tail, rgs, o1, hlp, k1, k2, k3, k4, k5, k6]
    repeat' first | done | (((with_reducible show lenS _ _ _ _ _ _); refine lenS_slice rfl fun _ => ?_) <;> simp [-map_take, -map_drop, -map_tail, rgs, o1, hlp, k1, k2, k3, k4, k5, k6]) | fail
    exact ⟨rfl, ⟨X, by simp [k1, k4, o0], V1.keep fun id hm => by have := hin id hm; (repeat rw [upd_ne _ _ _ _ (by omega)]), fun id hm => .inl hm⟩, fun j hj _ _ => by repeat rw [upd_ne _ _ _ _ (by omega)]⟩
  · have hlp : ((w.timers.heap.length : Int) == 0) = false := beq_eq_false_iff_ne.2 (by omega)
    obtain ⟨f1, f2, f3⟩ := fire_at ht hl
    have hlt := tmsAt_lt w.timers.list (gt w.timers.heap 0).seq
    have hg0 : (w.timers.heap.map twgC)[0]? = some (twgC (gt w.timers.heap 0)) := by rw [List.getElem?_map, show (0 : Nat) = (0 : Int).toNat from rfl, gt_some (by omega) (by omega)]; rfl
    have hg : (w.timers.list.map tmrC)[(tmsAt w.timers.list (gt w.timers.heap 0).seq).toNat]? = some (tmrC (fireX w.timers)) := by rw [List.getElem?_map, gt_some f1 hlt]; rfl
    by_cases hd : isDue now (gt w.timers.heap 0).due = true
    · have hC : fireC w.timers now = true := by simp [fireC, hl, hd]
      have hT : fireT w.timers now = stopT w.timers (gt w.timers.heap 0).seq := by simp [fireT, hC]
      have hR : fireR w.timers now = fireX w.timers := by simp [fireR, hC]
      rw [hC, hT, hR]
      try simp [-map_take, -map_drop, -map_tail, rgs, o1, t5, hlp, hd, twgC, k1, k2, k3, k4, k5, k6]
      repeat' first | done | ((first | ((with_reducible show lenS _ _ _ _ _ _); refine lenS_slice rfl fun _ => ?_) | ((with_reducible show doCall _ _ _ 135 _ _); refine call_pc (c_IsDue) ?_) | (((with_reducible show iaddrS _ _ _ _ (.ref _ _ _ _) _ _); refine iaddr_ref rfl (by omega) (by omega) ?_)) | (((with_reducible show loadE _ _ _ _ _ _ _ _); refine loadE_row hg0 ?_)) | (with_reducible refine go_draw (i := 3) [(0, [], []), (1, [], []), (2, [], []), (3, [], [17]), (4, [], []), (5, [], []), (6, [], [17]), (7, [], []), (8, [], []), (9, [], []), (10, [], [17]), (11, [], []), (12, [], []), (13, [], [17]), (14, [.tmp 28], [17]), (15, [], []), (16, [], [17]), (17, [], []), (18, [], [])] (by kernel_rfl) ?_)) <;> simp [-map_take, -map_drop, -map_tail, rgs, o1, t5, hlp, hd, twgC, k1, k2, k3, k4, k5, k6]) | fail
      refine ⟨free_of hnx _, ?_⟩
      refine call_pcB (c_tmsAt (F := FF) (t := w.timers) (s := (gt w.timers.heap 0).seq)) (.int _ _) ?hb ?_
      case hb => exact .cons (.agg1 (.cons (.ref0 (by simpa [k5] using t5) (by simp) (by simp)) (.cons (.ref0 (by simpa [k6] using t6) (by simp) (by simp)) (.cons (.same _) .nil)))) (.cons (.same _) .nil)
      try simp [-map_take, -map_drop, -map_tail, rgs, o1, t6, f3, tmrC, k1, k2, k3, k4, k5, k6, free_of hnx]
      repeat' first | done | ((first | (((with_reducible show iaddrS _ _ _ _ (.ref _ _ _ _) _ _); refine iaddr_ref rfl (by omega) (by omega) ?_)) | (((with_reducible show loadE _ _ _ _ _ _ _ _); refine loadE_row hg ?_))) <;> simp [-map_take, -map_drop, -map_tail, rgs, o1, t6, f3, tmrC, k1, k2, k3, k4, k5, k6, free_of hnx]) | fail
      refine call_ac (m_stop (X := X) (p := p) (w := w) (s := (gt w.timers.heap 0).seq) ht) ⟨by simp [k1, k4, o0], V1.keep fun id hm => by have := hin id hm; dsimp only; repeat rw [upd_ne _ _ _ _ (by omega)]⟩ ?_
      rintro r h1 n1 ⟨rfl, ⟨X1, o2, V2, hid⟩, hf1⟩ hle1 hfr1
      dsimp only at hid hf1 hle1
      have z0 := hf1 nx (by omega) (by omega) (fun hm => by have := hin _ hm; omega)
      have z6 := hf1 (nx + 37) (by omega) (by omega) (fun hm => by have := hin _ hm; omega)
      have hX0 : nx ∉ X1.ids := fun hm => by rcases hid _ hm with r | r; (have := hin _ r; omega); omega
      simp at z0 z6
      try simp [-map_take, -map_drop, -map_tail, rgs, z0, z6]
      refine ⟨by simp [tmrC, f3], ⟨X1, by rw [upd_ne _ _ _ _ (by omega)]; exact o2, V2.keep fun id hm => upd_ne _ _ _ _ (fun e => hX0 (e ▸ hm)), fun id hm => by rcases hid id hm with r | r <;> first | exact .inl r | (right; omega)⟩, fun j hj hjp hjX => ?_⟩
      rw [upd_ne _ _ _ _ (by omega), hf1 j (by omega) hjp hjX]
      repeat rw [upd_ne _ _ _ _ (by omega)]
    · have hdf : isDue now (gt w.timers.heap 0).due = false := by simpa using hd
      have hC : fireC w.timers now = false := by simp [fireC, hdf]
      have hT : fireT w.timers now = w.timers := by simp [fireT, hC]
      have hR : fireR w.timers now = default := by simp [fireR, hC]
      rw [hC, hT, hR, setT_same]
      try simp [-map_take, -map_drop, -map_tail, rgs, o1, t5, hlp, hdf, twgC, k1, k2, k3, k4, k5, k6]
      repeat' first | done | ((first | ((with_reducible show lenS _ _ _ _ _ _); refine lenS_slice rfl fun _ => ?_) | ((with_reducible show doCall _ _ _ 135 _ _); refine call_pc (c_IsDue) ?_) | (((with_reducible show iaddrS _ _ _ _ (.ref _ _ _ _) _ _); refine iaddr_ref rfl (by omega) (by omega) ?_)) | (((with_reducible show loadE _ _ _ _ _ _ _ _); refine loadE_row hg0 ?_))) <;> simp [-map_take, -map_drop, -map_tail, rgs, o1, t5, hlp, hdf, twgC, k1, k2, k3, k4, k5, k6]) | fail
      exact ⟨rfl, ⟨X, by simp [k1, k4, o0], V1.keep fun id hm => by have := hin id hm; (repeat rw [upd_ne _ _ _ _ (by omega)]), fun id hm => .inl hm⟩, fun j hj _ _ => by repeat rw [upd_ne _ _ _ _ (by omega)]⟩
theorem c_Readied {k : Tsk} {reg : Int} (hpc : tskOk k = true → -9223372036854775808 ≤ k.pc ∧ k.pc < 9223372036854775807) : PC ctx.P 129 [.agg (tskC k), .int .i64 reg] (.agg (tskC (readied k reg))) := by
  by_cases hk : tskOk k = true
  · have ew : IntKind.i64.wrap (k.pc + 1) = k.pc + 1 := i64_ok (by have := hpc hk; omega)
    by_cases hs : k.state = 2
    · have e : readied k reg = k := by simp [readied, hk, hs]
      rw [e]
      have hsb : (k.state == 2) = true := by simpa using hs
      refine PC.o okC Tryz.func129 rfl (.agg _ (tskC_fz k)) fun h nx hnx => ?_
      try simp [-map_take, -map_drop, -map_tail, rgs, hk, hsb, ew, tskC]
      repeat' first | done | (((with_reducible show doCall _ _ _ 244 _ _); refine call_pc (c_TaskOk (t := k)) ?_) <;> simp [-map_take, -map_drop, -map_tail, rgs, hk, hsb, ew, tskC]) | fail
    · have hsb : (k.state == 2) = false := by simpa using hs
      by_cases hn : tskOk (nextK k reg) = true
      · have e : readied k reg = nextK k reg := by simp [readied, hk, hs, hn]
        have hc := c_TaskOk (t := nextK k reg)
        rw [hn] at hc
        rw [e]
        refine PC.o okC Tryz.func129 rfl (.agg _ (tskC_fz _)) fun h nx hnx => ?_
        try simp [-map_take, -map_drop, -map_tail, rgs, hk, hsb, ew, tskC, nextK]
        repeat' first | done | (((with_reducible show doCall _ _ _ 244 _ _); refine call_pc (c_TaskOk (t := k)) ?_) <;> simp [-map_take, -map_drop, -map_tail, rgs, hk, hsb, ew, tskC, nextK]) | fail
        refine call_pc hc ?_
        try simp [-map_take, -map_drop, -map_tail, rgs, hsb, tskC, nextK]
      · have hnf : tskOk (nextK k reg) = false := by simpa using hn
        have e : readied k reg = k := by simp [readied, hk, hs, hnf]
        rw [e]
        refine PC.o okC Tryz.func129 rfl (.agg _ (tskC_fz k)) fun h nx hnx => ?_
        have hc := c_TaskOk (t := nextK k reg)
        rw [hnf] at hc
        try simp [-map_take, -map_drop, -map_tail, rgs, hk, hsb, ew, tskC]
        repeat' first | done | (((with_reducible show doCall _ _ _ 244 _ _); refine call_pc (c_TaskOk (t := k)) ?_) <;> simp [-map_take, -map_drop, -map_tail, rgs, hk, hsb, ew, tskC]) | fail
        refine call_pc hc ?_
        try simp [-map_take, -map_drop, -map_tail, rgs, hsb, tskC, nextK]
  · have hkf : tskOk k = false := by simpa using hk
    have e : readied k reg = default := by simp [readied, hkf]
    rw [e]
    refine PC.o okC Tryz.func129 rfl (.agg _ (tskC_fz _)) fun h nx hnx => ?_
    try simp [-map_take, -map_drop, -map_tail, rgs, hkf, tskC]
    repeat' first | done | (((with_reducible show doCall _ _ _ 244 _ _); refine call_pc (c_TaskOk (t := k)) ?_) <;> simp [-map_take, -map_drop, -map_tail, rgs, hkf, tskC]) | fail
    trivial
theorem d_Drain {w : Wld} (hw : wldOk w = true) : DoOk ctx.P 33 [] w (drainW w) (drainB w) := by
  have he := wldOk_ev hw
  have ht := eventsOk_tree he
  have hs : isSpread w.spread w.tree = true := (wldOk_all hw).2.2.2.2.1
  have htm : tmsOk w.timers = true := (wldOk_all hw).2.2.2.2.2.2.1
  have htl : w.timers.list.all (isTimer w) = true := (wldOk_all hw).2.2.2.2.2.2.2.1
  have hrl : w.rang.length ≤ 2000 := by simp only [wldOk, Bool.and_eq_true, decide_eq_true_eq] at hw; exact hw.2.2.2.2.2.2.2.2.2.2.2.2.2.2.2.2.1
  have hle := events_len he
  have hwk : w.spread.work.length ≤ 240 := by simp only [isSpread, Bool.and_eq_true, decide_eq_true_eq] at hs; exact hs.2.1
  have hT1 := fireT_ok (now := w.now) htm
  intro p X
  refine AC.o okC Tryz.func33 rfl fun h nx hfr hnx hpre => ?_
  obtain ⟨o1, V1, -⟩ := hpre
  have hp : p < nx := hnx p (by rw [o1]; simp)
  have hpX := V1.obj o1
  have hin := V1.lt hnx
  have o0 := o1
  simp only [wldR] at o1
  have k0 : ∀ k, (p = nx + k) = False := fun k => by simp only [eq_iff_iff, iff_false]; omega
  try simp [-map_take, -map_drop, -map_tail, rgs, o1, k0, free_of hnx]
  repeat' first | done | ((with_reducible refine go_draw (i := 1) [(0, [], []), (1, [], []), (2, [], []), (3, [], []), (4, [], []), (5, [], []), (6, [], [11]), (7, [], [11]), (8, [], []), (9, [], []), (10, [], []), (11, [], []), (12, [], []), (13, [], [])] (by kernel_rfl) ?_) <;> simp [-map_take, -map_drop, -map_tail, rgs, o1, k0, free_of hnx]) | fail
  refine call_ac (m_fire (X := X) (p := p) (w := w) (now := w.now) htm) ⟨by simpa using o0, V1⟩ ?_
  rintro r h1 n1 ⟨rfl, ⟨X1, o2, V2, hid⟩, hf1⟩ hle1 hfr1
  dsimp only at hid hf1 hle1
  have hin1 : ∀ j ∈ X1.ids, j < n1 := fun j hj => by rcases hid j hj with r | r; (have := hin j r; omega); omega
  have k1 : ∀ k, (p = n1 + k) = False := fun k => by simp only [eq_iff_iff, iff_false]; omega
  have k2 : ∀ k, (n1 + k = p) = False := fun k => by simp only [eq_iff_iff, iff_false]; omega
  have n12 : nx + 12 ∉ X1.ids := fun hm => by rcases hid _ hm with r | r; (have := hin _ r; omega); omega
  have nX1 : ∀ j, j < nx → j ∉ X.ids → j ∉ X1.ids := fun j hj hjX hm => by rcases hid j hm with r | r; (exact hjX r); omega
  by_cases hC : fireC w.timers w.now = true
  · have hl : w.timers.heap.length ≠ 0 := by intro e; simp [fireC, e] at hC
    obtain ⟨f1, f2, f3⟩ := fire_at htm hl
    have hlt := tmsAt_lt w.timers.list (gt w.timers.heap 0).seq
    have hit : isTimer w (fireX w.timers) = true := List.all_eq_true.1 htl _ (gt_mem f1 hlt)
    have hR : fireR w.timers w.now = fireX w.timers := by simp [fireR, hC]
    have hB : drainB w = true := hC
    rw [hB, hR, hC]
    by_cases h0 : (fireX w.timers).what = 0
    · have hW : drainW w = cutW (setT w (forgetT (fireT w.timers w.now) (fireX w.timers).seq)) (ringEv w (fireX w.timers)) := by unfold drainW; rw [if_pos hC, if_pos h0]
      have hb0 : ((fireX w.timers).what == 0) = true := by simpa using h0
      rw [hW]
      generalize fireX w.timers = x at *
      generalize fireT w.timers w.now = t1 at *
      try simp [-map_take, -map_drop, -map_tail, rgs, hb0, tmrC, k1, k2]
      repeat' first | done | ((with_reducible refine go_draw (i := 6) [(0, [], []), (1, [], []), (2, [], []), (3, [], []), (4, [], []), (5, [], [])] (by kernel_rfl) ?_) <;> simp [-map_take, -map_drop, -map_tail, rgs, hb0, tmrC, k1, k2]) | fail
      refine call_ac (m_forget (X := X1) (p := p) (w := setT w t1) (s := x.seq) hT1) ⟨by dsimp only; rw [upd_ne _ _ _ _ (by omega), upd_ne _ _ _ _ (by omega)]; exact o2, V2.keep fun id hm => by dsimp only; rw [upd_ne _ _ _ _ (fun (e : id = nx + 12) => n12 (e ▸ hm)), upd_ne _ _ _ _ (fun (e : id = nx + 12) => n12 (e ▸ hm))]⟩ ?_
      rintro r h2 n2 ⟨rfl, ⟨X2, o3, V3, hid2⟩, hf2⟩ hle2 hfr2
      dsimp only at hid2 hf2 hle2
      have hin2 : ∀ j ∈ X2.ids, j < n2 := fun j hj => by rcases hid2 j hj with r | r; (have := hin1 j r; omega); omega
      have nX2 : ∀ j, j < nx → j ∉ X.ids → j ∉ X2.ids := fun j hj hjX hm => by rcases hid2 j hm with r | r; (exact nX1 j hj hjX r); omega
      have ids2 : ∀ j ∈ X2.ids, j ∈ X.ids ∨ nx ≤ j ∧ j < n2 := fun j hm => by
        rcases hid2 j hm with r | r
        · rcases hid j r with r | r
          · exact .inl r
          · right; omega
        · right; omega
      have K2 : ∀ j, j < nx → j ≠ p → j ∉ X.ids → h2 j = h j := fun j hj hjp hjX => by
        rw [hf2 j (by omega) hjp (nX1 j hj hjX), upd_ne _ _ _ _ (by omega), upd_ne _ _ _ _ (by omega)]
        exact hf1 j (by omega) hjp hjX
      have z2 := hf2 (nx + 12) (by omega) (by omega) n12
      simp at z2
      rw [show setT (setT w t1) (forgetT (setT w t1).timers x.seq) = setT w (forgetT t1 x.seq) from rfl] at o3 V3
      try simp [-map_take, -map_drop, -map_tail, rgs, z2]
      refine call_ac (m_cancel (X := X2) (w := setT w (forgetT t1 x.seq)) (p := p) (n := x.whom) (er := 2) (ca := 0) ht (show w.spread.work.length ≤ 1048576 by omega) (show w.events.length ≤ 1048576 by omega)) ⟨by simpa using o3, V3⟩ ?_
      rintro r h3 n3 ⟨rfl, ⟨X3, o4, V4, hid3⟩, hf3⟩ hle3 hfr3
      dsimp only at hid3 hf3 hle3
      try simp [-map_take, -map_drop, -map_tail, rgs]
      refine ⟨rfl, fun _ => ⟨X3, o4, V4, fun id hm => ?_⟩, (fun q hq => by simp at hq), fun j hj hjp hjX _ => ?_⟩
      · rcases hid3 id hm with r | r
        · rcases ids2 id r with r | r
          · exact .inl r
          · right; omega
        · right; omega
      · rw [hf3 j (by omega) hjp (nX2 j hj hjX)]
        exact K2 j hj hjp hjX
    · have hb0 : ((fireX w.timers).what == 0) = false := by simpa using h0
      by_cases h1w : (fireX w.timers).what = 1
      · have hb1 : ((fireX w.timers).what == 1) = true := by simpa using h1w
        have hwh : isIn (fireX w.timers).whom w.tasks = true := by simpa [isTimer, h1w] using hit
        simp only [isIn_true] at hwh
        have hW : drainW w = mkW2 w (forgetT (fireT w.timers w.now) (fireX w.timers).seq) (if wakes w (fireX w.timers) = true then w.tasks.set (fireX w.timers).whom.toNat (readied (gt w.tasks (fireX w.timers).whom) 1) else w.tasks) w.rang := by unfold drainW; rw [if_pos hC, if_neg h0, if_pos h1w]
        rw [hW]
        generalize fireX w.timers = x at *
        generalize fireT w.timers w.now = t1 at *
        try simp [-map_take, -map_drop, -map_tail, rgs, hb0, hb1, tmrC, k1, k2]
        repeat' first | done | ((with_reducible refine go_draw (i := 9) [(0, [], []), (1, [], []), (2, [], []), (3, [], []), (4, [], []), (5, [], [])] (by kernel_rfl) ?_) <;> simp [-map_take, -map_drop, -map_tail, rgs, hb0, hb1, tmrC, k1, k2]) | fail
        refine call_ac (m_forget (X := X1) (p := p) (w := setT w t1) (s := x.seq) hT1) ⟨by dsimp only; rw [upd_ne _ _ _ _ (by omega), upd_ne _ _ _ _ (by omega)]; exact o2, V2.keep fun id hm => by dsimp only; rw [upd_ne _ _ _ _ (fun (e : id = nx + 12) => n12 (e ▸ hm)), upd_ne _ _ _ _ (fun (e : id = nx + 12) => n12 (e ▸ hm))]⟩ ?_
        rintro r h2 n2 ⟨rfl, ⟨X2, o3, V3, hid2⟩, hf2⟩ hle2 hfr2
        dsimp only at hid2 hf2 hle2
        have hin2 : ∀ j ∈ X2.ids, j < n2 := fun j hj => by rcases hid2 j hj with r | r; (have := hin1 j r; omega); omega
        have nX2 : ∀ j, j < nx → j ∉ X.ids → j ∉ X2.ids := fun j hj hjX hm => by rcases hid2 j hm with r | r; (exact nX1 j hj hjX r); omega
        have ids2 : ∀ j ∈ X2.ids, j ∈ X.ids ∨ nx ≤ j ∧ j < n2 := fun j hm => by
          rcases hid2 j hm with r | r
          · rcases hid j r with r | r
            · exact .inl r
            · right; omega
          · right; omega
        have K2 : ∀ j, j < nx → j ≠ p → j ∉ X.ids → h2 j = h j := fun j hj hjp hjX => by
          rw [hf2 j (by omega) hjp (nX1 j hj hjX), upd_ne _ _ _ _ (by omega), upd_ne _ _ _ _ (by omega)]
          exact hf1 j (by omega) hjp hjX
        have z2 := hf2 (nx + 12) (by omega) (by omega) n12
        simp at z2
        rw [show setT (setT w t1) (forgetT (setT w t1).timers x.seq) = setT w (forgetT t1 x.seq) from rfl] at o3 V3
        have t10 := V3.top 10 (by omega)
        simp only [wRow] at t10
        have o4 := o3
        simp only [wldR] at o4
        have hgt : (w.tasks.map tskC)[x.whom.toNat]? = some (tskC (gt w.tasks x.whom)) := by rw [List.getElem?_map, gt_some hwh.1 hwh.2]; rfl
        have e10 : (setT w (forgetT t1 x.seq)).tasks = w.tasks := rfl
        rw [e10] at t10 o4
        have m10 := hin2 _ (WI.top_mem (X := X2) (k := 10) (by omega))
        have hpX2 := V3.obj o3
        have j1 : ∀ k, (p = n2 + k) = False := fun k => by simp only [eq_iff_iff, iff_false]; omega
        have j2 : ∀ k, (X2.top 10 = n2 + k) = False := fun k => by simp only [eq_iff_iff, iff_false]; omega
        have j3 : ∀ k, (nx + 12 = n2 + k) = False := fun k => by simp only [eq_iff_iff, iff_false]; omega
        have ids2' : ∀ {m : Nat}, n2 ≤ m → ∀ j ∈ X2.ids, j ∈ X.ids ∨ nx ≤ j ∧ j < m := fun hm j hj => by rcases ids2 j hj with r | r; (exact .inl r); (right; omega)
        by_cases hwk : wakes w x = true
        · have hwk' := hwk
          simp only [wakes, Bool.and_eq_true] at hwk'
          rw [if_pos hwk]
          have hrd := c_Readied (k := gt w.tasks x.whom) (reg := 1) (fun h => by simp only [tskOk, Bool.and_eq_true, inR_true] at h; omega)
          try simp [-map_take, -map_drop, -map_tail, rgs, z2, o4, t10, tskC, j1, j2, j3, hwk'.1, hwk'.2]
          repeat' first | done | ((first | (((with_reducible show iaddrS _ _ _ _ (.ref _ _ _ _) _ _); refine iaddr_ref rfl (by omega) (by omega) ?_)) | (((with_reducible show loadE _ _ _ _ _ _ _ _); refine loadE_row hgt ?_)) | (with_reducible refine go_draw (i := 10) [(0, [], []), (1, [], []), (2, [], []), (3, [], [8]), (4, [], []), (5, [], [8]), (6, [], []), (7, [], [8]), (8, [], []), (9, [], [])] (by kernel_rfl) ?_) | (with_reducible refine go_draw (i := 12) [(0, [], []), (1, [], []), (2, [], []), (3, [], []), (4, [], []), (5, [], []), (6, [], []), (7, [.tmp 61, .tmp 63], []), (8, [], []), (9, [], [])] (by kernel_rfl) ?_)) <;> simp [-map_take, -map_drop, -map_tail, rgs, z2, o4, t10, tskC, j1, j2, j3, hwk'.1, hwk'.2]) | fail
          refine call_pc hrd ?_
          generalize readied (gt w.tasks x.whom) 1 = y at *
          try simp [-map_take, -map_drop, -map_tail, rgs, z2, o4, t10, j1, j2, j3]
          repeat' first | done | ((((with_reducible show iaddrS _ _ _ _ (.ref _ _ _ _) _ _); refine iaddr_ref rfl (by omega) (by omega) ?_)) <;> simp [-map_take, -map_drop, -map_tail, rgs, z2, o4, t10, j1, j2, j3]) | fail
          refine storeE_put (sz := 9) (xs := w.tasks.map tskC) (vs := tskC y) (cells := tskC (gt w.tasks x.whom)) (by simp [t10, j2]) rfl rfl rfl hgt rfl ?_
          try simp [-map_take, -map_drop, -map_tail, rgs]
          refine ⟨rfl, fun _ => ⟨X2, ?_, V3.setTasks ?_ (fun j hj hne => ?_), ids2' (by omega)⟩, (fun q hq => by simp at hq), fun j hj hjp hjX _ => ?_⟩
          · rw [upd_ne _ _ _ _ (fun (e : p = X2.top 10) => hpX2 (e ▸ WI.top_mem (by omega))), upd_ne _ _ _ _ (by omega), upd_ne _ _ _ _ (by omega)]
            exact o3.trans (by simp [wldR, mkW2, setT, mkW])
          · rw [upd_same, ← List.map_set]
          · have := hin2 j hj
            rw [upd_ne _ _ _ _ hne, upd_ne _ _ _ _ (by omega), upd_ne _ _ _ _ (by omega)]
          · rw [upd_ne _ _ _ _ (fun (e : j = X2.top 10) => nX2 j hj hjX (e ▸ WI.top_mem (by omega))), upd_ne _ _ _ _ (by omega), upd_ne _ _ _ _ (by omega)]
            exact K2 j hj hjp hjX
        · rw [if_neg hwk]
          by_cases hy : (gt w.tasks x.whom).why = 2
          · have hyb : ((gt w.tasks x.whom).why == 2) = true := by simpa using hy
            have htb : ((gt w.tasks x.whom).timer == x.seq) = false := by
              cases hq : ((gt w.tasks x.whom).timer == x.seq) with
              | false => rfl
              | true => exact absurd (by simp [wakes, hyb, hq]) hwk
            try simp [-map_take, -map_drop, -map_tail, rgs, z2, o4, t10, tskC, j1, j2, j3, hyb, htb]
            repeat' first | done | ((first | (((with_reducible show iaddrS _ _ _ _ (.ref _ _ _ _) _ _); refine iaddr_ref rfl (by omega) (by omega) ?_)) | (((with_reducible show loadE _ _ _ _ _ _ _ _); refine loadE_row hgt ?_)) | (with_reducible refine go_draw (i := 10) [(0, [], []), (1, [], []), (2, [], []), (3, [], [8]), (4, [], []), (5, [], [8]), (6, [], []), (7, [], [8]), (8, [], []), (9, [], [])] (by kernel_rfl) ?_)) <;> simp [-map_take, -map_drop, -map_tail, rgs, z2, o4, t10, tskC, j1, j2, j3, hyb, htb]) | fail
            refine ⟨rfl, fun _ => ⟨X2, by rw [upd_ne _ _ _ _ (by omega), upd_ne _ _ _ _ (by omega)]; exact o3, V3.keep fun id hm => by have := hin2 id hm; rw [upd_ne _ _ _ _ (by omega), upd_ne _ _ _ _ (by omega)], ids2' (by omega)⟩, (fun q hq => by simp at hq), fun j hj hjp hjX _ => by rw [upd_ne _ _ _ _ (by omega), upd_ne _ _ _ _ (by omega)]; exact K2 j hj hjp hjX⟩
          · have hyb : ((gt w.tasks x.whom).why == 2) = false := by simpa using hy
            try simp [-map_take, -map_drop, -map_tail, rgs, z2, o4, t10, tskC, j1, j2, j3, hyb]
            repeat' first | done | ((first | (((with_reducible show iaddrS _ _ _ _ (.ref _ _ _ _) _ _); refine iaddr_ref rfl (by omega) (by omega) ?_)) | (((with_reducible show loadE _ _ _ _ _ _ _ _); refine loadE_row hgt ?_)) | (with_reducible refine go_draw (i := 10) [(0, [], []), (1, [], []), (2, [], []), (3, [], [8]), (4, [], []), (5, [], [8]), (6, [], []), (7, [], [8]), (8, [], []), (9, [], [])] (by kernel_rfl) ?_)) <;> simp [-map_take, -map_drop, -map_tail, rgs, z2, o4, t10, tskC, j1, j2, j3, hyb]) | fail
            refine ⟨rfl, fun _ => ⟨X2, by rw [upd_ne _ _ _ _ (by omega), upd_ne _ _ _ _ (by omega)]; exact o3, V3.keep fun id hm => by have := hin2 id hm; rw [upd_ne _ _ _ _ (by omega), upd_ne _ _ _ _ (by omega)], ids2' (by omega)⟩, (fun q hq => by simp at hq), fun j hj hjp hjX _ => by rw [upd_ne _ _ _ _ (by omega), upd_ne _ _ _ _ (by omega)]; exact K2 j hj hjp hjX⟩
      · have hb1 : ((fireX w.timers).what == 1) = false := by simpa using h1w
        have hW : drainW w = mkW2 w (fireT w.timers w.now) w.tasks (if (fireX w.timers).what = 2 ∧ w.rang.length < 2000 then w.rang ++ [(fireX w.timers).whom] else w.rang) := by unfold drainW; rw [if_pos hC, if_neg h0, if_neg h1w]
        rw [hW]
        generalize fireX w.timers = x at *
        generalize fireT w.timers w.now = t1 at *
        have t14 := V2.top 14 (by omega)
        simp only [wRow] at t14
        have e14 : (setT w t1).rang = w.rang := rfl
        have o4 := o2
        simp only [wldR] at o4
        rw [e14] at t14 o4
        have hpX1 := V2.obj o2
        have m14 := hin1 _ (WI.top_mem (X := X1) (k := 14) (by omega))
        have j0 : (p = nx + 12) = False := by simp only [eq_iff_iff, iff_false]; omega
        have j1 : (X1.top 14 = nx + 12) = False := by simp only [eq_iff_iff, iff_false]; exact fun e => n12 (e ▸ WI.top_mem (by omega))
        have j2 : ∀ k, (X1.top 14 = n1 + k) = False := fun k => by simp only [eq_iff_iff, iff_false]; omega
        have j3 : (p = X1.top 14) = False := by simp only [eq_iff_iff, iff_false]; exact fun e => hpX1 (e ▸ WI.top_mem (by omega))
        have j4 : (X1.top 14 = p) = False := by simp only [eq_iff_iff, iff_false]; exact fun e => hpX1 (e ▸ WI.top_mem (by omega))
        have j5 : ∀ k, (nx + 12 = n1 + k) = False := fun k => by simp only [eq_iff_iff, iff_false]; omega
        have j6 : (nx + 12 = X1.top 14) = False := by simp only [eq_iff_iff, iff_false]; exact fun e => n12 (e ▸ WI.top_mem (by omega))
        by_cases h2w : x.what = 2
        · have hb2 : (x.what == 2) = true := by simpa using h2w
          by_cases h2l : w.rang.length < 2000
          · have hz : ((w.rang.length : Int) < 2000) = True := by simp only [eq_iff_iff, iff_true]; omega
            rw [if_pos ⟨h2w, h2l⟩]
            try simp [-map_take, -map_drop, -map_tail, rgs, hb0, hb1, hb2, hz, tmrC, iv, o4, t14, k1, k2, j0, j1, j2, j3, j4, j5, j6]
            repeat' first | done | ((first | ((with_reducible show lenS _ _ _ _ _ _); refine lenS_slice rfl fun _ => ?_) | ((with_reducible show appS _ _ _ _ _ _ _ _); refine app_end rfl rfl (by decide) (by decide) (by (simp [-map_take, -map_drop, -map_tail, rgs, hb0, hb1, hb2, hz, tmrC, iv, o4, t14, k1, k2, j0, j1, j2, j3, j4, j5, j6]; rfl)) (by (simp [-map_take, -map_drop, -map_tail, rgs, hb0, hb1, hb2, hz, tmrC, iv, o4, t14, k1, k2, j0, j1, j2, j3, j4, j5, j6]; rfl)) (by (simp; done)) (by (simp only [MLIM, LIM] at *; simp; omega)) (by simp [iv, bv]) ?_) | (with_reducible refine go_draw (i := 15) [(0, [], []), (1, [], []), (2, [], []), (3, [], []), (4, [], [7]), (5, [], []), (6, [], []), (7, [], []), (8, [], []), (9, [], []), (10, [], []), (11, [], [])] (by kernel_rfl) ?_)) <;> simp [-map_take, -map_drop, -map_tail, rgs, hb0, hb1, hb2, hz, tmrC, iv, o4, t14, k1, k2, j0, j1, j2, j3, j4, j5, j6]) | fail
            refine ⟨rfl, fun _ => ⟨X1.setTop 14 (n1 + 24), ?_, V2.newTop [] (by omega) (fun hm => by have := hin1 _ hm; omega) ?_ (by simp) (by simp) (fun k hk _ hne => ?_) rfl rfl (fun j hj _ hne => ?_), fun j hj => ?_⟩, (fun q hq => by simp at hq), fun j hj hjp hjX _ => ?_⟩
            · rw [upd_same]; simp [wldR, WI.setTop, mkW2, setT, mkW]
            · rw [upd_ne _ _ _ _ (by omega), upd_same]; simp [wRow, mkW2, iv]
            · rcases lt15 hk with rfl | rfl | rfl | rfl | rfl | rfl | rfl | rfl | rfl | rfl | rfl | rfl | rfl | rfl | rfl <;> first | rfl | exact absurd rfl hne
            · have := hin1 j hj
              have h12 : j ≠ nx + 12 := fun e => n12 (e ▸ hj)
              rw [upd_ne _ _ _ _ (fun (e : j = p) => hpX1 (e ▸ hj)), upd_ne _ _ _ _ (by omega), upd_ne _ _ _ _ hne, upd_ne _ _ _ _ (by omega), upd_ne _ _ _ _ h12, upd_ne _ _ _ _ h12]
            · rcases WI.setTop_ids hj with q | q
              · rcases hid j q with r | r
                · exact .inl r
                · right; omega
              · right; omega
            · have hne : j ≠ X1.top 14 := fun e => nX1 j hj hjX (e ▸ WI.top_mem (by omega))
              rw [upd_ne _ _ _ _ hjp, upd_ne _ _ _ _ (by omega), upd_ne _ _ _ _ hne, upd_ne _ _ _ _ (by omega), upd_ne _ _ _ _ (by omega), upd_ne _ _ _ _ (by omega)]
              exact hf1 j (by omega) hjp hjX
          · have hz : ((w.rang.length : Int) < 2000) = False := by simp only [eq_iff_iff, iff_false]; omega
            rw [if_neg (fun c => h2l c.2)]
            try simp [-map_take, -map_drop, -map_tail, rgs, hb0, hb1, hb2, hz, tmrC, o4, k1, k2, j0]
            repeat' first | done | (((with_reducible show lenS _ _ _ _ _ _); refine lenS_slice rfl fun _ => ?_) <;> simp [-map_take, -map_drop, -map_tail, rgs, hb0, hb1, hb2, hz, tmrC, o4, k1, k2, j0]) | fail
            refine ⟨rfl, fun _ => ⟨X1, by rw [upd_ne _ _ _ _ (by omega), upd_ne _ _ _ _ (by omega)]; exact o2, V2.keep fun id hm => by rw [upd_ne _ _ _ _ (fun (e : id = nx + 12) => n12 (e ▸ hm)), upd_ne _ _ _ _ (fun (e : id = nx + 12) => n12 (e ▸ hm))], fun id hm => by rcases hid id hm with r | r <;> first | exact .inl r | (right; omega)⟩, (fun q hq => by simp at hq), fun j hj hjp hjX _ => by rw [upd_ne _ _ _ _ (by omega), upd_ne _ _ _ _ (by omega)]; exact hf1 j (by omega) hjp hjX⟩
        · have hb2 : (x.what == 2) = false := by simpa using h2w
          rw [if_neg (fun c => h2w c.1)]
          try simp [-map_take, -map_drop, -map_tail, rgs, hb0, hb1, hb2, tmrC, o4, k1, k2, j0]
          refine ⟨rfl, fun _ => ⟨X1, by rw [upd_ne _ _ _ _ (by omega), upd_ne _ _ _ _ (by omega)]; exact o2, V2.keep fun id hm => by rw [upd_ne _ _ _ _ (fun (e : id = nx + 12) => n12 (e ▸ hm)), upd_ne _ _ _ _ (fun (e : id = nx + 12) => n12 (e ▸ hm))], fun id hm => by rcases hid id hm with r | r <;> first | exact .inl r | (right; omega)⟩, (fun q hq => by simp at hq), fun j hj hjp hjX _ => by rw [upd_ne _ _ _ _ (by omega), upd_ne _ _ _ _ (by omega)]; exact hf1 j (by omega) hjp hjX⟩
  · have hCf : fireC w.timers w.now = false := by simpa using hC
    have hB : drainB w = false := hCf
    have hT : fireT w.timers w.now = w.timers := by simp [fireT, hCf]
    have hR : fireR w.timers w.now = default := by simp [fireR, hCf]
    rw [hB, hR, hCf]
    try simp [-map_take, -map_drop, -map_tail, rgs, tmrC]
    refine ⟨rfl, (fun e => by cases e), (fun q hq => by simp at hq), fun j hj hjp hjX _ => ?_⟩
    repeat rw [upd_ne _ _ _ _ (by omega)]
    exact hf1 j (by omega) hjp hjX
theorem w_DrainIn {F : Nat → Bool} {w : Wld} (hs : wldsz w ≤ 1048576) : WC ctx.P 12 [.agg (wldV F w)] (fun X => .tup [.agg (wldR X (ringW w)), .bool (ringB w)]) (ringW w) := by
  refine WC.of ?_
  unfold ringW ringB
  have hdo : wldOk w = true → DoOk ctx.P 33 [] w (drainW w) (drainB w) := fun hw => d_Drain hw
  generalize drainW w = w' at *
  generalize drainB w = b at *
  refine AC.o okC Tryz.func12 rfl fun h nx hfr hnx hpre => ?_
  try simp [-map_take, -map_drop, -map_tail, rgs, wldV_ones, wldV_len, wldV_take]
  refine call_ac (w_asked (F := F) (qs := []) hs hdo) (fun q hq => by simp at hq) ?_
  rintro r h1 n1 ⟨⟨X, rfl, V1, hid1⟩, _, hf1⟩ hle1 hfr1
  dsimp only at hid1 hf1 hle1
  have K1 := fun j hj => hf1 j hj (fun q hm => by simp at hm)
  have z1 := K1 (nx + 1) (by omega)
  rw [upd_same] at z1
  try simp [-map_take, -map_drop, -map_tail, rgs, z1, wldR_ones X _, wldR_len, wldR_take]
  refine ⟨fun j hj => ?_, X, rfl, V1.keep fun id hid => ?_, fun id hid => by have := hid1 id hid; omega⟩
  · rw [upd_ne _ _ _ _ (by omega), K1 j (by omega)]
    repeat rw [upd_ne _ _ _ _ (by omega)]
  · have := hid1 id hid
    rw [upd_ne _ _ _ _ (by omega)]
end Go.AE.Tryz
end

section
/- Contracts of the program's new slots and functions. -/
set_option maxRecDepth 8000
set_option maxHeartbeats 4000000
namespace Go.AE.Tryz
open Go.Proofs
open List (map_take map_drop map_tail)
theorem c_NewSlots {n : Int} (h0 : 1 ≤ n) (h1 : n ≤ 64) : PC ctx.P 98 [.int .i64 n] (.tup [.agg (sltV (fun _ => true) ⟨List.replicate n.toNat 0, List.replicate n.toNat false⟩), .bool true]) := by
  have hw : inR n 1 64 = true := by simp [inR, h0, h1]
  have w1 : 0 ≤ n := by omega
  have w2 : n ≤ MLIM := by simp only [MLIM]; omega
  refine PC.o okC Tryz.func98 rfl (.tup _ (by simp only [List.mem_cons, List.not_mem_nil, or_false]; rintro c (rfl | rfl); exact .agg _ (sltV_fz _); exact .bool _)) fun h nx hnx => ?_
  try simp [-map_take, -map_drop, -map_tail, rgs, hw, w1, w2, sltV, iv, bv]
  repeat' first | done | ((first | ((with_reducible show doCall _ _ _ 106 _ _); refine call_pc (c_within) ?_) | (with_reducible refine go_draw (i := 3) [(0, [], []), (2, [], []), (1, [], []), (3, [], []), (4, [], []), (5, [], []), (6, [], [])] (by kernel_rfl) ?_)) <;> simp [-map_take, -map_drop, -map_tail, rgs, hw, w1, w2, sltV, iv, bv]) | ((with_reducible refine condS_split ?_ ?_) <;> intro qb <;> (have qp := qb; try simp only [psq] at qp) <;> simp [-map_take, -map_drop, -map_tail, rgs, hw, w1, w2, sltV, iv, bv, qb])
theorem c_NewAfters {n : Int} (h0 : 1 ≤ n) (h1 : n ≤ 64) : PC ctx.P 26 [.int .i64 n] (.tup [.agg (afsV (fun _ => true) ⟨⟨List.replicate n.toNat 0, List.replicate n.toNat false⟩, []⟩), .bool true]) := by
  refine PC.nv (r := .tup [.agg [.view true 1 ((List.replicate n.toNat 0).map iv), .view true 1 ((List.replicate n.toNat false).map bv), .nil], .bool true]) ?_ (.tups (.cons (.aggs (.cons (.same _) (.cons (.same _) (.cons (.nil _ _) .nil)))) (.cons (.same _) .nil)))
  refine PC.o okC Tryz.func26 rfl (.tup _ (by simp only [List.mem_cons, List.not_mem_nil, or_false]; rintro c (rfl | rfl); exact .agg _ (fun c hc => by (simp only [List.mem_cons, List.not_mem_nil, or_false] at hc); rcases hc with rfl | rfl | rfl <;> first | exact .vmap iv_fz | exact .vmap bv_fz | exact .nil); exact .bool _)) fun h nx hnx => ?_
  try simp [-map_take, -map_drop, -map_tail, rgs, sltV, afsV]
  repeat' first | done | (((with_reducible show doCall _ _ _ 98 _ _); refine call_pc (c_NewSlots h0 h1) ?_) <;> simp [-map_take, -map_drop, -map_tail, rgs, sltV, afsV]) | fail
end Go.AE.Tryz
end

section
/- Contracts of the program's requests as a law plays with them: what they hand back is immutable. -/
set_option maxRecDepth 8000
set_option maxHeartbeats 4000000
namespace Go.AE.Tryz
open Go.Proofs
open List (map_take map_drop map_tail)
theorem fz_wb (w : Wld) (b : Bool) : Fz (.tup [.agg (wldV (fun _ => true) w), .bool b]) := .tup _ (by simp only [List.mem_cons, List.not_mem_nil, or_false]; rintro c (rfl | rfl); exact .agg _ (wldV_fz _); exact .bool _)
theorem fz_wi (w : Wld) (n : Int) : Fz (.tup [.agg (wldV (fun _ => true) w), .int .i64 n]) := .tup _ (by simp only [List.mem_cons, List.not_mem_nil, or_false]; rintro c (rfl | rfl); exact .agg _ (wldV_fz _); exact .int _ _)
theorem p_TickIn {F : Nat → Bool} {w : Wld} {d : Int} (hs : wldsz w ≤ 1048576) (ht : -9223372036854775808 ≤ w.now ∧ w.now ≤ 9223372036854775807) (hd : -9223372036854775808 ≤ d ∧ d ≤ 9223372036854775807) : PC ctx.P 14 [.agg (wldV F w), .int .i64 d]
    (.tup [.agg (wldV (fun _ => true) (tickW w d)), .bool (tickB w d)]) := by
  have := w_TickIn (F := F) hs ht hd
  rw [(tick_ask (d := d) ht.2).1, (tick_ask (d := d) ht.2).2] at this
  exact this.pc (fz_wb _ _) fun g X V => .tups (.cons (.aggs V.fros) (.cons (.same _) .nil))
theorem p_DrainIn {F : Nat → Bool} {w : Wld} (hs : wldsz w ≤ 1048576) : PC ctx.P 12 [.agg (wldV F w)] (.tup [.agg (wldV (fun _ => true) (ringW w)), .bool (ringB w)]) :=
  (w_DrainIn (F := F) hs).pc (fz_wb _ _) fun g X V => .tups (.cons (.aggs V.fros) (.cons (.same _) .nil))
theorem c_NewWorld {p : Bool} : PC ctx.P 9 [.view p 1 [], .int .i64 2] (.tup [.agg (wldV (fun _ => true) newW), .bool true]) := by
  refine PC.nv (r := .tup [.agg [.int .i64 0, .view true 1 [], .view true 5 (newW.tree.map nodC), .nil, .view true 1 ([false].map bv), .nil, .nil, .nil, .int .i64 0, .view true 1 ([0, 0].map iv), .view true 1 ([false, false].map bv), .view true 5 [], .nil, .nil, .nil, .nil, .nil], .bool true]) ?_ (.tups (.cons (.aggs ?n1) (.cons (.same _) .nil)))
  case n1 => exact .cons (.same _) (.cons (.same _) (.cons (.same _) (.cons (.nil _ _) (.cons (.same _) (.cons (.nil _ _) (.cons (.nil _ _) (.cons (.nil _ _) (.cons (.same _) (.cons (.same _) (.cons (.same _) (.cons (.same _) (.cons (.nil _ _) (.cons (.nil _ _) (.cons (.nil _ _) (.cons (.nil _ _) (.cons (.nil _ _) .nil))))))))))))))))
  refine AC.pcD (.tup _ (by simp only [List.mem_cons, List.not_mem_nil, or_false]; rintro c (rfl | rfl); exact .agg _ (fun c hc => by (simp only [List.mem_cons, List.not_mem_nil, or_false] at hc); rcases hc with rfl | rfl | rfl | rfl | rfl | rfl | rfl | rfl | rfl | rfl | rfl | rfl | rfl | rfl | rfl | rfl | rfl <;> first | exact .int _ _ | exact .nil | exact .vmap nodC_fz | exact .vmap bv_fz | exact .vmap iv_fz | exact .vmap (xs := []) (f := afrC) afrC_fz | exact .vmap (xs := []) (f := iv) iv_fz); exact .bool _)) ?_
  refine AC.o okC Tryz.func9 rfl fun h nx hfr hnx hpre => ?_
  try simp [-map_take, -map_drop, -map_tail, rgs, afsV, free_of hnx]
  repeat' first | done | ((first | ((with_reducible show lenS _ _ _ _ _ _); refine lenS_slice rfl fun _ => ?_) | ((with_reducible show doCall _ _ _ 26 _ _); refine call_pc (c_NewAfters (n := 2) (by decide) (by decide)) ?_) | (with_reducible refine go_draw (i := 4) [(0, [], []), (2, [], []), (6, [], [4, 3, 8]), (1, [.tmp 6], [4, 3, 8]), (4, [], []), (5, [], []), (3, [], []), (7, [], []), (8, [], []), (9, [], [])] (by kernel_rfl) ?_)) <;> simp [-map_take, -map_drop, -map_tail, rgs, afsV, free_of hnx]) | ((first | (with_reducible refine guardS_split ?_ ?_) | (with_reducible refine condS_split ?_ ?_)) <;> intro qb <;> (have qp := qb; try simp only [psq] at qp) <;> simp [-map_take, -map_drop, -map_tail, rgs, afsV, free_of hnx, qb])
  refine call_ac (w_clonedProgs (p := p) (r := true) (xs := []) (by decide) (by simp)) trivial ?_
  rintro r h1 n1 ⟨K1, id, is, rfl, d1, d2, d3, d4, d5, d6⟩ hle1 hfr1
  dsimp only at K1 d1 d2 d3 d4 hle1
  obtain rfl : is = [] := List.eq_nil_of_length_eq_zero d2
  simp at d1
  have z7 := K1 (nx + 7) (by omega)
  have z21 := K1 (nx + 21) (by omega)
  have z0 := K1 nx (by omega)
  simp at z7 z21 z0
  have kk : KeepB nx h1 h := fun j hj => by
    rw [K1 j (by omega)]
    repeat rw [upd_ne _ _ _ _ (by omega)]
  have k1 : ∀ k, k < 27 → (id = nx + k) = False := fun k hk => by simp only [eq_iff_iff, iff_false]; omega
  have k20 := k1 20 (by omega)
  have k25 := k1 25 (by omega)
  have k7 := k1 7 (by omega)
  have k21 := k1 21 (by omega)
  have k0 : (id = nx) = False := by simp only [eq_iff_iff, iff_false]; omega
  have hok : wldOk newW = true := by decide +kernel
  have cok : PC ctx.P 28 [.agg [.int .i64 0, .view false 1 [], .view false 5 [[.int .i64 0, .int .i64 (-1), .int .i64 9223372036854775807, .int .i64 0, .int .i64 0]], .nil, .view false 1 [[.bool false]], .nil, .nil, .nil, .int .i64 0, .view true 1 [iv 0, iv 0], .view true 1 [bv false, bv false], .view true 5 [], .nil, .nil, .nil, .nil, .nil]] (.bool true) := by
    have := c_WorldOk (F := fun k => k == 8 || k == 9 || k == 10) (w := newW)
    rw [hok] at this
    exact this.up (.cons (.aggs (.cons (.same _) (.cons (.same _) (.cons (.same _) (.cons (.nil _ _) (.cons (.same _) (.cons (.nil _ _) (.cons (.nil _ _) (.cons (.nil _ _) (.cons (.same _) (.cons (.same _) (.cons (.same _) (.cons (.same _) (.cons (.nil _ _) (.cons (.nil _ _) (.cons (.nil _ _) (.cons (.nil _ _) (.cons (.nil _ _) .nil)))))))))))))))))) .nil)
  try simp [-map_take, -map_drop, -map_tail, rgs, d1, z7, z21, z0, k20, k21, k25, k7, k0]
  repeat' first | done | ((first | ((with_reducible show lenS _ _ _ _ _ _); refine lenS_slice rfl fun _ => ?_) | (with_reducible refine go_draw (i := 4) [(0, [], []), (2, [], []), (6, [], [4, 3, 8]), (1, [.tmp 6], [4, 3, 8]), (4, [], []), (5, [], []), (3, [], []), (7, [], []), (8, [], []), (9, [], [])] (by kernel_rfl) ?_)) <;> simp [-map_take, -map_drop, -map_tail, rgs, d1, z7, z21, z0, k20, k21, k25, k7, k0]) | ((first | (with_reducible refine guardS_split ?_ ?_) | (with_reducible refine condS_split ?_ ?_)) <;> intro qb <;> (have qp := qb; try simp only [psq] at qp) <;> simp [-map_take, -map_drop, -map_tail, rgs, d1, z7, z21, z0, k20, k21, k25, k7, k0, qb])
  refine call_pcB cok (.bool _) ?hb ?_
  case hb => exact .cons (.agg1 (.cons (.same _) (.cons (.ref0 (by simp [k20, k21, k25, d1]) (by simp) (by simp)) (.cons (.ref0 (by simp) (by simp) (by simp)) (.cons (.same _) (.cons (.ref0 (by simp [z21]) (by simp) (by simp)) (.cons (.same _) (.cons (.same _) (.cons (.same _) (.cons (.same _) (.cons (.same _) (.cons (.same _) (.cons (.same _) (.cons (.same _) (.cons (.same _) (.cons (.same _) (.cons (.same _) (.cons (.same _) .nil)))))))))))))))))) .nil
  try simp [-map_take, -map_drop, -map_tail, rgs, d1, z7, z21, z0, k20, k21, k25, k7, k0, iv, bv, newW, nodC]
  repeat' first | done | ((first | ((with_reducible show lenS _ _ _ _ _ _); refine lenS_slice rfl fun _ => ?_) | (with_reducible refine go_draw (i := 4) [(0, [], []), (2, [], []), (6, [], [4, 3, 8]), (1, [.tmp 6], [4, 3, 8]), (4, [], []), (5, [], []), (3, [], []), (7, [], []), (8, [], []), (9, [], [])] (by kernel_rfl) ?_)) <;> simp [-map_take, -map_drop, -map_tail, rgs, d1, z7, z21, z0, k20, k21, k25, k7, k0, iv, bv, newW, nodC]) | ((first | (with_reducible refine guardS_split ?_ ?_) | (with_reducible refine condS_split ?_ ?_)) <;> intro qb <;> (have qp := qb; try simp only [psq] at qp) <;> simp [-map_take, -map_drop, -map_tail, rgs, d1, z7, z21, z0, k20, k21, k25, k7, k0, iv, bv, newW, nodC, qb])
  refine PdQ.of (.tups (.cons (.aggs (.cons (.same _) (.cons (.ref0 ?g1 ?l1) (.cons (.ref0 ?g2 ?l2) (.cons (.same _) (.cons (.ref0 ?g3 ?l3) (fros_same _))))))) (fros_same _))) ?kk
  case g1 => rw [resH_at (by omega)]; simp [k20, k21, k25, k0, d1]
  case g2 => rw [resH_at (by omega)]; simp
  case g3 => rw [resH_at (by omega)]; simp [z21]
  case l1 => rfl
  case l2 => rfl
  case l3 => rfl
  case kk =>
    intro j hj
    repeat rw [upd_ne _ _ _ _ (by omega)]
    exact kk j hj
end Go.AE.Tryz
end

section
/- Contracts of the program's request to arm a plain timer. -/
set_option maxRecDepth 8000
set_option maxHeartbeats 2000000
namespace Go.AE.Tryz
open Go.Proofs
open List (map_take map_drop map_tail)
theorem d_Timer {w : Wld} {d whom : Int} {q1 q2 q3 : Nat} (h1 : q1 ≠ q3) (h2 : q2 ≠ q3) (ht : -9223372036854775808 ≤ w.now ∧ w.now ≤ 9223372036854775807) (hd : -9223372036854775808 ≤ d ∧ d ≤ 9223372036854775807) (hw : tmsOk w.timers = true) :
    DoOk ctx.P 30 [(q1, [.int .i64 d], [.int .i64 d]), (q2, [.int .i64 whom], [.int .i64 whom]), (q3, [.int .i64 (-1)], [.int .i64 (armI w.timers 2 whom)])] w (setT w (armT w.timers (later w.now d) 2 whom)) (decide (0 ≤ armI w.timers 2 whom)) := by
  intro p X
  refine AC.o okC Tryz.func30 rfl fun h nx hfr hnx hpre => ?_
  obtain ⟨o1, V1, hq⟩ := hpre
  obtain ⟨a1, b1⟩ := hq _ (List.mem_cons_self ..)
  obtain ⟨a2, b2⟩ := hq _ (List.mem_cons_of_mem _ (List.mem_cons_self ..))
  obtain ⟨a3, b3⟩ := hq _ (List.mem_cons_of_mem _ (List.mem_cons_of_mem _ (List.mem_cons_self ..)))
  dsimp only at a1 a2 a3 b1 b2 b3
  have hp : p < nx := hnx p (by rw [o1]; simp)
  have i1 : q1 < nx := hnx q1 (by rw [a1]; simp)
  have i2 : q2 < nx := hnx q2 (by rw [a2]; simp)
  have i3 : q3 < nx := hnx q3 (by rw [a3]; simp)
  have hpX := V1.obj o1
  have x1 := V1.obj a1
  have x2 := V1.obj a2
  have x3 := V1.obj a3
  have o0 := o1
  simp only [wldR] at o1
  try simp [-map_take, -map_drop, -map_tail, rgs, o1, a1, a2, a3]
  repeat' first | done | ((first | ((with_reducible show doCall _ _ _ 32 _ _); refine call_pc (c_Later ht hd) ?_) | (with_reducible refine go_draw (i := 1) [(0, [], []), (1, [], []), (2, [], []), (3, [], []), (4, [], []), (5, [], []), (6, [], []), (7, [], []), (9, [], []), (8, [.tmp 2], []), (10, [], []), (11, [], [])] (by kernel_rfl) ?_)) <;> simp [-map_take, -map_drop, -map_tail, rgs, o1, a1, a2, a3]) | fail
  refine call_ac (m_arm (X := X) (w := w) (p := p) (d := later w.now d) (what := 2) (whom := whom) hw) ⟨by simpa using o0, V1⟩ ?_
  rintro r h1' n1 ⟨rfl, ⟨X1, o2, V2, hid⟩, hf1⟩ hle1 hfr1
  dsimp only at hid hf1 hle1
  have r1 := hf1 q1 (by omega) b1 x1
  have r2 := hf1 q2 (by omega) b2 x2
  have r3 := hf1 q3 (by omega) b3 x3
  rw [a1] at r1
  rw [a2] at r2
  rw [a3] at r3
  try simp [-map_take, -map_drop, -map_tail, rgs, r3]
  repeat' first | done | ((with_reducible refine go_draw (i := 1) [(0, [], []), (1, [], []), (2, [], []), (3, [], []), (4, [], []), (5, [], []), (6, [], []), (7, [], []), (9, [], []), (8, [.tmp 2], []), (10, [], []), (11, [], [])] (by kernel_rfl) ?_) <;> simp [-map_take, -map_drop, -map_tail, rgs, r3]) | fail
  refine ⟨rfl, fun _ => ⟨X1, by rw [upd_ne _ _ _ _ (fun e => b3 e.symm)]; exact o2, V2.keep fun id hm => ?_, fun id hm => by rcases hid id hm with r | r <;> first | exact .inl r | (right; omega)⟩, fun q hm => ?_, fun j hj hjp hjX hjq => ?_⟩
  · rcases hid id hm with r | r
    · rw [upd_ne _ _ _ _ (fun (e : id = q3) => x3 (e ▸ r))]
    · rw [upd_ne _ _ _ _ (by omega)]
  · simp only [List.mem_cons, List.not_mem_nil, or_false] at hm
    rcases hm with rfl | rfl | rfl <;> dsimp only
    · rw [upd_ne _ _ _ _ h1]; exact r1
    · rw [upd_ne _ _ _ _ h2]; exact r2
    · rw [upd_same]
  · have hjc := hjq (q3, _, _) (List.mem_cons_of_mem _ (List.mem_cons_of_mem _ (List.mem_cons_self ..)))
    rw [upd_ne _ _ _ _ hjc]
    exact hf1 j (by omega) hjp hjX
theorem w_TimerIn {F : Nat → Bool} {w : Wld} {d whom : Int} (hs : wldsz w ≤ 1048576) (ht : -9223372036854775808 ≤ w.now ∧ w.now ≤ 9223372036854775807) (hd : -9223372036854775808 ≤ d ∧ d ≤ 9223372036854775807) : WC ctx.P 11 [.agg (wldV F w), .int .i64 d, .int .i64 whom]
    (fun X => .tup [.agg (wldR X (tmrW w d whom)), .int .i64 (tmrI w d whom)]) (tmrW w d whom) := by
  unfold tmrI tmrB tmrW
  refine WC.of ?_
  have hdo : wldOk w = true → ∀ a b c, a ≠ c → b ≠ c → DoOk ctx.P 30 [(a, [.int .i64 d], [.int .i64 d]), (b, [.int .i64 whom], [.int .i64 whom]), (c, [.int .i64 (-1)], [.int .i64 (armI w.timers 2 whom)])] w (setT w (armT w.timers (later w.now d) 2 whom)) (decide (0 ≤ armI w.timers 2 whom)) := fun hw a b c h1 h2 => d_Timer h1 h2 ht hd (wldOk_all hw).2.2.2.2.2.2.1
  generalize setT w (armT w.timers (later w.now d) 2 whom) = w' at *
  generalize decide (0 ≤ armI w.timers 2 whom) = gb at *
  generalize armI w.timers 2 whom = gi at *
  refine AC.o okC Tryz.func11 rfl fun h nx hfr hnx hpre => ?_
  try simp [-map_take, -map_drop, -map_tail, rgs, wldV_ones, wldV_len, wldV_take]
  repeat' first | done | ((with_reducible refine go_draw (i := 5) [(0, [], []), (1, [], []), (2, [.tmp 8], []), (3, [], [])] (by kernel_rfl) ?_) <;> simp [-map_take, -map_drop, -map_tail, rgs, wldV_ones, wldV_len, wldV_take]) | ((with_reducible refine condS_split ?_ ?_) <;> intro qb <;> (have qp := qb; try simp only [psq] at qp) <;> simp [-map_take, -map_drop, -map_tail, rgs, wldV_ones, wldV_len, wldV_take, qb])
  refine call_ac (w_asked (F := F) (qs := [(nx + 1, [.int .i64 d], [.int .i64 d]), (nx + 2, [.int .i64 whom], [.int .i64 whom]), (nx + 5, [.int .i64 (-1)], [.int .i64 gi])]) hs (fun hw => hdo hw _ _ _ (by omega) (by omega))) ?_ ?_
  · intro q hm
    simp only [List.mem_cons, List.not_mem_nil, or_false] at hm
    rcases hm with rfl | rfl | rfl <;> dsimp only <;> repeat (first | exact upd_same .. | rw [upd_ne _ _ _ _ (by omega)])
  · rintro r h1 n1 ⟨⟨X, rfl, V1, hid1⟩, hq1, hf1⟩ hle1 hfr1
    dsimp only at hid1 hf1 hle1
    have q3 := hq1 (nx + 5, _, _) (List.mem_cons_of_mem _ (List.mem_cons_of_mem _ (List.mem_cons_self ..)))
    dsimp only at q3
    have K1 := fun j (hj : j < nx + 16) (a1 : j ≠ nx + 1) (a2 : j ≠ nx + 2) (a3 : j ≠ nx + 5) => hf1 j hj (fun q hm => by
      simp only [List.mem_cons, List.not_mem_nil, or_false] at hm
      rcases hm with rfl | rfl | rfl <;> assumption)
    have z1 := K1 (nx + 3) (by omega) (by omega) (by omega) (by omega)
    simp at z1
    by_cases hb : askB w w' gb = true
    · have hw : wldOk w = true := by simp only [askB, Bool.and_eq_true] at hb; exact hb.1
      rw [if_pos hw] at q3
      rw [if_pos hb, hb]
      try simp [-map_take, -map_drop, -map_tail, rgs, z1, q3, wldR_ones X _, wldR_len, wldR_take]
      repeat' first | done | ((with_reducible refine go_draw (i := 5) [(0, [], []), (1, [], []), (2, [.tmp 8], []), (3, [], [])] (by kernel_rfl) ?_) <;> simp [-map_take, -map_drop, -map_tail, rgs, z1, q3, wldR_ones X _, wldR_len, wldR_take]) | ((with_reducible refine condS_split ?_ ?_) <;> intro qb <;> (have qp := qb; try simp only [psq] at qp) <;> simp [-map_take, -map_drop, -map_tail, rgs, z1, q3, wldR_ones X _, wldR_len, wldR_take, qb])
      refine ⟨fun j hj => ?_, X, rfl, V1.keep fun id hid => ?_, fun id hid => by have := hid1 id hid; omega⟩
      · repeat rw [upd_ne _ _ _ _ (by omega)]
        rw [K1 j (by omega) (by omega) (by omega) (by omega)]
        repeat rw [upd_ne _ _ _ _ (by omega)]
      · have := hid1 id hid
        repeat rw [upd_ne _ _ _ _ (by omega)]
    · have hb2 : askB w w' gb = false := by simpa using hb
      rw [if_neg hb, hb2]
      try simp [-map_take, -map_drop, -map_tail, rgs, z1, wldR_ones X _, wldR_len, wldR_take]
      repeat' first | done | ((with_reducible refine go_draw (i := 5) [(0, [], []), (1, [], []), (2, [.tmp 8], []), (3, [], [])] (by kernel_rfl) ?_) <;> simp [-map_take, -map_drop, -map_tail, rgs, z1, wldR_ones X _, wldR_len, wldR_take]) | ((with_reducible refine condS_split ?_ ?_) <;> intro qb <;> (have qp := qb; try simp only [psq] at qp) <;> simp [-map_take, -map_drop, -map_tail, rgs, z1, wldR_ones X _, wldR_len, wldR_take, qb])
      refine ⟨fun j hj => ?_, X, rfl, V1.keep fun id hid => ?_, fun id hid => by have := hid1 id hid; omega⟩
      · repeat rw [upd_ne _ _ _ _ (by omega)]
        rw [K1 j (by omega) (by omega) (by omega) (by omega)]
        repeat rw [upd_ne _ _ _ _ (by omega)]
      · have := hid1 id hid
        repeat rw [upd_ne _ _ _ _ (by omega)]
theorem p_TimerIn {F : Nat → Bool} {w : Wld} {d whom : Int} (hs : wldsz w ≤ 1048576) (ht : -9223372036854775808 ≤ w.now ∧ w.now ≤ 9223372036854775807) (hd : -9223372036854775808 ≤ d ∧ d ≤ 9223372036854775807) : PC ctx.P 11 [.agg (wldV F w), .int .i64 d, .int .i64 whom]
    (.tup [.agg (wldV (fun _ => true) (tmrW w d whom)), .int .i64 (tmrI w d whom)]) :=
  (w_TimerIn (F := F) hs ht hd).pc (fz_wi _ _) fun g X V => .tups (.cons (.aggs V.fros) (.cons (.same _) .nil))
theorem c_likeInts {p q : Bool} {xs ys : List Int} : PC ctx.P 13 [.view p 1 (xs.map iv), .view q 1 (ys.map iv)] (.bool (xs == ys)) := by
  refine PC.lim (n := xs.length) (x := .view p 1 (xs.map iv)) (by simp) (.here (by simp)) ⟨_, Tryz.func13, by kernel_rfl, by kernel_rfl⟩ fun hlim => ?_
  by_cases hl : xs.length = ys.length
  · refine PC.o okC Tryz.func13 rfl (.bool _) fun h nx hnx => ?_
    try simp [-map_take, -map_drop, -map_tail, rgs, hl]
    repeat' first | done | ((first | ((with_reducible show lenS _ _ _ _ _ _); refine lenS_slice rfl fun _ => ?_) | ((with_reducible show iaddrS _ _ _ _ _ _ _); refine iaddr_map rfl omA omA ?_) | (with_reducible refine go_draw (i := 6) [(0, [], []), (1, [], []), (2, [], []), (3, [], []), (4, [], []), (5, [], []), (6, [], []), (7, [], []), (8, [], [])] (by kernel_rfl) ?_)) <;> simp [-map_take, -map_drop, -map_tail, rgs, hl]) | ((with_reducible refine condS_split ?_ ?_) <;> intro qb <;> (have qp := qb; try simp only [psq] at qp) <;> simp [-map_take, -map_drop, -map_tail, rgs, hl, qb])
    refine go_upP [4, 5, 11, 12, 13, 14, 15, 16, 17, 18, 19, 20, 21, 22, 23, 24, 25] (ys.length) (fun (i : Nat) a => [(5, .int .i64 i)]) (fun i_ a_ h_ _ => (fun i (_ : Unit) _ => (xs.drop i == ys.drop i) = (xs == ys)) i_ a_ h_) (()) (by simp) ?_ keep_rfl (Nat.le_refl _) ?_
    · simp
    · intro i a tm h' n' hle hJ hE hn' next hnx
      try dsimp only at hJ
      have hK : KeepB nx h' h := KeepB.sub hE keepA (by omega)
      simp [-map_take, -map_drop, -map_tail]
      try simp [-map_take, -map_drop, -map_tail, rgs, hl, iv]
      repeat' first | done | ((first | ((with_reducible show lenS _ _ _ _ _ _); refine lenS_slice rfl fun _ => ?_) | ((with_reducible show iaddrS _ _ _ _ _ _ _); refine iaddr_map rfl omA omA ?_) | (with_reducible refine go_draw (i := 6) [(0, [], []), (1, [], []), (2, [], []), (3, [], []), (4, [], []), (5, [], []), (6, [], []), (7, [], []), (8, [], [])] (by kernel_rfl) ?_)) <;> simp [-map_take, -map_drop, -map_tail, rgs, hl, iv]) | ((with_reducible refine condS_split ?_ ?_) <;> intro qb <;> (have qp := qb; try simp only [psq] at qp) <;> simp [-map_take, -map_drop, -map_tail, rgs, hl, iv, qb])
      all_goals first
      | (have hlt : i < xs.length := (by first | omega | (simp at *; omega))
         rw [drop_gt hlt, drop_gt (xs := ys) (i := i) (by omega), List.cons_beq_cons] at hJ
         first
         | (refine hnx.go () ?_ ?_ ?_ ?_ ?_ ?_; omega; (simp [wrap_succ hlt hlim]); (simp); exact keepA; (first | omega | (simp; omega)); (try dsimp only); clear hnx; first | (simp_all; done) | grind)
         | (refine ⟨?_, keepA⟩; clear hnx; first | (simp_all; done) | grind)
         | (clear hnx; first | (simp_all; done) | grind))
      | (obtain rfl : i = xs.length := (by first | omega | (simp at *; omega))
         rw [List.drop_eq_nil_of_le (Nat.le_refl _), List.drop_eq_nil_of_le (by omega)] at hJ
         refine ⟨?_, keepA⟩; clear hnx; first | (simp_all; done) | grind)
  · refine PC.o okC Tryz.func13 rfl (.bool _) fun h nx hnx => ?_
    try simp [-map_take, -map_drop, -map_tail, rgs]
    repeat' first | done | ((first | ((with_reducible show lenS _ _ _ _ _ _); refine lenS_slice rfl fun _ => ?_) | ((with_reducible show iaddrS _ _ _ _ _ _ _); refine iaddr_map rfl omA omA ?_) | (with_reducible refine go_draw (i := 6) [(0, [], []), (1, [], []), (2, [], []), (3, [], []), (4, [], []), (5, [], []), (6, [], []), (7, [], []), (8, [], [])] (by kernel_rfl) ?_)) <;> simp [-map_take, -map_drop, -map_tail, rgs]) | ((with_reducible refine condS_split ?_ ?_) <;> intro qb <;> (have qp := qb; try simp only [psq] at qp) <;> simp [-map_take, -map_drop, -map_tail, rgs, qb])
    all_goals first | (exfalso; omega) | (symm; rw [beq_eq_false_iff_ne]; intro e; exact hl (by rw [e])) | (intro e; exact hl (by rw [e])) | skip
end Go.AE.Tryz
end

section
/- Contracts of the numbers that a law draws from its code. -/
set_option maxRecDepth 8000
set_option maxHeartbeats 4000000
namespace Go.AE.Tryz
open Go.Proofs
open List (map_take map_drop map_tail)
theorem c_big {xs : List Int} : PC ctx.P 7 [.view true 1 (xs.map uv)] (.bool (decide (4096 < (xs.length : Int)))) := by
  refine PC.o okC Tryz.func7 rfl (.bool _) fun h nx hnx => ?_
  try simp [-map_take, -map_drop, -map_tail, rgs]
  repeat' first | done | (((with_reducible show lenS _ _ _ _ _ _); refine lenS_slice rfl fun _ => ?_) <;> simp [-map_take, -map_drop, -map_tail, rgs]) | fail
theorem m_roll {xs : List Int} {s : Int} (hl : xs.length ≤ 4096) : AC ctx.P 8 [.view true 1 (xs.map uv), .int .u64 s] (fun _ _ => True) (RollQ xs) := by
  have hlim : xs.length ≤ LIM := by simp only [LIM]; omega
  refine AC.o okC Tryz.func8 rfl fun h nx hfr hnx hpre => ?_
  try simp [-map_take, -map_drop, -map_tail, rgs, uv]
  repeat' first | done | ((first | ((with_reducible show lenS _ _ _ _ _ _); refine lenS_slice rfl fun _ => ?_) | ((with_reducible show iaddrS _ _ _ _ _ _ _); refine iaddr_map rfl omA omA ?_) | (with_reducible refine go_draw (i := 5) [(0, [], []), (1, [], []), (2, [], []), (3, [], []), (4, [], []), (5, [], []), (6, [], []), (7, [], []), (8, [], []), (9, [], []), (10, [], []), (11, [], []), (12, [], []), (13, [], []), (14, [], []), (15, [], [])] (by kernel_rfl) ?_)) <;> simp [-map_take, -map_drop, -map_tail, rgs, uv]) | ((with_reducible refine condS_split ?_ ?_) <;> intro qb <;> (have qp := qb; try simp only [psq] at qp) <;> simp [-map_take, -map_drop, -map_tail, rgs, uv, qb])
  refine go_upP (h0 := h) (nx0 := nx) [6, 16, 17, 18, 19, 20, 21, 22, 23, 24, 25, 26, 27, 28, 29, 30, 31, 32, 33, 34, 35, 36] (xs.length) (fun (i : Nat) a => [(6, .int .i64 i)]) (fun (i : Nat) (H : Int) h' n' => h' (nx + 9) = some (.obj [.view true 1 (xs.map uv), .int .i64 0, .int .u64 H]) ∧ nx + 9 < n') (IntKind.u64.wrap (IntKind.u64.wrap (s * 7919) + IntKind.u64.wrap (xs.length : Int))) (by simp) ?_ keepA (by omega) ?_
  · exact ⟨by simp, by simp⟩
  · intro i a tm h' n' hle hJ hE hn' next hnx
    try dsimp only at hJ
    have hK : KeepB nx h' h := KeepB.sub hE keepA (by omega)
    simp [-map_take, -map_drop, -map_tail]
    obtain ⟨g0, g1⟩ := hJ
    by_cases hi : i < xs.length
    · have hi1 : (i : Int) < xs.length := by omega
      try simp [-map_take, -map_drop, -map_tail, rgs, g0, hi, hi1, uv]
      repeat' first | done | ((first | ((with_reducible show lenS _ _ _ _ _ _); refine lenS_slice rfl fun _ => ?_) | ((with_reducible show iaddrS _ _ _ _ _ _ _); refine iaddr_map rfl omA omA ?_) | (with_reducible refine go_draw (i := 5) [(0, [], []), (1, [], []), (2, [], []), (3, [], []), (4, [], []), (5, [], []), (6, [], []), (7, [], []), (8, [], []), (9, [], []), (10, [], []), (11, [], []), (12, [], []), (13, [], []), (14, [], []), (15, [], [])] (by kernel_rfl) ?_)) <;> simp [-map_take, -map_drop, -map_tail, rgs, g0, hi, hi1, uv]) | ((with_reducible refine condS_split ?_ ?_) <;> intro qb <;> (have qp := qb; try simp only [psq] at qp) <;> simp [-map_take, -map_drop, -map_tail, rgs, g0, hi, hi1, uv, qb])
      refine hnx.go (IntKind.u64.wrap (IntKind.u64.wrap (IntKind.u64.wrap (a * 1099511628211) + IntKind.u64.wrap (gt xs (i : Int))) + 3)) (by omega) (by simp [wrap_succ hi hlim]) (by simp) keepA (by first | omega | (simp; omega)) ?_
      exact ⟨by simp, by omega⟩
    · have hi2 : ¬ ((i : Int) < xs.length) := by omega
      try simp [-map_take, -map_drop, -map_tail, rgs, g0, hi, hi2, uv]
      repeat' first | done | ((first | ((with_reducible show lenS _ _ _ _ _ _); refine lenS_slice rfl fun _ => ?_) | ((with_reducible show iaddrS _ _ _ _ _ _ _); refine iaddr_map rfl omA omA ?_) | (with_reducible refine go_draw (i := 5) [(0, [], []), (1, [], []), (2, [], []), (3, [], []), (4, [], []), (5, [], []), (6, [], []), (7, [], []), (8, [], []), (9, [], []), (10, [], []), (11, [], []), (12, [], []), (13, [], []), (14, [], []), (15, [], [])] (by kernel_rfl) ?_)) <;> simp [-map_take, -map_drop, -map_tail, rgs, g0, hi, hi2, uv]) | ((with_reducible refine condS_split ?_ ?_) <;> intro qb <;> (have qp := qb; try simp only [psq] at qp) <;> simp [-map_take, -map_drop, -map_tail, rgs, g0, hi, hi2, uv, qb])
      refine ⟨nx + 9, by omega, by omega, rfl, ⟨0, a, by omega, g0⟩, fun j hj => hK j hj⟩
theorem m_below {xs : List Int} {q : Nat} {n : Int} (hx : ∀ x ∈ xs, InU8 x) (hl : xs.length ≤ 4096) (h0 : 0 < n) : AC ctx.P 10 [.ptr q 0, .int .i64 n] (fun h _ => DiceO h q xs) (BelQ xs q n) := by
  refine AC.o okC Tryz.func10 rfl fun h nx hfr hnx hpre => ?_
  obtain ⟨i, H, hi, o1⟩ := hpre
  have hq : q < nx := hnx q (by rw [o1]; simp)
  have hn0 : (n = 0) = False := by simp only [eq_iff_iff, iff_false]; omega
  have hbn := fun z => band_in (a := z) (b := 16777215) (by decide) (by decide)
  by_cases hlt : i < xs.length
  · have hlt1 : (i : Int) < xs.length := by omega
    obtain ⟨b0, b1⟩ := gt_byte hx hlt
    have ew : IntKind.i64.wrap ((i : Int) + 1) = ((i + 1 : Nat) : Int) := i64_ok (by omega)
    try simp [-map_take, -map_drop, -map_tail, rgs, o1, hlt, hlt1, uv, ew, hn0]
    repeat' first | done | ((first | ((with_reducible show lenS _ _ _ _ _ _); refine lenS_slice rfl fun _ => ?_) | ((with_reducible show iaddrS _ _ _ _ _ _ _); refine iaddr_map rfl omA omA ?_) | (with_reducible refine go_draw (i := 3) [(0, [], []), (1, [], []), (2, [], []), (3, [], []), (4, [], []), (5, [], []), (6, [], []), (7, [], []), (8, [], []), (9, [], [])] (by kernel_rfl) ?_) | (with_reducible refine go_draw (i := 4) [(0, [], []), (1, [], []), (2, [], []), (3, [], []), (4, [], []), (5, [], []), (6, [], []), (7, [], []), (8, [], []), (9, [], []), (10, [], []), (11, [], []), (12, [], []), (13, [], [])] (by kernel_rfl) ?_)) <;> simp [-map_take, -map_drop, -map_tail, rgs, o1, hlt, hlt1, uv, ew, hn0]) | ((with_reducible refine condS_split ?_ ?_) <;> intro qb <;> (have qp := qb; try simp only [psq] at qp) <;> simp [-map_take, -map_drop, -map_tail, rgs, o1, hlt, hlt1, uv, ew, hn0, qb])
    obtain ⟨c0, c1⟩ := hbn ((IntKind.u64.wrap (IntKind.u64.wrap (H * 6364136223846793005) + 1442695040888963407)).fdiv (2 ^ min 33 IntKind.u64.bits))
    have w1 := i64_ok (x := bandA IntKind.u64 ((IntKind.u64.wrap (IntKind.u64.wrap (H * 6364136223846793005) + 1442695040888963407)).fdiv (2 ^ min 33 IntKind.u64.bits)) 16777215) (by omega)
    rw [w1, i64_ok (x := gt xs (i : Int)) (by omega), i64_ok (by omega)]
    refine ⟨_, Int.tmod_nonneg _ (by omega), Int.tmod_lt_of_pos _ h0, rfl, ⟨i + 1, _, by omega, upd_same ..⟩, fun j hj hjq => ?_⟩
    rw [upd_ne _ _ _ _ hjq, upd_ne _ _ _ _ hjq]
  · have hlt1 : ¬ ((i : Int) < xs.length) := by omega
    try simp [-map_take, -map_drop, -map_tail, rgs, o1, hlt, hlt1, uv, hn0]
    repeat' first | done | ((first | ((with_reducible show lenS _ _ _ _ _ _); refine lenS_slice rfl fun _ => ?_) | ((with_reducible show iaddrS _ _ _ _ _ _ _); refine iaddr_map rfl omA omA ?_) | (with_reducible refine go_draw (i := 3) [(0, [], []), (1, [], []), (2, [], []), (3, [], []), (4, [], []), (5, [], []), (6, [], []), (7, [], []), (8, [], []), (9, [], [])] (by kernel_rfl) ?_) | (with_reducible refine go_draw (i := 4) [(0, [], []), (1, [], []), (2, [], []), (3, [], []), (4, [], []), (5, [], []), (6, [], []), (7, [], []), (8, [], []), (9, [], []), (10, [], []), (11, [], []), (12, [], []), (13, [], [])] (by kernel_rfl) ?_)) <;> simp [-map_take, -map_drop, -map_tail, rgs, o1, hlt, hlt1, uv, hn0]) | ((with_reducible refine condS_split ?_ ?_) <;> intro qb <;> (have qp := qb; try simp only [psq] at qp) <;> simp [-map_take, -map_drop, -map_tail, rgs, o1, hlt, hlt1, uv, hn0, qb])
    obtain ⟨c0, c1⟩ := hbn ((IntKind.u64.wrap (IntKind.u64.wrap (H * 6364136223846793005) + 1442695040888963407)).fdiv (2 ^ min 33 IntKind.u64.bits))
    rw [i64_ok (by omega)]
    refine ⟨_, Int.tmod_nonneg _ (by omega), Int.tmod_lt_of_pos _ h0, rfl, ⟨i, _, by omega, upd_same ..⟩, fun j hj hjq => ?_⟩
    rw [upd_ne _ _ _ _ hjq]
end Go.AE.Tryz
end

section
/- The law of rings: plain timers ring in the order of their times, those made first ahead; none rings before its time. -/
set_option maxRecDepth 8000
set_option maxHeartbeats 1000000
namespace Go.AE.Tryz
open Go.Proofs
open List (map_take map_drop map_tail)
theorem law_Rings {xs : List Int} (hx : ∀ x ∈ xs, InU8 x) : PC ctx.P 3 [.view true 1 (xs.map uv)] (.bool true) := by
  refine PC.o okC Tryz.func3 rfl (.bool _) fun h nx hnx => ?_
  by_cases hb : 4096 < (xs.length : Int)
  · try simp [-map_take, -map_drop, -map_tail, rgs, hb]
    repeat' first | done | ((first | ((with_reducible show lenS _ _ _ _ _ _); refine lenS_slice rfl fun _ => ?_) | ((with_reducible show iaddrS _ _ _ _ _ _ _); refine iaddr_map rfl omA omA ?_) | ((with_reducible show doCall _ _ _ 7 _ _); refine call_pc (c_big) ?_) | ((with_reducible show appS _ _ _ _ _ _ _ _); refine app_end rfl rfl (by decide) (by decide) (by (first | (simp [-map_take, -map_drop, -map_tail, rgs, hb]; done) | (simp [-map_take, -map_drop, -map_tail, rgs, hb]; rfl))) (by (first | (simp [-map_take, -map_drop, -map_tail, rgs, hb]; done) | (simp [-map_take, -map_drop, -map_tail, rgs, hb]; rfl))) (by (first | (simp; done) | (simp; omega))) (by (first | (simp only [MLIM, LIM] at *; simp; omega) | (simp only [MLIM]; simp; omega))) (by simp [iv, bv]) ?_)) <;> simp [-map_take, -map_drop, -map_tail, rgs, hb]) | ((with_reducible refine condS_split ?_ ?_) <;> intro qb <;> (have qp := qb; try simp only [psq] at qp) <;> simp [-map_take, -map_drop, -map_tail, rgs, hb, qb])
  · have hl : xs.length ≤ 4096 := by omega
    try simp [-map_take, -map_drop, -map_tail, rgs, hb]
    repeat' first | done | ((first | ((with_reducible show lenS _ _ _ _ _ _); refine lenS_slice rfl fun _ => ?_) | ((with_reducible show iaddrS _ _ _ _ _ _ _); refine iaddr_map rfl omA omA ?_) | ((with_reducible show doCall _ _ _ 7 _ _); refine call_pc (c_big) ?_) | ((with_reducible show appS _ _ _ _ _ _ _ _); refine app_end rfl rfl (by decide) (by decide) (by (first | (simp [-map_take, -map_drop, -map_tail, rgs, hb]; done) | (simp [-map_take, -map_drop, -map_tail, rgs, hb]; rfl))) (by (first | (simp [-map_take, -map_drop, -map_tail, rgs, hb]; done) | (simp [-map_take, -map_drop, -map_tail, rgs, hb]; rfl))) (by (first | (simp; done) | (simp; omega))) (by (first | (simp only [MLIM, LIM] at *; simp; omega) | (simp only [MLIM]; simp; omega))) (by simp [iv, bv]) ?_)) <;> simp [-map_take, -map_drop, -map_tail, rgs, hb]) | ((with_reducible refine condS_split ?_ ?_) <;> intro qb <;> (have qp := qb; try simp only [psq] at qp) <;> simp [-map_take, -map_drop, -map_tail, rgs, hb, qb])
    refine call_ac (m_roll hl) trivial ?_
    rintro r h1 n1 ⟨q, q1, q2, rfl, q4, q5⟩ hle1 hfr1
    dsimp only at q1 q4 q5 hle1
    try simp [-map_take, -map_drop, -map_tail, rgs]
    repeat' first | done | ((first | ((with_reducible show lenS _ _ _ _ _ _); refine lenS_slice rfl fun _ => ?_) | ((with_reducible show iaddrS _ _ _ _ _ _ _); refine iaddr_map rfl omA omA ?_) | ((with_reducible show appS _ _ _ _ _ _ _ _); refine app_end rfl rfl (by decide) (by decide) (by (first | (simp [-map_take, -map_drop, -map_tail, rgs]; done) | (simp [-map_take, -map_drop, -map_tail, rgs]; rfl))) (by (first | (simp [-map_take, -map_drop, -map_tail, rgs]; done) | (simp [-map_take, -map_drop, -map_tail, rgs]; rfl))) (by (first | (simp; done) | (simp; omega))) (by (first | (simp only [MLIM, LIM] at *; simp; omega) | (simp only [MLIM]; simp; omega))) (by simp [iv, bv]) ?_)) <;> simp [-map_take, -map_drop, -map_tail, rgs]) | ((with_reducible refine condS_split ?_ ?_) <;> intro qb <;> (have qp := qb; try simp only [psq] at qp) <;> simp [-map_take, -map_drop, -map_tail, rgs, qb])
    refine call_pcB (c_NewWorld (p := false)) (tup2_cl (wldV_cl _) (.bool _)) (.cons (.ref0 (by simp) (by simp) (by simp)) (.cons (.same _) .nil)) ?_
    try simp [-map_take, -map_drop, -map_tail, rgs, wldV_ones, wldV_len, wldV_take]
    repeat' first | done | ((first | ((with_reducible show lenS _ _ _ _ _ _); refine lenS_slice rfl fun _ => ?_) | ((with_reducible show iaddrS _ _ _ _ _ _ _); refine iaddr_map rfl omA omA ?_) | ((with_reducible show appS _ _ _ _ _ _ _ _); refine app_end rfl rfl (by decide) (by decide) (by (first | (simp [-map_take, -map_drop, -map_tail, rgs, wldV_ones, wldV_len, wldV_take]; done) | (simp [-map_take, -map_drop, -map_tail, rgs, wldV_ones, wldV_len, wldV_take]; rfl))) (by (first | (simp [-map_take, -map_drop, -map_tail, rgs, wldV_ones, wldV_len, wldV_take]; done) | (simp [-map_take, -map_drop, -map_tail, rgs, wldV_ones, wldV_len, wldV_take]; rfl))) (by (first | (simp; done) | (simp; omega))) (by (first | (simp only [MLIM, LIM] at *; simp; omega) | (simp only [MLIM]; simp; omega))) (by simp [iv, bv]) ?_)) <;> simp [-map_take, -map_drop, -map_tail, rgs, wldV_ones, wldV_len, wldV_take]) | ((with_reducible refine condS_split ?_ ?_) <;> intro qb <;> (have qp := qb; try simp only [psq] at qp) <;> simp [-map_take, -map_drop, -map_tail, rgs, wldV_ones, wldV_len, wldV_take, qb])
    refine call_ac (m_below hx hl (by decide)) ((((q4.upd (by omega)).upd (by omega)).upd (by omega)).upd (by omega)) ?_
    rintro r hB nB ⟨v, v1, v2, rfl, v4, v5⟩ hleB hfrB
    dsimp only at v4 v5 hleB
    obtain ⟨c0, rfl⟩ : ∃ k : Nat, v = k := ⟨v.toNat, by omega⟩
    have hK : KeepB nx hB h := fun j hj => by
      rw [v5 j (by omega) (by omega)]
      repeat rw [upd_ne _ _ _ _ (by omega)]
      exact q5 j (by omega)
    have o4 := v5 (n1 + 5) (by omega) (by omega)
    have o6 := v5 (n1 + 8) (by omega) (by omega)
    simp at o4 o6
    have R0 : RN nx nB hB (n1 + 5) q (n1 + 8) xs (rgW 0 ⟨[], [], 0⟩ []) [] := ⟨o4, v4, o6, by omega, by omega⟩
    have limc : c0 + 1 ≤ LIM := by simp only [LIM]; omega
    try simp [-map_take, -map_drop, -map_tail, rgs]
    repeat' first | done | ((first | ((with_reducible show lenS _ _ _ _ _ _); refine lenS_slice rfl fun _ => ?_) | ((with_reducible show iaddrS _ _ _ _ _ _ _); refine iaddr_map rfl omA omA ?_) | ((with_reducible show appS _ _ _ _ _ _ _ _); refine app_end rfl rfl (by decide) (by decide) (by (first | (simp [-map_take, -map_drop, -map_tail, rgs]; done) | (simp [-map_take, -map_drop, -map_tail, rgs]; rfl))) (by (first | (simp [-map_take, -map_drop, -map_tail, rgs]; done) | (simp [-map_take, -map_drop, -map_tail, rgs]; rfl))) (by (first | (simp; done) | (simp; omega))) (by (first | (simp only [MLIM, LIM] at *; simp; omega) | (simp only [MLIM]; simp; omega))) (by simp [iv, bv]) ?_)) <;> simp [-map_take, -map_drop, -map_tail, rgs]) | ((with_reducible refine condS_split ?_ ?_) <;> intro qb <;> (have qp := qb; try simp only [psq] at qp) <;> simp [-map_take, -map_drop, -map_tail, rgs, qb])
    refine go_upP (h0 := h) (nx0 := nx) [2, 6, 7, 8, 9, 10, 29, 30, 31, 32, 33, 34, 35, 36, 37, 38, 39, 40, 41, 42, 43, 44, 45, 46, 47, 48, 49, 50, 51] (c0 + 1) (fun (i : Nat) a => [(7, .int .i64 ((c0 : Int) - i)), (6, .ref a.2.2 1 0 a.1.length)]) (fun (i : Nat) (a : List Int × Tms × Nat) h' n' => RInv a.1 [] a.2.1 ∧ a.1.length = i ∧ RN nx n' h' (n1 + 5) q a.2.2 xs (rgW 0 a.2.1 []) a.1) (([], ⟨[], [], 0⟩, n1 + 8)) (by simp) ?_ keepA (by omega) ?_
    · exact ⟨rg_inv0, rfl, R0.mono (by omega)⟩
    · intro i a tm h' n' hle hJ hE hn' next hnx
      try dsimp only at hJ
      have hK : KeepB nx h' h := KeepB.sub hE keepA (by omega)
      simp [-map_take, -map_drop, -map_tail]
      obtain ⟨dues, T, j6⟩ := a
      dsimp only at hJ ⊢
      obtain ⟨I, hlen, R⟩ := hJ
      subst hlen
      obtain ⟨b1, b2, b3⟩ := R.hi
      obtain ⟨d1, d2, d3⟩ := R.lo
      by_cases hi : dues.length < c0 + 1
      · have w1 : ((dues.length : Int) ≤ (c0 : Int)) = True := by simp only [eq_iff_iff, iff_true]; omega
        have w2 : ((0 : Int) ≤ (c0 : Int) - dues.length) = True := by simp only [eq_iff_iff, iff_true]; omega
        have w3 : (dues.length ≤ c0) = True := by simp only [eq_iff_iff, iff_true]; omega
        try simp [-map_take, -map_drop, -map_tail, rgs, w1, w2, w3]
        repeat' first | done | ((first | ((with_reducible show lenS _ _ _ _ _ _); refine lenS_slice rfl fun _ => ?_) | ((with_reducible show iaddrS _ _ _ _ _ _ _); refine iaddr_map rfl omA omA ?_) | ((with_reducible show appS _ _ _ _ _ _ _ _); refine app_end rfl rfl (by decide) (by decide) (by (first | (simp [-map_take, -map_drop, -map_tail, rgs, w1, w2, w3]; done) | (simp [-map_take, -map_drop, -map_tail, rgs, w1, w2, w3]; rfl))) (by (first | (simp [-map_take, -map_drop, -map_tail, rgs, w1, w2, w3]; done) | (simp [-map_take, -map_drop, -map_tail, rgs, w1, w2, w3]; rfl))) (by (first | (simp; done) | (simp; omega))) (by (first | (simp only [MLIM, LIM] at *; simp; omega) | (simp only [MLIM]; simp; omega))) (by simp [iv, bv]) ?_)) <;> simp [-map_take, -map_drop, -map_tail, rgs, w1, w2, w3]) | ((with_reducible refine condS_split ?_ ?_) <;> intro qb <;> (have qp := qb; try simp only [psq] at qp) <;> simp [-map_take, -map_drop, -map_tail, rgs, w1, w2, w3, qb])
        refine call_ac (m_below hx hl (by decide)) R.d ?_
        rintro r h3 n3 ⟨z, z1, z2, rfl, z4, z5⟩ hle3 hfr3
        dsimp only at z4 z5 hle3
        have R3 := R.roll (n' := n3) (by omega) z4 (fun j hj hjq => z5 j (by omega) hjq)
        have hK : KeepB nx h3 h := fun j hj => (z5 j (by omega) (by omega)).trans (hK j hj)
        obtain ⟨t1, t2, I2⟩ := rg_timer (v := z) I (by omega) z1 (by omega)
        have cT := p_TimerIn (F := fun _ => true) (w := rgW 0 T []) (d := z) (whom := (dues.length : Int)) (rg_sz I.ok (by simp)) (show _ ≤ (0 : Int) ∧ (0 : Int) ≤ _ by decide) (by omega)
        rw [t1, t2] at cT
        have d17 : ∀ (F : Nat → Bool) (w : Wld), (wldV F w).drop 17 = [] := fun F w => rfl
        have g17 : ∀ (F : Nat → Bool) (w : Wld), wldV F w ++ [] = wldV F w := fun F w => List.append_nil _
        have o7 := R3.a
        have r7 := R3.r
        have kp : ∀ m, (n1 + 5 = n3 + m) = False := fun m => by simp only [eq_iff_iff, iff_false]; omega
        have kp0 : ∀ m, (n1 = n3 + m) = False := fun m => by simp only [eq_iff_iff, iff_false]; omega
        have kj : ∀ m, (j6 = n3 + m) = False := fun m => by simp only [eq_iff_iff, iff_false]; omega
        have pj : (n1 + 5 = j6) = False := by simp only [eq_iff_iff, iff_false]; exact R3.ne.2.1
        have kj2 : ∀ m, (n3 + m = j6) = False := fun m => by simp only [eq_iff_iff, iff_false]; omega
        try simp [-map_take, -map_drop, -map_tail, rgs, o7, r7, kp, kp0, kj, kj2, pj, iv, wldV_ones, wldV_len, wldV_take]
        repeat' first | done | ((first | ((with_reducible show lenS _ _ _ _ _ _); refine lenS_slice rfl fun _ => ?_) | ((with_reducible show iaddrS _ _ _ _ _ _ _); refine iaddr_map rfl omA omA ?_) | (refine call_pc (cT) ?_) | ((with_reducible show appS _ _ _ _ _ _ _ _); refine app_end rfl rfl (by decide) (by decide) (by (first | (simp [-map_take, -map_drop, -map_tail, rgs, o7, r7, kp, kp0, kj, kj2, pj, iv, wldV_ones, wldV_len, wldV_take]; done) | (simp [-map_take, -map_drop, -map_tail, rgs, o7, r7, kp, kp0, kj, kj2, pj, iv, wldV_ones, wldV_len, wldV_take]; rfl))) (by (first | (simp [-map_take, -map_drop, -map_tail, rgs, o7, r7, kp, kp0, kj, kj2, pj, iv, wldV_ones, wldV_len, wldV_take]; done) | (simp [-map_take, -map_drop, -map_tail, rgs, o7, r7, kp, kp0, kj, kj2, pj, iv, wldV_ones, wldV_len, wldV_take]; rfl))) (by (first | (simp; done) | (simp; omega))) (by (first | (simp only [MLIM, LIM] at *; simp; omega) | (simp only [MLIM]; simp; omega))) (by simp [iv, bv]) ?_)) <;> simp [-map_take, -map_drop, -map_tail, rgs, o7, r7, kp, kp0, kj, kj2, pj, iv, wldV_ones, wldV_len, wldV_take]) | ((with_reducible refine condS_split ?_ ?_) <;> intro qb <;> (have qp := qb; try simp only [psq] at qp) <;> simp [-map_take, -map_drop, -map_tail, rgs, o7, r7, kp, kp0, kj, kj2, pj, iv, wldV_ones, wldV_len, wldV_take, qb])
        have ewz : IntKind.i64.wrap ((c0 : Int) - dues.length - 1) = (c0 : Int) - (dues.length + 1 : Nat) := by rw [i64_ok (by omega)]; omega
        refine hnx.go (dues ++ [z], armT T z 2 dues.length, n3 + 18) (by omega) (by simp [ewz]) (by repeat' first | with_reducible refine KeepT.u (by kernel_rfl) ?_ | with_reducible refine KeepT.on ?_ | with_reducible refine KeepT.o (by kernel_rfl) ?_ | exact KeepT.m | with_reducible refine KeepT.mm (by kernel_rfl) ?_) keepA (by first | omega | (simp; omega)) ?_
        dsimp only
        obtain ⟨y1, y2, y3⟩ := R3.ne
        refine ⟨I2, by simp, ⟨?_, ((((((z4.upd (by omega)).upd (by omega)).upd (by omega)).upd y3).upd (by omega)).upd y1.symm), ?_, by omega, by omega⟩⟩
        · rw [upd_same, d17, g17]
        · rw [upd_ne _ _ _ _ (by omega), upd_same, List.map_append]; rfl
      · have w3 : (dues.length ≤ c0) = False := by simp only [eq_iff_iff, iff_false]; omega
        have hdl : dues.length ≤ 20 := by omega
        have limd : dues.length ≤ LIM := by simp only [LIM]; omega
        try simp [-map_take, -map_drop, -map_tail, rgs, w3]
        repeat' first | done | ((first | ((with_reducible show lenS _ _ _ _ _ _); refine lenS_slice rfl fun _ => ?_) | ((with_reducible show iaddrS _ _ _ _ _ _ _); refine iaddr_map rfl omA omA ?_) | ((with_reducible show appS _ _ _ _ _ _ _ _); refine app_end rfl rfl (by decide) (by decide) (by (first | (simp [-map_take, -map_drop, -map_tail, rgs, w3]; done) | (simp [-map_take, -map_drop, -map_tail, rgs, w3]; rfl))) (by (first | (simp [-map_take, -map_drop, -map_tail, rgs, w3]; done) | (simp [-map_take, -map_drop, -map_tail, rgs, w3]; rfl))) (by (first | (simp; done) | (simp; omega))) (by (first | (simp only [MLIM, LIM] at *; simp; omega) | (simp only [MLIM]; simp; omega))) (by simp [iv, bv]) ?_)) <;> simp [-map_take, -map_drop, -map_tail, rgs, w3]) | ((with_reducible refine condS_split ?_ ?_) <;> intro qb <;> (have qp := qb; try simp only [psq] at qp) <;> simp [-map_take, -map_drop, -map_tail, rgs, w3, qb])
        refine go_upP (h0 := h) (nx0 := nx) [2, 5, 11, 12, 13, 14, 15, 16, 53, 54, 55, 56, 57, 58, 59, 60, 61, 62, 63, 64, 65, 66, 67, 68, 69, 70, 71, 72, 73, 74, 75, 76, 77, 78, 79, 80, 81, 82, 83, 84, 85, 86, 87, 88, 89, 90, 91, 92, 93, 94, 95, 96, 97, 98] (6) (fun (i : Nat) a => [(12, .int .i64 i), (11, .ref a.2 1 0 (wantL dues i).length)]) (fun (i : Nat) (a : Tms × Nat) h' n' => RInv dues (wantL dues i) a.1 ∧ RN nx n' h' (n1 + 5) q j6 xs (rgW i a.1 (wantL dues i)) dues ∧ h' a.2 = some (.row 1 ((wantL dues i).map iv)) ∧ nx ≤ a.2 ∧ a.2 < n' ∧ a.2 ≠ j6) ((T, n' + 2)) (by simp) ?_ keepA (by omega) ?_
        · exact ⟨I, R.same (by omega) (fun k hk => upd_ne _ _ _ _ (by omega)), upd_same .., by omega, by omega, by omega⟩
        · intro j b tm2 h2 n2 hle2 hJ2 hE2 hn2 next2 hnx2
          try dsimp only at hJ2
          have hK2 : KeepB nx h2 h := KeepB.sub hE2 keepA (by omega)
          simp [-map_take, -map_drop, -map_tail]
          obtain ⟨T2, j11⟩ := b
          dsimp only at hJ2 ⊢
          obtain ⟨I2, R2, g2, m1, m2, m3⟩ := hJ2
          by_cases hj : j < 6
          · have hj1 : (j : Int) < 6 := by omega
            try simp [-map_take, -map_drop, -map_tail, rgs, hj1]
            repeat' first | done | ((first | ((with_reducible show lenS _ _ _ _ _ _); refine lenS_slice rfl fun _ => ?_) | ((with_reducible show iaddrS _ _ _ _ _ _ _); refine iaddr_map rfl omA omA ?_) | ((with_reducible show appS _ _ _ _ _ _ _ _); refine app_end rfl rfl (by decide) (by decide) (by (first | (simp [-map_take, -map_drop, -map_tail, rgs, hj1]; done) | (simp [-map_take, -map_drop, -map_tail, rgs, hj1]; rfl))) (by (first | (simp [-map_take, -map_drop, -map_tail, rgs, hj1]; done) | (simp [-map_take, -map_drop, -map_tail, rgs, hj1]; rfl))) (by (first | (simp; done) | (simp; omega))) (by (first | (simp only [MLIM, LIM] at *; simp; omega) | (simp only [MLIM]; simp; omega))) (by simp [iv, bv]) ?_)) <;> simp [-map_take, -map_drop, -map_tail, rgs, hj1]) | ((with_reducible refine condS_split ?_ ?_) <;> intro qb <;> (have qp := qb; try simp only [psq] at qp) <;> simp [-map_take, -map_drop, -map_tail, rgs, hj1, qb])
            refine go_dnP (h0 := h) (nx0 := nx) [2, 13, 14, 15, 57, 58, 59, 60, 61, 62, 63, 64, 65, 66, 67, 68, 69, 70] (fun a => [(13, .bool a.2.2)]) (fun a => (lvl dues j).length - a.2.1 + (if a.2.2 = true then 1 else 0)) (fun (a : Tms × Nat × Bool) h' n' => RInv dues (rngAt dues j a.2.1) a.1 ∧ a.2.1 ≤ (lvl dues j).length ∧ (a.2.2 = false → a.2.1 = (lvl dues j).length) ∧ RN nx n' h' (n1 + 5) q j6 xs (rgW j a.1 (rngAt dues j a.2.1)) dues ∧ h' j11 = some (.row 1 ((wantL dues j).map iv)) ∧ j11 < n') ((T2, 0, true)) (by simp) ?_ keepA (by omega) ?_
            · dsimp only
              rw [rng_zero]
              exact ⟨I2, by omega, (fun e => by cases e), R2.mono (by omega), g2, by omega⟩
            · intro a tm h' n' hJ hE hn' next hnx
              try dsimp only at hJ
              have hK : KeepB nx h' h := KeepB.sub hE keepA (by omega)
              simp [-map_take, -map_drop, -map_tail]
              obtain ⟨T3, m, more⟩ := a
              dsimp only at hJ ⊢
              obtain ⟨I3, hm, hmo, R3, g3, l3⟩ := hJ
              obtain ⟨b4, b5, b6⟩ := R3.hi
              have o7 := R3.a
              have r7 := R3.r
              have kp : ∀ m, (n1 + 5 = n' + m) = False := fun m => by simp only [eq_iff_iff, iff_false]; omega
              have kp0 : ∀ m, (n1 = n' + m) = False := fun m => by simp only [eq_iff_iff, iff_false]; omega
              have p11 : n1 + 5 ≠ j11 := fun e => by rw [e, g3] at o7; cases o7
              cases more with
              | true =>
                have cD := p_DrainIn (F := fun _ => true) (w := rgW j T3 (rngAt dues j m)) (rg_sz I3.ok (by have := (rng_good I3.du hdl j m).1; omega))
                rcases rg_drain (by omega) hdl I3 hm with ⟨e1, e2, e3⟩ | ⟨e1, T4, e2, I4, e4⟩
                · rw [e1, e2] at cD
                  have hle := (rng_good I3.du hdl j m).1
                  have hgt : ((dues.length : Int) < ((rngAt dues j m).length : Int)) = False := by simp only [eq_iff_iff, iff_false]; omega
                  have hgt2 : (dues.length < (rngAt dues j m).length) = False := by simp only [eq_iff_iff, iff_false]; omega
                  simp only [wldV, rgW] at o7 cD
                  try simp [-map_take, -map_drop, -map_tail, rgs, o7, r7, kp, kp0, hgt, hgt2]
                  repeat' first | done | ((first | ((with_reducible show lenS _ _ _ _ _ _); refine lenS_slice rfl fun _ => ?_) | ((with_reducible show iaddrS _ _ _ _ _ _ _); refine iaddr_map rfl omA omA ?_) | (refine call_pc (cD) ?_) | ((with_reducible show appS _ _ _ _ _ _ _ _); refine app_end rfl rfl (by decide) (by decide) (by (first | (simp [-map_take, -map_drop, -map_tail, rgs, o7, r7, kp, kp0, hgt, hgt2]; done) | (simp [-map_take, -map_drop, -map_tail, rgs, o7, r7, kp, kp0, hgt, hgt2]; rfl))) (by (first | (simp [-map_take, -map_drop, -map_tail, rgs, o7, r7, kp, kp0, hgt, hgt2]; done) | (simp [-map_take, -map_drop, -map_tail, rgs, o7, r7, kp, kp0, hgt, hgt2]; rfl))) (by (first | (simp; done) | (simp; omega))) (by (first | (simp only [MLIM, LIM] at *; simp; omega) | (simp only [MLIM]; simp; omega))) (by simp [iv, bv]) ?_)) <;> simp [-map_take, -map_drop, -map_tail, rgs, o7, r7, kp, kp0, hgt, hgt2]) | ((with_reducible refine condS_split ?_ ?_) <;> intro qb <;> (have qp := qb; try simp only [psq] at qp) <;> simp [-map_take, -map_drop, -map_tail, rgs, o7, r7, kp, kp0, hgt, hgt2, qb])
                  refine hnx.go (T3, m, false) (by first | (simp; done) | (simp; omega)) (by simp) (by repeat' first | with_reducible refine KeepT.u (by kernel_rfl) ?_ | with_reducible refine KeepT.on ?_ | with_reducible refine KeepT.o (by kernel_rfl) ?_ | exact KeepT.m | with_reducible refine KeepT.mm (by kernel_rfl) ?_) keepA (by first | omega | (simp; omega)) ?_
                  refine ⟨I3, hm, (fun _ => e3), R3.setW (by omega) (upd_same ..) (fun k hk hkp => ?_), ?_, by omega⟩
                  · repeat rw [upd_ne _ _ _ _ (by omega)]
                  · repeat rw [upd_ne _ _ _ _ (by omega)]
                    exact g3
                · rw [e1, e2] at cD
                  have hle := (rng_good I3.du hdl j (m + 1)).1
                  have hgt : ((dues.length : Int) < ((rngAt dues j (m + 1)).length : Int)) = False := by simp only [eq_iff_iff, iff_false]; omega
                  have hgt2 : (dues.length < (rngAt dues j (m + 1)).length) = False := by simp only [eq_iff_iff, iff_false]; omega
                  simp only [wldV, rgW] at o7 cD
                  try simp [-map_take, -map_drop, -map_tail, rgs, o7, r7, kp, kp0, hgt, hgt2]
                  repeat' first | done | ((first | ((with_reducible show lenS _ _ _ _ _ _); refine lenS_slice rfl fun _ => ?_) | ((with_reducible show iaddrS _ _ _ _ _ _ _); refine iaddr_map rfl omA omA ?_) | (refine call_pc (cD) ?_) | ((with_reducible show appS _ _ _ _ _ _ _ _); refine app_end rfl rfl (by decide) (by decide) (by (first | (simp [-map_take, -map_drop, -map_tail, rgs, o7, r7, kp, kp0, hgt, hgt2]; done) | (simp [-map_take, -map_drop, -map_tail, rgs, o7, r7, kp, kp0, hgt, hgt2]; rfl))) (by (first | (simp [-map_take, -map_drop, -map_tail, rgs, o7, r7, kp, kp0, hgt, hgt2]; done) | (simp [-map_take, -map_drop, -map_tail, rgs, o7, r7, kp, kp0, hgt, hgt2]; rfl))) (by (first | (simp; done) | (simp; omega))) (by (first | (simp only [MLIM, LIM] at *; simp; omega) | (simp only [MLIM]; simp; omega))) (by simp [iv, bv]) ?_)) <;> simp [-map_take, -map_drop, -map_tail, rgs, o7, r7, kp, kp0, hgt, hgt2]) | ((with_reducible refine condS_split ?_ ?_) <;> intro qb <;> (have qp := qb; try simp only [psq] at qp) <;> simp [-map_take, -map_drop, -map_tail, rgs, o7, r7, kp, kp0, hgt, hgt2, qb])
                  refine hnx.go (T4, m + 1, true) (by first | (simp; done) | (simp; omega)) (by simp) (by repeat' first | with_reducible refine KeepT.u (by kernel_rfl) ?_ | with_reducible refine KeepT.on ?_ | with_reducible refine KeepT.o (by kernel_rfl) ?_ | exact KeepT.m | with_reducible refine KeepT.mm (by kernel_rfl) ?_) keepA (by first | omega | (simp; omega)) ?_
                  refine ⟨I4, e4, (fun e => by cases e), R3.setW (by omega) (upd_same ..) (fun k hk hkp => ?_), ?_, by omega⟩
                  · repeat rw [upd_ne _ _ _ _ (by omega)]
                  · repeat rw [upd_ne _ _ _ _ (by omega)]
                    exact g3
              | false =>
                obtain rfl := hmo rfl
                rw [rng_full] at R3 I3
                try simp [-map_take, -map_drop, -map_tail, rgs]
                repeat' first | done | ((first | ((with_reducible show lenS _ _ _ _ _ _); refine lenS_slice rfl fun _ => ?_) | ((with_reducible show iaddrS _ _ _ _ _ _ _); refine iaddr_map rfl omA omA ?_) | ((with_reducible show appS _ _ _ _ _ _ _ _); refine app_end rfl rfl (by decide) (by decide) (by (first | (simp [-map_take, -map_drop, -map_tail, rgs]; done) | (simp [-map_take, -map_drop, -map_tail, rgs]; rfl))) (by (first | (simp [-map_take, -map_drop, -map_tail, rgs]; done) | (simp [-map_take, -map_drop, -map_tail, rgs]; rfl))) (by (first | (simp; done) | (simp; omega))) (by (first | (simp only [MLIM, LIM] at *; simp; omega) | (simp only [MLIM]; simp; omega))) (by simp [iv, bv]) ?_)) <;> simp [-map_take, -map_drop, -map_tail, rgs]) | ((with_reducible refine condS_split ?_ ?_) <;> intro qb <;> (have qp := qb; try simp only [psq] at qp) <;> simp [-map_take, -map_drop, -map_tail, rgs, qb])
                refine go_upP (h0 := h) (nx0 := nx) [11, 16, 71, 72, 73, 74, 75, 76, 77, 78, 79, 80, 81, 82, 83, 84, 85, 86] (dues.length) (fun (i : Nat) a => [(16, .int .i64 i), (11, .ref a 1 0 (wantL dues j ++ lvlN dues j i).length)]) (fun (i : Nat) (a : Nat) h' n' => RN nx n' h' (n1 + 5) q j6 xs (rgW j T3 (wantL dues (j + 1))) dues ∧ h' a = some (.row 1 ((wantL dues j ++ lvlN dues j i).map iv)) ∧ nx ≤ a ∧ a < n' ∧ a ≠ j6) (j11) (by simp) ?_ keepA (by omega) ?_
                · exact ⟨R3.mono (by omega), by simpa using g3, by omega, by omega, m3⟩
                · intro i a tm h' n' hle hJ hE hn' next hnx
                  try dsimp only at hJ
                  have hK : KeepB nx h' h := KeepB.sub hE keepA (by omega)
                  simp [-map_take, -map_drop, -map_tail]
                  obtain ⟨k, rfl⟩ : ∃ x, x = a := ⟨_, rfl⟩
                  obtain ⟨R4, g4, l4, l5, l6⟩ := hJ
                  have r8 := R4.r
                  have o8 := R4.a
                  obtain ⟨b7, b8, b9⟩ := R4.hi
                  have kj : ∀ m, (j6 = n' + m) = False := fun m => by simp only [eq_iff_iff, iff_false]; omega
                  have kk : ∀ m, (k = n' + m) = False := fun m => by simp only [eq_iff_iff, iff_false]; omega
                  have hw1 := (want_len I3.du j).2
                  have hw2 := lvlN_len dues (j : Int) i
                  by_cases hi : i < dues.length
                  · have hi1 : (i : Int) < dues.length := by omega
                    have hAB : (wantL dues j).length + (lvlN dues (j : Int) i).length ≤ 40 := by omega
                    have g2 : (dues.map iv)[i]? = some (iv (gt dues (i : Int))) := row_at hi
                    have hsn := lvlN_succ dues (j : Int) i
                    cases hq : gt dues (i : Int) == (j : Int) with
                    | true =>
                      rw [hq, if_pos rfl] at hsn
                      try simp [-map_take, -map_drop, -map_tail, rgs, r8, g4, hi, hi1, hq, kj, kk, iv]
                      repeat' first | done | ((first | ((with_reducible show lenS _ _ _ _ _ _); refine lenS_slice rfl fun _ => ?_) | ((with_reducible show iaddrS _ _ _ _ _ _ _); refine iaddr_map rfl omA omA ?_) | (((with_reducible show iaddrS _ _ _ _ (.ref _ _ _ _) _ _); refine iaddr_ref rfl (by omega) (by omega) ?_)) | (((with_reducible show loadE _ _ _ _ _ _ _ _); refine loadE_row (by first | exact g2) ?_)) | ((with_reducible show appS _ _ _ _ _ _ _ _); refine app_end rfl rfl (by decide) (by decide) (by (first | (simp [-map_take, -map_drop, -map_tail, rgs, r8, g4, hi, hi1, hq, kj, kk, iv]; done) | (simp [-map_take, -map_drop, -map_tail, rgs, r8, g4, hi, hi1, hq, kj, kk, iv]; rfl))) (by (first | (simp [-map_take, -map_drop, -map_tail, rgs, r8, g4, hi, hi1, hq, kj, kk, iv]; done) | (simp [-map_take, -map_drop, -map_tail, rgs, r8, g4, hi, hi1, hq, kj, kk, iv]; rfl))) (by (first | (simp; done) | (simp; omega))) (by (first | (simp only [MLIM, LIM] at *; simp; omega) | (simp only [MLIM]; simp; omega))) (by simp [iv, bv]) ?_)) <;> simp [-map_take, -map_drop, -map_tail, rgs, r8, g4, hi, hi1, hq, kj, kk, iv]) | ((with_reducible refine condS_split ?_ ?_) <;> intro qb <;> (have qp := qb; try simp only [psq] at qp) <;> simp [-map_take, -map_drop, -map_tail, rgs, r8, g4, hi, hi1, hq, kj, kk, iv, qb])
                      refine hnx.go (n' + 13) (by omega) (by first | (simp [wrap_succ hi limd, hsn]; done) | (simp [wrap_succ hi limd, hsn]; omega)) (by repeat' first | with_reducible refine KeepT.u (by kernel_rfl) ?_ | with_reducible refine KeepT.on ?_ | with_reducible refine KeepT.o (by kernel_rfl) ?_ | exact KeepT.m | with_reducible refine KeepT.mm (by kernel_rfl) ?_) keepA (by first | omega | (simp; omega)) ?_
                      have pk : n1 + 5 ≠ k := fun e => by have := R4.a; rw [e, g4] at this; cases this
                      have qk : q ≠ k := fun e => by obtain ⟨d8, d9, _, d7⟩ := R4.d; rw [e, g4] at d7; cases d7
                      refine ⟨R4.keep (by omega) ?_ ?_ ?_, ?_, by omega, by omega, by omega⟩
                      · rw [upd_ne _ _ _ _ (by omega), upd_ne _ _ _ _ pk, upd_ne _ _ _ _ (by omega)]
                      · rw [upd_ne _ _ _ _ (by omega), upd_ne _ _ _ _ qk, upd_ne _ _ _ _ (by omega)]
                      · rw [upd_ne _ _ _ _ (by omega), upd_ne _ _ _ _ l6.symm, upd_ne _ _ _ _ (by omega)]
                      · rw [upd_same, hsn]; simp [iv]
                    | false =>
                      rw [hq, if_neg (by decide), List.append_nil] at hsn
                      try simp [-map_take, -map_drop, -map_tail, rgs, r8, g4, hi, hi1, hq, kj, kk, iv]
                      repeat' first | done | ((first | ((with_reducible show lenS _ _ _ _ _ _); refine lenS_slice rfl fun _ => ?_) | ((with_reducible show iaddrS _ _ _ _ _ _ _); refine iaddr_map rfl omA omA ?_) | (((with_reducible show iaddrS _ _ _ _ (.ref _ _ _ _) _ _); refine iaddr_ref rfl (by omega) (by omega) ?_)) | (((with_reducible show loadE _ _ _ _ _ _ _ _); refine loadE_row (by first | exact g2) ?_)) | ((with_reducible show appS _ _ _ _ _ _ _ _); refine app_end rfl rfl (by decide) (by decide) (by (first | (simp [-map_take, -map_drop, -map_tail, rgs, r8, g4, hi, hi1, hq, kj, kk, iv]; done) | (simp [-map_take, -map_drop, -map_tail, rgs, r8, g4, hi, hi1, hq, kj, kk, iv]; rfl))) (by (first | (simp [-map_take, -map_drop, -map_tail, rgs, r8, g4, hi, hi1, hq, kj, kk, iv]; done) | (simp [-map_take, -map_drop, -map_tail, rgs, r8, g4, hi, hi1, hq, kj, kk, iv]; rfl))) (by (first | (simp; done) | (simp; omega))) (by (first | (simp only [MLIM, LIM] at *; simp; omega) | (simp only [MLIM]; simp; omega))) (by simp [iv, bv]) ?_)) <;> simp [-map_take, -map_drop, -map_tail, rgs, r8, g4, hi, hi1, hq, kj, kk, iv]) | ((with_reducible refine condS_split ?_ ?_) <;> intro qb <;> (have qp := qb; try simp only [psq] at qp) <;> simp [-map_take, -map_drop, -map_tail, rgs, r8, g4, hi, hi1, hq, kj, kk, iv, qb])
                      refine hnx.go k (by omega) (by simp [wrap_succ hi limd, hsn]) (by repeat' first | with_reducible refine KeepT.u (by kernel_rfl) ?_ | with_reducible refine KeepT.on ?_ | with_reducible refine KeepT.o (by kernel_rfl) ?_ | exact KeepT.m | with_reducible refine KeepT.mm (by kernel_rfl) ?_) keepA (by first | omega | (simp; omega)) ?_
                      exact ⟨R4.mono (by omega), by rw [hsn]; exact g4, by omega, by omega, l6⟩
                  · obtain rfl : i = dues.length := by omega
                    have hi2 : ¬ ((dues.length : Int) < dues.length) := by omega
                    have hw : wantL dues j ++ lvlN dues j dues.length = wantL dues (j + 1) := rfl
                    rw [hw] at g4
                    obtain ⟨t1, t2⟩ := rg_tick (by omega) hdl I3
                    have hgd := rng_good I3.du hdl (j + 1) 0
                    rw [rng_zero] at hgd
                    have cT := p_TickIn (F := fun _ => true) (w := rgW j T3 (wantL dues (j + 1))) (d := 1) (rg_sz I3.ok (by omega)) (by show _ ≤ (j : Int) ∧ (j : Int) ≤ _; omega) (by decide)
                    rw [t1, t2] at cT
                    have cL := c_likeInts (p := true) (q := false) (xs := wantL dues (j + 1)) (ys := wantL dues (j + 1))
                    rw [beq_self_eq_true] at cL
                    have hlw : (wantL dues j).length + (lvlN dues (j : Int) dues.length).length = (wantL dues (j + 1)).length := by rw [← hw, List.length_append]
                    generalize hW : wantL dues (j + 1) = W at *
                    simp only [wldV, rgW] at o8 cT
                    try simp [-map_take, -map_drop, -map_tail, rgs, o8, hi2, hlw]
                    repeat' first | done | ((first | ((with_reducible show lenS _ _ _ _ _ _); refine lenS_slice rfl fun _ => ?_) | ((with_reducible show iaddrS _ _ _ _ _ _ _); refine iaddr_map rfl omA omA ?_) | ((with_reducible show appS _ _ _ _ _ _ _ _); refine app_end rfl rfl (by decide) (by decide) (by (first | (simp [-map_take, -map_drop, -map_tail, rgs, o8, hi2, hlw]; done) | (simp [-map_take, -map_drop, -map_tail, rgs, o8, hi2, hlw]; rfl))) (by (first | (simp [-map_take, -map_drop, -map_tail, rgs, o8, hi2, hlw]; done) | (simp [-map_take, -map_drop, -map_tail, rgs, o8, hi2, hlw]; rfl))) (by (first | (simp; done) | (simp; omega))) (by (first | (simp only [MLIM, LIM] at *; simp; omega) | (simp only [MLIM]; simp; omega))) (by simp [iv, bv]) ?_)) <;> simp [-map_take, -map_drop, -map_tail, rgs, o8, hi2, hlw]) | ((with_reducible refine condS_split ?_ ?_) <;> intro qb <;> (have qp := qb; try simp only [psq] at qp) <;> simp [-map_take, -map_drop, -map_tail, rgs, o8, hi2, hlw, qb])
                    refine call_pcB cL (.bool _) (.cons (.same _) (.cons (.ref0 g4 (by simp) (by simp)) .nil)) ?_
                    have kp : ∀ m, (n1 + 5 = n' + m) = False := fun m => by simp only [eq_iff_iff, iff_false]; omega
                    have kp0 : ∀ m, (n1 = n' + m) = False := fun m => by simp only [eq_iff_iff, iff_false]; omega
                    try simp [-map_take, -map_drop, -map_tail, rgs, o8, hi2, hlw, kp, kp0]
                    repeat' first | done | ((first | ((with_reducible show lenS _ _ _ _ _ _); refine lenS_slice rfl fun _ => ?_) | ((with_reducible show iaddrS _ _ _ _ _ _ _); refine iaddr_map rfl omA omA ?_) | (refine call_pc (cT) ?_) | ((with_reducible show appS _ _ _ _ _ _ _ _); refine app_end rfl rfl (by decide) (by decide) (by (first | (simp [-map_take, -map_drop, -map_tail, rgs, o8, hi2, hlw, kp, kp0]; done) | (simp [-map_take, -map_drop, -map_tail, rgs, o8, hi2, hlw, kp, kp0]; rfl))) (by (first | (simp [-map_take, -map_drop, -map_tail, rgs, o8, hi2, hlw, kp, kp0]; done) | (simp [-map_take, -map_drop, -map_tail, rgs, o8, hi2, hlw, kp, kp0]; rfl))) (by (first | (simp; done) | (simp; omega))) (by (first | (simp only [MLIM, LIM] at *; simp; omega) | (simp only [MLIM]; simp; omega))) (by simp [iv, bv]) ?_)) <;> simp [-map_take, -map_drop, -map_tail, rgs, o8, hi2, hlw, kp, kp0]) | ((with_reducible refine condS_split ?_ ?_) <;> intro qb <;> (have qp := qb; try simp only [psq] at qp) <;> simp [-map_take, -map_drop, -map_tail, rgs, o8, hi2, hlw, kp, kp0, qb])
                    have lim6 : (6 : Nat) ≤ LIM := by simp only [LIM]; omega
                    refine hnx2.go (T3, k) (by omega) (by simp [wrap_succ hj lim6, hW, hlw]) (by repeat' first | with_reducible refine KeepT.u (by kernel_rfl) ?_ | with_reducible refine KeepT.on ?_ | with_reducible refine KeepT.o (by kernel_rfl) ?_ | exact KeepT.m | with_reducible refine KeepT.mm (by kernel_rfl) ?_) keepA (by first | omega | (simp; omega)) ?_
                    dsimp only
                    rw [hW]
                    have hcj : ((j + 1 : Nat) : Int) = (j : Int) + 1 := by omega
                    refine ⟨I3, R4.setW (by omega) ?_ (fun m hm hmp => upd_ne _ _ _ _ hmp), ?_, by omega, by omega, l6⟩
                    · rw [upd_same, hcj]; rfl
                    · rw [upd_ne _ _ _ _ (fun e => by rw [e, R4.a] at g4; cases g4)]; exact g4
          · obtain rfl : j = 6 := by omega
            have hwl := want_all I2.du
            have hd2 := R2.r
            try simp [-map_take, -map_drop, -map_tail, rgs, hwl]
            repeat' first | done | ((first | ((with_reducible show lenS _ _ _ _ _ _); refine lenS_slice rfl fun _ => ?_) | ((with_reducible show iaddrS _ _ _ _ _ _ _); refine iaddr_map rfl omA omA ?_) | ((with_reducible show appS _ _ _ _ _ _ _ _); refine app_end rfl rfl (by decide) (by decide) (by (first | (simp [-map_take, -map_drop, -map_tail, rgs, hwl]; done) | (simp [-map_take, -map_drop, -map_tail, rgs, hwl]; rfl))) (by (first | (simp [-map_take, -map_drop, -map_tail, rgs, hwl]; done) | (simp [-map_take, -map_drop, -map_tail, rgs, hwl]; rfl))) (by (first | (simp; done) | (simp; omega))) (by (first | (simp only [MLIM, LIM] at *; simp; omega) | (simp only [MLIM]; simp; omega))) (by simp [iv, bv]) ?_)) <;> simp [-map_take, -map_drop, -map_tail, rgs, hwl]) | ((with_reducible refine condS_split ?_ ?_) <;> intro qb <;> (have qp := qb; try simp only [psq] at qp) <;> simp [-map_take, -map_drop, -map_tail, rgs, hwl, qb])
            set_option pp.deepTerms true in set_option pp.maxSteps 1000000 in trivial
end Go.AE.Tryz
end
