/- Contracts of the seat's functions: what each answers, for all arguments. -/
import Derived.Test.YteccfcojjcnokaaGreatB1
import Derived.Test.YteccfcojjcnokaaGreatA3
import Derived.WalkKit
import Derived.Carry
set_option linter.unusedVariables false
set_option linter.unusedSimpArgs false
set_option linter.deprecated false
section
/- The contract of the program's condition 'steady', which keeps a map. -/
namespace Go.AE.Tryz
open Go.Proofs Go.RowKit Go.Maps
theorem zeroSgt (w : World) : (zeroValue 135).run Tryz.prog w = .ok (sV ⟨0, 0, 0, 0⟩) w := by kernel_rfl
theorem keyInt {n : Int} (h0 : 0 ≤ n) (h1 : n ≤ 1048576) : keyOf Tryz.prog 2 (.int .i64 n) = some (.int .i64 n) := keyOf_int_mk Tryz.underlying2 (by simp [Lit.wf]; simp only [show IntKind.i64.min = -9223372036854775808 from rfl, show IntKind.i64.max = 9223372036854775807 from rfl]; omega)
set_option maxRecDepth 100000 in
set_option maxHeartbeats 4000000 in
theorem steady_walk {W : World} {c0 c1 c2 c3 c4 c5 c6 c7 c8 c9 c10 c11 c12 c13 c15 c16 : Value} {b off cap : Nat} {l : List Sgt} {R : World → Prop}
    (hcal : Calls Tryz.prog 34 #[.agg #[c0, c1, c2, c3, c4, c5, c6, c7, c8, c9, c10, c11, c12, c13, .slice (some ⟨b, off, none⟩) l.length cap, c15, c16]] (W.alloc (Obj.cells #[c0, c1, c2, c3, c4, c5, c6, c7, c8, c9, c10, c11, c12, c13, .slice (some ⟨b, off, none⟩) l.length cap, c15, c16] 51))
      fun e w' => e = .returned (.bool true) ∧ R w')
    (hR : ∀ w1, R w1 → W.heap.size < w1.heap.size ∧ w1.cell? ⟨W.heap.size, 14, none⟩ = some (.slice (some ⟨b, off, none⟩) l.length cap) ∧ b < w1.heap.size ∧ ∀ k : Nat, k < l.length → w1.cell? ⟨b, off + k * 4, none⟩ = some (.int .i64 (gt l k).node) ∧
      w1.cell? ⟨b, off + k * 4 + 1, none⟩ = some (.int .i64 (gt l k).err) ∧ w1.cell? ⟨b, off + k * 4 + 2, none⟩ = some (.int .i64 (gt l k).cause) ∧ w1.cell? ⟨b, off + k * 4 + 3, none⟩ = some (.int .i64 (gt l k).pos))
    (hn : ∀ s ∈ l, 0 ≤ s.node ∧ s.node ≤ 1048576) (hm : l.length ≤ 1048576) :
    Calls Tryz.prog 20 #[.agg #[c0, c1, c2, c3, c4, c5, c6, c7, c8, c9, c10, c11, c12, c13, .slice (some ⟨b, off, none⟩) l.length cap, c15, c16]] W fun e w' => e = .returned (.bool (steadyL [] l)) ∧ ∃ w1, R w1 ∧ Below w1.heap.size w1 w' := by
  have hmm := @run_makeMap Tryz.prog
  go_enter Tryz.func20, Tryz.ntmps20
  go_wp2_with (go_at_call 34; refine hcal.mono ?_; rintro e w1 ⟨rfl, hr⟩; obtain ⟨hlt, hld, hb, hcl⟩ := hR w1 hr)
  go_loopw [15] (fun i wr => ∃ k : Nat, k ≤ l.length ∧ i = .int .i64 k ∧ OwnsS Tryz.prog 2 wr w1.heap.size k (l.take k) ∧ agreeS (l.take k) ∧ steadyL (l.take k) (l.drop k) = steadyL [] l ∧ Below w1.heap.size w1 wr ∧ w1.heap.size + 1 ≤ wr.heap.size)
    (fun i _ => l.length - (intOf i).toNat)
  case atStart => exact ⟨0, Nat.zero_le _, rfl, by simpa using OwnsS.made _ _ _, by simpa using agreeS_nil, by simp, (Below.refl _ _).alloc (Nat.le_refl _) _, by simp⟩
  case round =>
    obtain ⟨k, hk, rfl, hown, hag, hst, hnx, hws⟩ := hrel
    rcases Nat.lt_or_ge k l.length with hkl | hkl
    · obtain ⟨r0, r1, r2, r3⟩ := hcl k hkl
      have q0 := (hnx.cell (p := ⟨b, off + k * 4, none⟩) hb).trans r0
      have q1 := (hnx.cell (p := ⟨b, off + k * 4 + 1, none⟩) hb).trans r1
      have q2 := (hnx.cell (p := ⟨b, off + k * 4 + 2, none⟩) hb).trans r2
      have q3 := (hnx.cell (p := ⟨b, off + k * 4 + 3, none⟩) hb).trans r3
      have hno := hn _ (gt_mem (by omega) (by omega) : gt l (k : Int) ∈ l)
      have hkey := keyInt hno.1 hno.2
      have hw3 : w1.heap.size < wr.heap.size := by omega
      go_wp2_with (first
        | (at_lookup; refine wpList_lookup_S _ rfl _ _ 146 rfl 2 135 (int_keyed Tryz.underlying2) Tryz.underlying146 (zeroSgt _) w1.heap.size k _ rfl (hown.alloc _) _ rfl hkey ?_)
        | (at_mapUpdate; refine wpList_update_S _ rfl _ _ _ 146 rfl 2 135 (int_keyed Tryz.underlying2) Tryz.underlying146 w1.heap.size k _ rfl ((hown.alloc _).alloc _) (by unfold maxLen; omega) (gt l (k : Int)) (by simp_all) rfl rfl hkey ?_; intro w2 hown2 hgrow2)
        | (at_mapUpdate; refine wpList_update_S _ rfl _ _ _ 146 rfl 2 135 (int_keyed Tryz.underlying2) Tryz.underlying146 w1.heap.size k _ rfl ((hown.alloc _).alloc _) (by unfold maxLen; omega) ⟨(gt l (k : Int)).node, (lkS (List.take k l) (gt l (k : Int)).node).err, (gt l (k : Int)).cause, (gt l (k : Int)).pos⟩ (by simp_all) rfl rfl hkey ?_; intro w2 hown2 hgrow2)
        | fail)
      · rename_i h1 h2 h3
        go_ret
        have hf := steady_fail hkl hag hst (by rw [h1]; have h4 : (gt l (k : Int)).cause ≠ (lkS (List.take k l) (gt l (k : Int)).node).cause := by simpa using h3
                                               unfold lkS at h4; simp [h4])
        exact ⟨by rw [hf]; rfl, w1, hr, (hnx.alloc hnx.size _).alloc (by simp; omega) _⟩
      · rename_i h1 h2 h3 h4
        have e1 : (⟨(gt l (k : Int)).node, (lkS (List.take k l) (gt l (k : Int)).node).err, (gt l (k : Int)).cause, (gt l (k : Int)).pos⟩ : Sgt) = gt l (k : Int) := by rw [← h2]
        rw [e1, gt_nat hkl, List.take_append_getElem hkl] at hown2
        have s2 := hgrow2.size
        simp at s2
        obtain ⟨g1, g2⟩ := steady_step hkl hag hst (by unfold lkS at h2 h3; simp only [bne_eq_false_iff_eq] at h3; rw [← h2, ← h3]; simp)
        exact ⟨⟨k + 1, by omega, by simp, hown2, g1, g2, ((hnx.alloc hnx.size _).alloc (by simp; omega) _).grown hgrow2 (by simp; omega) (fun j hj => by cases hj; exact Nat.le_refl _), by omega⟩, by simp [intOf]; omega⟩
      · rename_i h1 h2 h3 h4
        have e0 : (gt l (k : Int)).err = 0 := by rw [h2]; simpa using h4
        have hown2 := (((hown.alloc (.cells #[.int .i64 (gt l (k : Int)).node, .int .i64 (lkS (l.take k) (gt l (k : Int)).node).err, .int .i64 (gt l (k : Int)).cause, .int .i64 (gt l (k : Int)).pos] 135)).alloc
          (.cells #[.int .i64 (lkS (l.take k) (gt l (k : Int)).node).node, .int .i64 (lkS (l.take k) (gt l (k : Int)).node).err, .int .i64 (lkS (l.take k) (gt l (k : Int)).node).cause, .int .i64 (lkS (l.take k) (gt l (k : Int)).node).pos] 135)).skip e0).mono (Nat.le_succ k)
        rw [gt_nat hkl, List.take_append_getElem hkl] at hown2
        rw [← gt_nat hkl] at hown2
        obtain ⟨g1, g2⟩ := steady_step hkl hag hst (by unfold lkS at h2 h3; simp only [bne_eq_false_iff_eq] at h3; rw [← h2, ← h3]; simp)
        exact ⟨⟨k + 1, by omega, by simp, hown2, g1, g2, (hnx.alloc hnx.size _).alloc (by simp; omega) _, by simp; omega⟩, by simp [intOf]; omega⟩
      · rename_i h1 h2
        go_ret
        have hf := steady_fail hkl hag hst (by rw [h1]; unfold lkS at h2; simp [h2])
        exact ⟨by rw [hf]; rfl, w1, hr, (hnx.alloc hnx.size _).alloc (by simp; omega) _⟩
      · rename_i h1 h2
        rw [gt_nat hkl, List.take_append_getElem hkl] at hown2
        have s2 := hgrow2.size
        simp at s2
        obtain ⟨g1, g2⟩ := steady_step hkl hag hst (by simp [Bool.not_eq_true _ ▸ h1])
        exact ⟨⟨k + 1, by omega, by simp, hown2, g1, g2, ((hnx.alloc hnx.size _).alloc (by simp; omega) _).grown hgrow2 (by simp; omega) (fun j hj => by cases hj; exact Nat.le_refl _), by omega⟩, by simp [intOf]; omega⟩
      · rename_i h1 h2
        have e0 : (gt l (k : Int)).err = 0 := by simpa using h2
        have hown2 := (((hown.alloc (.cells #[.int .i64 (gt l (k : Int)).node, .int .i64 (gt l (k : Int)).err, .int .i64 (gt l (k : Int)).cause, .int .i64 (gt l (k : Int)).pos] 135)).alloc
          (.cells #[.int .i64 (lkS (l.take k) (gt l (k : Int)).node).node, .int .i64 (lkS (l.take k) (gt l (k : Int)).node).err, .int .i64 (lkS (l.take k) (gt l (k : Int)).node).cause, .int .i64 (lkS (l.take k) (gt l (k : Int)).node).pos] 135)).skip e0).mono (Nat.le_succ k)
        rw [gt_nat hkl, List.take_append_getElem hkl] at hown2
        rw [← gt_nat hkl] at hown2
        obtain ⟨g1, g2⟩ := steady_step hkl hag hst (by simp [Bool.not_eq_true _ ▸ h1])
        exact ⟨⟨k + 1, by omega, by simp, hown2, g1, g2, (hnx.alloc hnx.size _).alloc (by simp; omega) _, by simp; omega⟩, by simp [intOf]; omega⟩
    · have : k = l.length := by omega
      subst this
      go_wp2
      go_ret
      exact ⟨by rw [← hst, steady_end (Nat.le_refl _)]; rfl, w1, hr, hnx⟩
set_option maxRecDepth 100000 in
set_option maxHeartbeats 4000000 in
theorem steady_walk0 {W : World} {c0 c1 c2 c3 c4 c5 c6 c7 c8 c9 c10 c11 c12 c13 c15 c16 : Value} {a : Option Addr} {cap : Nat} {R : World → Prop}
    (hcal : Calls Tryz.prog 34 #[.agg #[c0, c1, c2, c3, c4, c5, c6, c7, c8, c9, c10, c11, c12, c13, .slice a 0 cap, c15, c16]] (W.alloc (Obj.cells #[c0, c1, c2, c3, c4, c5, c6, c7, c8, c9, c10, c11, c12, c13, .slice a 0 cap, c15, c16] 51))
      fun e w' => e = .returned (.bool true) ∧ R w')
    (hR : ∀ w1, R w1 → W.heap.size < w1.heap.size ∧ w1.cell? ⟨W.heap.size, 14, none⟩ = some (.slice a 0 cap)) :
    Calls Tryz.prog 20 #[.agg #[c0, c1, c2, c3, c4, c5, c6, c7, c8, c9, c10, c11, c12, c13, .slice a 0 cap, c15, c16]] W fun e w' => e = .returned (.bool true) ∧ ∃ w1, R w1 ∧ Below w1.heap.size w1 w' := by
  have hmm := @run_makeMap Tryz.prog
  go_enter Tryz.func20, Tryz.ntmps20
  go_wp2_with (go_at_call 34; refine hcal.mono ?_; rintro e w1 ⟨rfl, hr⟩; obtain ⟨hlt, hld⟩ := hR w1 hr)
  refine wp_loop_rounds 1 ?_
  rw [rounds_succ]
  go_wp2
  go_ret
  exact ⟨rfl, w1, hr, (Below.refl _ _).alloc (Nat.le_refl _) _⟩
set_option maxRecDepth 100000 in
set_option maxHeartbeats 4000000 in
theorem steady_not {W : World} {c0 c1 c2 c3 c4 c5 c6 c7 c8 c9 c10 c11 c12 c13 c14 c15 c16 : Value} {R : World → Prop}
    (hcal : Calls Tryz.prog 34 #[.agg #[c0, c1, c2, c3, c4, c5, c6, c7, c8, c9, c10, c11, c12, c13, c14, c15, c16]] (W.alloc (Obj.cells #[c0, c1, c2, c3, c4, c5, c6, c7, c8, c9, c10, c11, c12, c13, c14, c15, c16] 51))
      fun e w' => e = .returned (.bool false) ∧ R w') :
    Calls Tryz.prog 20 #[.agg #[c0, c1, c2, c3, c4, c5, c6, c7, c8, c9, c10, c11, c12, c13, c14, c15, c16]] W fun e w' => e = .returned (.bool false) ∧ ∃ w1, R w1 ∧ Below w1.heap.size w1 w' := by
  go_enter Tryz.func20, Tryz.ntmps20
  go_wp2_with (go_at_call 34; refine hcal.mono ?_; rintro e w1 ⟨rfl, hr⟩)
  go_ret
  exact ⟨rfl, w1, hr, Below.refl _ _⟩
theorem cells17 {cs : Array Value} (h : cs.size = 17) : ∃ c0 c1 c2 c3 c4 c5 c6 c7 c8 c9 c10 c11 c12 c13 c14 c15 c16, cs = #[c0, c1, c2, c3, c4, c5, c6, c7, c8, c9, c10, c11, c12, c13, c14, c15, c16] := by
  obtain ⟨l⟩ := cs
  match l, h with
  | [c0, c1, c2, c3, c4, c5, c6, c7, c8, c9, c10, c11, c12, c13, c14, c15, c16], _ => exact ⟨c0, c1, c2, c3, c4, c5, c6, c7, c8, c9, c10, c11, c12, c13, c14, c15, c16, rfl⟩
theorem c_SteadyIn {w : Wld} : PC ctx.P 20 [.agg (wldV (fun _ => true) w)] (.bool (stedy w)) := by
  refine PC.ofExt (P := Tryz.prog) ⟨_, Tryz.func20, rfl, rfl⟩ fun h nx ρ I W vs hnm H hv => ?_
  obtain ⟨c, rfl⟩ : ∃ c, vs = #[c] := by
    obtain ⟨l⟩ := vs
    have h1 := hv.1
    match l, h1 with
    | [c], _ => exact ⟨c, rfl⟩
  have h0 := hv.2 0 _ c rfl rfl
  obtain ⟨cs, hsz, hcs, rfl⟩ : ∃ cs : Array Value, cs.size = 17 ∧ (∀ (i : Nat) x u, (wldV (fun _ => true) w)[i]? = some x → cs[i]? = some u → VR ρ I W x u) ∧ c = .agg cs := by
    cases h0 with
    | agg _ vs h1 h2 => exact ⟨vs, h1, h2, rfl⟩
  obtain ⟨c0, c1, c2, c3, c4, c5, c6, c7, c8, c9, c10, c11, c12, c13, c14, c15, c16, rfl⟩ := cells17 hsz
  have hc14 : VR ρ I W (.view true 4 (w.sights.map sgtC)) c14 := hcs 14 _ _ rfl rfl
  clear hcs h0 hsz
  have bel0 : Below W.heap.size W (W.alloc (Obj.cells #[c0, c1, c2, c3, c4, c5, c6, c7, c8, c9, c10, c11, c12, c13, c14, c15, c16] 51)) := (Below.refl _ _).alloc (Nat.le_refl _) _
  obtain ⟨H0, E0⟩ := H.below bel0
  have hcal := PC.calls (c_WorldOk (w := w) (F := fun _ => true)) hnm H0 (hv.ext E0 H)
  have fin : ∀ {bb : Bool} {e : Ending} {w' : World}, (e = .returned (.bool bb) ∧ ∃ w1, (∃ I', HRel ρ I' w1 h ∧ Ext h ρ I (W.alloc (Obj.cells #[c0, c1, c2, c3, c4, c5, c6, c7, c8, c9, c10, c11, c12, c13, c14, c15, c16] 51)) h ρ I' w1) ∧ Below w1.heap.size w1 w') →
      e = .returned (.bool bb) ∧ ∃ I' w1, HRel ρ I' w1 h ∧ Ext h ρ I W h ρ I' w1 ∧ Below w1.heap.size w1 w' := fun ⟨h1, w1, ⟨I', h2, h3⟩, h4⟩ => ⟨h1, I', w1, h2, E0.trans h3, h4⟩
  have hbox : ∀ I' w1, Ext h ρ I (W.alloc (Obj.cells #[c0, c1, c2, c3, c4, c5, c6, c7, c8, c9, c10, c11, c12, c13, c14, c15, c16] 51)) h ρ I' w1 → W.heap.size < w1.heap.size ∧ w1.cell? ⟨W.heap.size, 14, none⟩ = some c14 := fun I' w1 E1 => by
    have s1 := E1.size
    simp at s1
    refine ⟨by omega, ?_⟩
    rw [World.cell?_of_block (w := W.alloc (Obj.cells #[c0, c1, c2, c3, c4, c5, c6, c7, c8, c9, c10, c11, c12, c13, c14, c15, c16] 51)) (E1.frame W.heap.size (by simp) fun ho => absurd (H.owns_lt ho) (Nat.lt_irrefl _))]
    simp
  cases hw : wldOk w with
  | false =>
    rw [hw] at hcal
    rw [show stedy w = false by simp [stedy, hw]]
    exact (steady_not hcal).mono fun e w' q => fin q
  | true =>
    rw [hw] at hcal
    rw [show stedy w = steadyL [] w.sights by simp [stedy, hw]]
    have hsg : ∀ s ∈ w.sights, 0 ≤ s.node ∧ s.node ≤ 1048576 := fun s hs => by
      obtain ⟨i, hi, rfl⟩ := List.mem_iff_getElem.1 hs
      have h1 := wldOk_sight hw (i := (i : Int)) (by omega) (by omega)
      have h2 := treeOk_len (wldOk_tree hw)
      rw [gt_nat hi] at h1
      omega
    have hsl : w.sights.length ≤ 1048576 := Nat.le_trans (wldOk_all hw).2.2.2.2.2.2.2.2.2.2.2.2.2.2.1 (by omega)
    generalize hl : w.sights = l at *
    generalize hxs : l.map sgtC = xs at hc14
    cases hc14 with
    | viewNil _ _ a cap =>
      rw [List.map_eq_nil_iff] at hxs
      subst hxs
      exact (steady_walk0 hcal fun w1 ⟨I', h1, h2⟩ => hbox I' w1 h2).mono fun e w' q => fin q
    | view _ _ _ b off cap hI _ _ _ h5 h6 =>
      subst hxs
      rw [List.length_map] at *
      refine (steady_walk hcal (fun w1 ⟨I', h1, h2⟩ => ?_) hsg hsl).mono fun e w' q => fin q
      obtain ⟨g1, g2⟩ := hbox I' w1 h2
      have hb := (E0.trans h2).frame b (H.immlt _ b hI) (H.not_imm hI)
      have key : ∀ (k j : Nat) (z : Int), get2 (l.map sgtC) k j = some (.int .i64 z) → w1.cell? ⟨b, off + k * 4 + j, none⟩ = some (.int .i64 z) := fun k j z hz => by
        rw [World.cell?_of_block (w := W) hb]
        obtain ⟨u, hu⟩ := h5 k j _ hz
        have := h6 k j _ u hz hu
        cases this
        exact hu
      refine ⟨g1, g2, Nat.lt_of_lt_of_le (H.immlt _ b hI) (E0.trans h2).size, fun k hk => ?_⟩
      have hg : (l.map sgtC)[k]? = some (sgtC (gt l (k : Int))) := by rw [List.getElem?_map, gt_nat hk, List.getElem?_eq_getElem hk]; rfl
      exact ⟨key k 0 _ (by rw [get2, hg]; rfl), key k 1 _ (by rw [get2, hg]; rfl), key k 2 _ (by rw [get2, hg]; rfl), key k 3 _ (by rw [get2, hg]; rfl)⟩
end Go.AE.Tryz
end

section
/- Contracts of the reference's readers: slots, heaps, timers. -/
set_option maxRecDepth 8000
set_option maxHeartbeats 2000000
namespace Go.AE.Tryz
open Go.Proofs
open List (map_take map_drop map_tail)

theorem s_l1In {x lo hi : Int} : PC ctx.P 225 [.int .i64 x, .int .i64 lo, .int .i64 hi] (.bool (inR x lo hi)) := by
  refine PC.o okC Tryz.func225 rfl (.bool _) fun h nx hnx => ?_
  try simp [-map_take, -map_drop, -map_tail, rgs, inR]
  repeat' first | done | ((with_reducible refine guardS_split ?_ ?_) <;> intro qb <;> (have qp := qb; try simp only [psq] at qp) <;> simp [-map_take, -map_drop, -map_tail, rgs, inR, qb])
theorem s_SlotsOk {F : Nat → Bool} {s : Slt} : PC ctx.P 394 [.agg (sltV F s)] (.bool (sltOk s)) := by
  refine PC.lim (n := s.ages.length) (x := .agg (sltV F s)) (by simp) (.agg (x := .view (F 8) 1 (s.ages.map iv)) (by simp [sltV]) (.here (by simp))) ⟨_, Tryz.func394, by kernel_rfl, by kernel_rfl⟩ fun hlim => ?_
  refine PC.o okC Tryz.func394 rfl (.bool _) fun h nx hnx => ?_
  try simp [-map_take, -map_drop, -map_tail, rgs, sltV]
  repeat' first | done | ((first | ((with_reducible show lenS _ _ _ _ _ _); refine lenS_slice rfl fun _ => ?_) | ((with_reducible show doCall _ _ _ 225 _ _); refine call_pc (s_l1In) ?_)) <;> simp [-map_take, -map_drop, -map_tail, rgs, sltV]) | ((first | (with_reducible refine guardS_split ?_ ?_) | (with_reducible refine condS_split ?_ ?_)) <;> intro qb <;> (have qp := qb; try simp only [psq] at qp) <;> simp [-map_take, -map_drop, -map_tail, rgs, sltV, qb])
  all_goals first | (clear hnx; simp [sltOk]; grind) | skip
  refine go_upP [2, 3, 18, 19, 20, 21, 22, 23, 24, 25, 26, 27, 28, 29, 30, 31] (s.ages.length) (fun (i : Nat) a => [(3, .int .i64 i)]) (fun i_ a_ h_ _ => (fun i (_ : Unit) _ => ((s.ages.drop i).any fun a => !inR a 0 1000000) = s.ages.any fun a => !inR a 0 1000000) i_ a_ h_) (()) (by simp) ?_ keep_rfl (Nat.le_refl _) ?_
  · simp
  · intro i a tm h' n' hle hJ hE hn' next hnx
    try dsimp only at hJ
    have hK : KeepB nx h' h := KeepB.sub hE keepA (by omega)
    simp [-map_take, -map_drop, -map_tail]
    have e1 : h' (nx) = some (.obj (sltV F s)) := by have := hE (nx) (by omega); simpa [sltV] using this
    have e1n : ∀ k, ((nx) = n' + k) = False := fun k => by simp only [eq_iff_iff, iff_false]; omega
    have e1m : ((nx) = n') = False := by simp only [eq_iff_iff, iff_false]; omega
    try simp [-map_take, -map_drop, -map_tail, rgs, sltV, iv, e1, e1n, e1m]
    repeat' first | done | ((first | ((with_reducible show lenS _ _ _ _ _ _); refine lenS_slice rfl fun _ => ?_) | ((with_reducible show iaddrS _ _ _ _ _ _ _); refine iaddr_map rfl omA omA ?_) | ((with_reducible show doCall _ _ _ 225 _ _); refine call_pc (s_l1In) ?_)) <;> simp [-map_take, -map_drop, -map_tail, rgs, sltV, iv, e1, e1n, e1m]) | ((with_reducible refine condS_split ?_ ?_) <;> intro qb <;> (have qp := qb; try simp only [psq] at qp) <;> simp [-map_take, -map_drop, -map_tail, rgs, sltV, iv, e1, e1n, e1m, qb])
    all_goals
      first
      | (have hlt : i < s.ages.length := (by first | omega | (simp at *; omega))
         rw [drop_gt hlt] at hJ
         first
         | (refine hnx.go (()) ?_ ?_ ?_ ?_ ?_ ?_; omega; (simp [wrap_succ hlt hlim]); (simp); exact keepA; (first | omega | (simp; omega)); (try dsimp only); clear hnx; first | ((try simp only [List.drop_length, Int.toNat_natCast, List.any_cons, List.any_nil, sltOk] at hJ ⊢); grind) | (simp_all [List.any_cons, List.any_nil, sltOk]; done) | (simp_all; omega))
         | (refine ⟨?_, keepA⟩; clear hnx; first | ((try simp only [List.drop_length, Int.toNat_natCast, List.any_cons, List.any_nil, sltOk] at hJ ⊢); grind) | (simp_all [List.any_cons, List.any_nil, sltOk]; done) | (simp_all; omega)))
      | (obtain rfl : i = s.ages.length := (by first | omega | (simp at *; omega))
         refine ⟨?_, keepA⟩; clear hnx; first | ((try simp only [List.drop_length, Int.toNat_natCast, List.any_cons, List.any_nil, sltOk] at hJ ⊢); grind) | (simp_all [List.any_cons, List.any_nil, sltOk]; done) | (simp_all; omega))
theorem s_UsedIn {F : Nat → Bool} {s : Slt} : PC ctx.P 395 [.agg (sltV F s)] (.int .i64 (if sltOk s then cntB id s.used else -1)) := by
  refine PC.lim (n := s.used.length) (x := .agg (sltV F s)) (by simp) (.agg (x := .view (F 9) 1 (s.used.map bv)) (by simp [sltV]) (.here (by simp))) ⟨_, Tryz.func395, by kernel_rfl, by kernel_rfl⟩ fun hlim => ?_
  refine PC.o okC Tryz.func395 rfl (.int _ _) fun h nx hnx => ?_
  try simp [-map_take, -map_drop, -map_tail, rgs, sltV]
  repeat' first | done | (((with_reducible show doCall _ _ _ 394 _ _); refine call_pc (s_SlotsOk (s := s) (F := F)) ?_) <;> simp [-map_take, -map_drop, -map_tail, rgs, sltV]) | ((with_reducible refine condS_split ?_ ?_) <;> intro qb <;> (have qp := qb; try simp only [psq] at qp) <;> simp [-map_take, -map_drop, -map_tail, rgs, sltV, qb])
  all_goals first | (clear hnx; simp_all; done) | skip
  refine go_upP [3, 4, 8, 9, 10, 11, 12, 13, 14, 15, 16, 17, 18, 19, 20, 21] (s.used.length) (fun (i : Nat) a => [(4, .int .i64 i), (3, .int .i64 a)]) (fun i_ a_ h_ _ => (fun i (a : Int) _ => a + cntB id (s.used.drop i) = cntB id s.used ∧ 0 ≤ a ∧ a ≤ i) i_ a_ h_) (0) (by simp) ?_ keep_rfl (Nat.le_refl _) ?_
  · simp
  · intro i a tm h' n' hle hJ hE hn' next hnx
    try dsimp only at hJ
    have hK : KeepB nx h' h := KeepB.sub hE keepA (by omega)
    simp [-map_take, -map_drop, -map_tail]
    have e1 : h' (nx) = some (.obj (sltV F s)) := by have := hE (nx) (by omega); simpa [sltV] using this
    have e1n : ∀ k, ((nx) = n' + k) = False := fun k => by simp only [eq_iff_iff, iff_false]; omega
    have e1m : ((nx) = n') = False := by simp only [eq_iff_iff, iff_false]; omega
    try simp [-map_take, -map_drop, -map_tail, rgs, sltV, bv, e1, e1n, e1m]
    repeat' first | done | ((first | ((with_reducible show lenS _ _ _ _ _ _); refine lenS_slice rfl fun _ => ?_) | ((with_reducible show iaddrS _ _ _ _ _ _ _); refine iaddr_map rfl omA omA ?_)) <;> simp [-map_take, -map_drop, -map_tail, rgs, sltV, bv, e1, e1n, e1m]) | ((with_reducible refine condS_split ?_ ?_) <;> intro qb <;> (have qp := qb; try simp only [psq] at qp) <;> simp [-map_take, -map_drop, -map_tail, rgs, sltV, bv, e1, e1n, e1m, qb])
    · rw [drop_gt (by omega)] at hJ
      refine hnx.go (a + 1) (by omega) (by simp [wrap_succ (i := i) (n := s.used.length) (by omega) hlim, i64_ok (x := a + 1) (by simp only [LIM] at hlim; omega)]) (by simp) keepA (by first | omega | (simp; omega)) ?_
      try dsimp only
      simp [cntB, qb] at hJ ⊢
      omega
    · rw [drop_gt (by omega)] at hJ
      refine hnx.go (a) (by omega) (by simp [wrap_succ (i := i) (n := s.used.length) (by omega) hlim]) (by simp) keepA (by first | omega | (simp; omega)) ?_
      try dsimp only
      simp [cntB, qb] at hJ ⊢
      omega
    · refine ⟨?_, keepA⟩
      rw [List.drop_eq_nil_of_le (by omega)] at hJ
      simp [cntB, *] at hJ ⊢
      omega
theorem s_Holds {F : Nat → Bool} {s : Slt} {x : Han} : PC ctx.P 396 [.agg (sltV F s), .agg (hanC x)] (.bool (sltOk s && sltHolds s x)) := by
  refine PC.lim (n := s.ages.length) (x := .agg (sltV F s)) (by simp) (.agg (x := .view (F 8) 1 (s.ages.map iv)) (by simp [sltV]) (.here (by simp))) ⟨_, Tryz.func396, by kernel_rfl, by kernel_rfl⟩ fun hlim => ?_
  by_cases hs : sltOk s = true
  · have hl := sltOk_len hs
    refine PC.o okC Tryz.func396 rfl (.bool _) fun h nx hnx => ?_
    try simp [-map_take, -map_drop, -map_tail, rgs, sltV, hanC, iv, bv, hs, wrap_pred hlim]
    repeat' first | done | ((first | ((with_reducible show iaddrS _ _ _ _ _ _ _); refine iaddr_map rfl omA omA ?_) | ((with_reducible show doCall _ _ _ 394 _ _); refine call_pc (s_SlotsOk (s := s) (F := F)) ?_) | ((with_reducible show doCall _ _ _ 225 _ _); refine call_pc (s_l1In) ?_) | (with_reducible refine go_draw (i := 1) [(0, [], []), (1, [], []), (2, [], []), (3, [], []), (4, [], []), (5, [], []), (6, [], []), (7, [], []), (8, [], []), (9, [], []), (10, [], []), (11, [], []), (12, [], []), (13, [], []), (14, [], []), (15, [], []), (16, [], []), (17, [], []), (18, [], []), (19, [], []), (20, [], []), (21, [], []), (22, [], []), (23, [], []), (24, [], []), (25, [], []), (26, [], []), (27, [], []), (28, [], []), (29, [], []), (30, [], [])] (by kernel_rfl) ?_)) <;> simp [-map_take, -map_drop, -map_tail, rgs, sltV, hanC, iv, bv, hs, wrap_pred hlim]) | ((with_reducible refine guardD_split ?_ ?_) <;> intro qb <;> (have qp := qb; try simp only [psq] at qp) <;> simp [-map_take, -map_drop, -map_tail, rgs, sltV, hanC, iv, bv, hs, wrap_pred hlim, qb])
    all_goals (try clear hnx)
    all_goals (simp_all [sltHolds, isIn]; done)
  · refine PC.o okC Tryz.func396 rfl (.bool _) fun h nx hnx => ?_
    try simp [-map_take, -map_drop, -map_tail, rgs, hs]
    repeat' first | done | ((first | ((with_reducible show doCall _ _ _ 394 _ _); refine call_pc (s_SlotsOk (s := s) (F := F)) ?_) | (with_reducible refine go_draw (i := 1) [(0, [], []), (1, [], []), (2, [], []), (3, [], []), (4, [], []), (5, [], []), (6, [], []), (7, [], []), (8, [], []), (9, [], []), (10, [], []), (11, [], []), (12, [], []), (13, [], []), (14, [], []), (15, [], []), (16, [], []), (17, [], []), (18, [], []), (19, [], []), (20, [], []), (21, [], []), (22, [], []), (23, [], []), (24, [], []), (25, [], []), (26, [], []), (27, [], []), (28, [], []), (29, [], []), (30, [], [])] (by kernel_rfl) ?_)) <;> simp [-map_take, -map_drop, -map_tail, rgs, hs]) | fail
    all_goals (try clear hnx)
end Go.AE.Tryz
end

section
/- Contracts of the reference's readers: heaps, timers, trees, events. -/
set_option maxRecDepth 8000
set_option maxHeartbeats 4000000
namespace Go.AE.Tryz
open Go.Proofs
open List (map_take map_drop map_tail)

theorem s_l3Ahead {a b : Twg} : PC ctx.P 464 [.agg (twgC a), .agg (twgC b)] (.bool (decide (twgCmp a b < 0))) := by
  rw [twgCmp_lt]
  refine PC.o okC Tryz.func464 rfl (.bool _) fun h nx hnx => ?_
  try simp [-map_take, -map_drop, -map_tail, rgs, twgC]
  repeat' first | done | ((with_reducible refine guardS_split ?_ ?_) <;> intro qb <;> (have qp := qb; try simp only [psq] at qp) <;> simp [-map_take, -map_drop, -map_tail, rgs, twgC, qb])
  all_goals (try clear hnx)
theorem s_l3Parts {p : Bool} {l : List Twg} (hp : 0 < l.length) (h0 : 0 ≤ (gt l 0).lefts) (h1 : (gt l 0).lefts < l.length) :
    PC ctx.P 463 [.view p 3 (l.map twgC)] (.tup [.view p 3 ((l.tail.take (gt l 0).lefts.toNat).map twgC), .view p 3 ((l.drop ((gt l 0).lefts.toNat + 1)).map twgC), .bool true]) := by
  refine PC.lim (n := l.length) (x := .view p 3 (l.map twgC)) (by simp) (.here (by simp)) ⟨_, Tryz.func463, by kernel_rfl, by kernel_rfl⟩ fun hlim => ?_
  simp only [LIM] at hlim
  have q1 : (1 + (gt l 0).lefts).toNat = (gt l 0).lefts.toNat + 1 := by omega
  have q2 : inR (gt l 0).lefts 0 ((l.length : Int) - 1) = true := by rw [inR_true]; omega
  refine PC.o okC Tryz.func463 rfl (.tup _ (by simp [-List.map_take, -List.map_drop]; exact ⟨.vmap twgC_fz, .vmap twgC_fz⟩)) fun h nx hnx => ?_
  try simp [-map_take, -map_drop, -map_tail, rgs, twgC, i64_ok (x := 1 + (gt l 0).lefts) (by omega), i64_ok (x := (l.length : Int) - 1) (by omega), q1, q2]
  repeat' first | done | ((first | ((with_reducible show lenS _ _ _ _ _ _); refine lenS_slice rfl fun _ => ?_) | ((with_reducible show iaddrS _ _ _ _ _ _ _); refine iaddr_map rfl omA omA ?_) | ((with_reducible show sliceI _ _ _ _ _ _ _ _ _ _ _); refine sliceI_from rfl omA omA ?_) | ((with_reducible show sliceI _ _ _ _ _ _ _ _ _ _ _); refine sliceI_mid rfl omA omA omA ?_) | ((with_reducible show doCall _ _ _ 225 _ _); refine call_pc (s_l1In) ?_) | (with_reducible refine go_draw (i := 4) [(0, [], []), (1, [], []), (2, [], []), (3, [], []), (4, [], []), (5, [], []), (6, [], []), (7, [], []), (8, [], []), (9, [], []), (10, [], [])] (by kernel_rfl) ?_)) <;> simp [-map_take, -map_drop, -map_tail, rgs, twgC, i64_ok (x := 1 + (gt l 0).lefts) (by omega), i64_ok (x := (l.length : Int) - 1) (by omega), q1, q2]) | fail
theorem s_l3PartsN {p : Bool} {l : List Twg} (hp : 0 < l.length) (h0 : ¬ (0 ≤ (gt l 0).lefts ∧ (gt l 0).lefts < l.length)) :
    PC ctx.P 463 [.view p 3 (l.map twgC)] (.tup [.view true 3 [], .view true 3 [], .bool false]) := by
  refine PC.lim (n := l.length) (x := .view p 3 (l.map twgC)) (by simp) (.here (by simp)) ⟨_, Tryz.func463, by kernel_rfl, by kernel_rfl⟩ fun hlim => ?_
  simp only [LIM] at hlim
  have q2 : inR (gt l 0).lefts 0 ((l.length : Int) - 1) = false := by rw [inR_false]; omega
  refine PC.o okC Tryz.func463 rfl (.tup _ (by simp; exact .view' (by simp))) fun h nx hnx => ?_
  try simp [-map_take, -map_drop, -map_tail, rgs, twgC, i64_ok (x := (l.length : Int) - 1) (by omega), q2]
  repeat' first | done | ((first | ((with_reducible show lenS _ _ _ _ _ _); refine lenS_slice rfl fun _ => ?_) | ((with_reducible show iaddrS _ _ _ _ _ _ _); refine iaddr_map rfl omA omA ?_) | ((with_reducible show doCall _ _ _ 225 _ _); refine call_pc (s_l1In) ?_)) <;> simp [-map_take, -map_drop, -map_tail, rgs, twgC, i64_ok (x := (l.length : Int) - 1) (by omega), q2]) | fail
theorem s_l3RankN {p : Bool} : ∀ (n : Nat) (l : List Twg), l.length ≤ n → PC ctx.P 443 [.view p 3 (l.map twgC)] (.int .i64 (rkI l)) := by
  intro n
  induction n with
  | zero =>
    intro l hl
    obtain rfl : l = [] := by simpa using hl
    refine PC.o okC Tryz.func443 rfl (.int _ _) fun h nx hnx => ?_
    try simp [-map_take, -map_drop, -map_tail, rgs, rkI_nil]
    repeat' first | done | (((with_reducible show lenS _ _ _ _ _ _); refine lenS_slice rfl fun _ => ?_) <;> simp [-map_take, -map_drop, -map_tail, rgs, rkI_nil]) | fail
  | succ n ih =>
    intro l hl
    refine PC.lim (n := l.length) (x := .view p 3 (l.map twgC)) (by simp) (.here (by simp)) ⟨_, Tryz.func443, by kernel_rfl, by kernel_rfl⟩ fun hlim => ?_
    by_cases hp : 0 < l.length
    · by_cases hb : 0 ≤ (gt l 0).lefts ∧ (gt l 0).lefts < l.length
      · have i1 := ih (l.tail.take (gt l 0).lefts.toNat) (by simp; omega)
        have i2 := ih (l.drop ((gt l 0).lefts.toNat + 1)) (by simp; omega)
        have e := rkI_step hp hb.1 hb.2
        have hr := rkI_le (l.drop ((gt l 0).lefts.toNat + 1))
        simp only [LIM] at hlim
        simp only [List.length_drop] at hr
        refine PC.o okC Tryz.func443 rfl (.int _ _) fun h nx hnx => ?_
        try simp [-map_take, -map_drop, -map_tail, rgs, twgC, i64_ok (x := rkI (l.drop ((gt l 0).lefts.toNat + 1)) + 1) (by omega)]
        repeat' first | done | ((first | ((with_reducible show lenS _ _ _ _ _ _); refine lenS_slice rfl fun _ => ?_) | ((with_reducible show iaddrS _ _ _ _ _ _ _); refine iaddr_map rfl omA omA ?_) | ((with_reducible show doCall _ _ _ 463 _ _); refine call_pc (s_l3Parts hp hb.1 hb.2) ?_) | ((with_reducible show doCall _ _ _ 464 _ _); refine call_pc (s_l3Ahead (a := gt l 0)) ?_) | (refine call_pc (i1) ?_) | (refine call_pc (i2) ?_) | (with_reducible refine go_draw (i := 4) [(0, [], []), (1, [], []), (2, [], []), (3, [], []), (4, [], []), (5, [], []), (6, [], []), (7, [], []), (8, [], []), (9, [], []), (10, [], []), (11, [], []), (12, [], []), (13, [], []), (14, [], []), (15, [], []), (16, [], []), (17, [], []), (18, [], []), (19, [], []), (20, [], []), (21, [], []), (22, [], []), (23, [], []), (24, [], []), (25, [], []), (26, [], []), (27, [], []), (28, [], []), (29, [], []), (30, [], []), (31, [], [])] (by kernel_rfl) ?_)) <;> simp [-map_take, -map_drop, -map_tail, rgs, twgC, i64_ok (x := rkI (l.drop ((gt l 0).lefts.toNat + 1)) + 1) (by omega)]) | ((first | (with_reducible refine guardD_split ?_ ?_) | (with_reducible refine guardS_split ?_ ?_) | (with_reducible refine condS_split ?_ ?_)) <;> intro qb <;> (have qp := qb; try simp only [psq] at qp) <;> simp [-map_take, -map_drop, -map_tail, rgs, twgC, i64_ok (x := rkI (l.drop ((gt l 0).lefts.toNat + 1)) + 1) (by omega), qb])
        all_goals (clear ih i1 i2 hnx; rw [e]; grind)
      · have e := rkI_bad hp hb
        refine PC.o okC Tryz.func443 rfl (.int _ _) fun h nx hnx => ?_
        try simp [-map_take, -map_drop, -map_tail, rgs, e]
        repeat' first | done | ((first | ((with_reducible show lenS _ _ _ _ _ _); refine lenS_slice rfl fun _ => ?_) | ((with_reducible show doCall _ _ _ 463 _ _); refine call_pc (s_l3PartsN hp hb) ?_) | (with_reducible refine go_draw (i := 4) [(0, [], []), (1, [], []), (2, [], []), (3, [], []), (4, [], []), (5, [], []), (6, [], []), (7, [], []), (8, [], []), (9, [], []), (10, [], []), (11, [], []), (12, [], []), (13, [], []), (14, [], []), (15, [], []), (16, [], []), (17, [], []), (18, [], []), (19, [], []), (20, [], []), (21, [], []), (22, [], []), (23, [], []), (24, [], []), (25, [], []), (26, [], []), (27, [], []), (28, [], []), (29, [], []), (30, [], []), (31, [], [])] (by kernel_rfl) ?_)) <;> simp [-map_take, -map_drop, -map_tail, rgs, e]) | ((with_reducible refine condS_split ?_ ?_) <;> intro qb <;> (have qp := qb; try simp only [psq] at qp) <;> simp [-map_take, -map_drop, -map_tail, rgs, e, qb])
        all_goals omega
    · obtain rfl : l = [] := by cases l <;> simp at hp ⊢
      refine PC.o okC Tryz.func443 rfl (.int _ _) fun h nx hnx => ?_
      try simp [-map_take, -map_drop, -map_tail, rgs, rkI_nil]
      repeat' first | done | (((with_reducible show lenS _ _ _ _ _ _); refine lenS_slice rfl fun _ => ?_) <;> simp [-map_take, -map_drop, -map_tail, rgs, rkI_nil]) | fail
theorem s_l3Rank {p : Bool} {l : List Twg} : PC ctx.P 443 [.view p 3 (l.map twgC)] (.int .i64 (rkI l)) := s_l3RankN _ _ (Nat.le_refl _)
theorem s_l3Twice {p : Bool} {l : List Twg} : PC ctx.P 442 [.view p 3 (l.map twgC)] (.bool (!seqsOk l)) := by
  refine PC.lim (n := l.length) (x := .view p 3 (l.map twgC)) (by simp) (.here (by simp)) ⟨_, Tryz.func442, by kernel_rfl, by kernel_rfl⟩ fun hlim => ?_
  refine PC.o okC Tryz.func442 rfl (.bool _) fun h nx hnx => ?_
  try simp [-map_take, -map_drop, -map_tail, rgs]
  refine go_upP [2, 3, 4, 5, 6, 7, 8, 9, 10, 11, 12, 13, 14, 15, 16, 17, 18, 19, 20, 21, 22, 23, 24, 25, 26] (l.length) (fun (i : Nat) a => [(3, .int .i64 i)]) (fun i_ a_ h_ _ => (fun i (_ : Unit) _ => allI (fun i x => !(decide (0 ≤ seqAt (l.take i.toNat) x.seq))) (l.drop i) i = seqsOk l) i_ a_ h_) (()) (by simp) ?_ keep_rfl (Nat.le_refl _) ?_
  · simp [seqsOk]
  · intro i a tm h' n' hle hJ hE hn' next hnx
    try dsimp only at hJ
    have hK : KeepB nx h' h := KeepB.sub hE keepA (by omega)
    simp [-map_take, -map_drop, -map_tail]
    repeat' first | done | (((with_reducible show lenS _ _ _ _ _ _); refine lenS_slice rfl fun _ => ?_) <;> simp [-map_take, -map_drop, -map_tail, rgs]) | ((with_reducible refine condS_split ?_ ?_) <;> intro qb <;> (have qp := qb; try simp only [psq] at qp) <;> simp [-map_take, -map_drop, -map_tail, rgs, qb])
    · refine go_upP [2, 4, 11, 12, 13, 14, 15, 16, 17, 18, 19, 20, 21, 22, 23, 24, 25, 26] (i) (fun (i : Nat) a => [(4, .int .i64 i)]) (fun i_ a_ h_ _ => (fun j (_ : Unit) _ => idxI (fun y => y.seq == (gt l (i : Int)).seq) ((l.take i).drop j) j = seqAt (l.take i) (gt l (i : Int)).seq) i_ a_ h_) (()) (by simp) ?_ keep_rfl (Nat.le_refl _) ?_
      · simp [seqAt]
      · intro j b tm2 h2 n2 hle2 hJ2 hE2 hn2 next2 hnx2
        try dsimp only at hJ2
        have hK2 : KeepB nx h2 h := KeepB.sub hE2 keepA (by omega)
        simp [-map_take, -map_drop, -map_tail]
        repeat' first | done | ((first | ((with_reducible show iaddrS _ _ _ _ _ _ _); refine iaddr_map rfl omA omA ?_) | (with_reducible refine go_draw (i := 7) [(0, [], []), (1, [], []), (2, [], []), (3, [], []), (4, [], []), (5, [], []), (6, [], []), (7, [], []), (8, [], []), (9, [], []), (10, [], [])] (by kernel_rfl) ?_)) <;> simp [-map_take, -map_drop, -map_tail, rgs, twgC]) | ((with_reducible refine condS_split ?_ ?_) <;> intro qb <;> (have qp := qb; try simp only [psq] at qp) <;> simp [-map_take, -map_drop, -map_tail, rgs, twgC, qb])
        · have r := idx_here (by omega) (by omega) hJ2 (by simp; omega)
          exact ⟨seqs_false (by omega) hJ (by omega), keepA⟩
        · refine hnx2.go () (by omega) (by simp [wrap_succ (show j < l.length by omega) hlim]) (by simp) keepA (by first | omega | (simp; omega)) ?_
          exact idx_on (by omega) (by omega) hJ2 (by simp; omega)
        · have r := idx_end (by omega) hJ2
          refine hnx.go () (by omega) (by simp [wrap_succ (show i < l.length by omega) hlim]) (by simp) keepA (by first | omega | (simp; omega)) ?_
          exact seqs_next (by omega) hJ (by omega)
    · refine ⟨?_, keepA⟩
      rw [List.drop_eq_nil_of_le (by omega)] at hJ
      exact hJ.symm
theorem s_HeapOk {p : Bool} {l : List Twg} : PC ctx.P 391 [.view p 3 (l.map twgC)] (.bool (heapOk l)) := by
  rw [heapOk_eq]
  refine PC.o okC Tryz.func391 rfl (.bool _) fun h nx hnx => ?_
  try simp [-map_take, -map_drop, -map_tail, rgs]
  repeat' first | done | ((first | ((with_reducible show lenS _ _ _ _ _ _); refine lenS_slice rfl fun _ => ?_) | ((with_reducible show doCall _ _ _ 442 _ _); refine call_pc (s_l3Twice) ?_) | ((with_reducible show doCall _ _ _ 443 _ _); refine call_pc (s_l3Rank) ?_)) <;> simp [-map_take, -map_drop, -map_tail, rgs]) | ((with_reducible refine guardS_split ?_ ?_) <;> intro qb <;> (have qp := qb; try simp only [psq] at qp) <;> simp [-map_take, -map_drop, -map_tail, rgs, qb])
  all_goals (try clear hnx)
  all_goals (simp_all []; omega)
theorem s_l4At {F : Nat → Bool} {t : Tms} {s : Int} : PC ctx.P 393 [.agg (tmsV F t), .int .i64 s] (.int .i64 (tmsAt t.list s)) := by
  refine PC.lim (n := t.list.length) (x := .agg (tmsV F t)) (by simp) (.agg (x := .view (F 7) 5 (t.list.map tmrC)) (by simp [tmsV]) (.here (by simp))) ⟨_, Tryz.func393, by kernel_rfl, by kernel_rfl⟩ fun hlim => ?_
  refine PC.o okC Tryz.func393 rfl (.int _ _) fun h nx hnx => ?_
  try simp [-map_take, -map_drop, -map_tail, rgs, tmsV]
  refine go_upP [4, 5, 6, 7, 8, 9, 10, 11, 12, 13, 14, 15, 16, 17, 18, 19, 20, 21] (t.list.length) (fun (i : Nat) a => [(5, .int .i64 i)]) (fun i_ a_ h_ _ => (fun i (_ : Unit) _ => idxI (fun x => x.seq == s) (t.list.drop i) i = tmsAt t.list s) i_ a_ h_) (()) (by simp) ?_ keep_rfl (Nat.le_refl _) ?_
  · simp [tmsAt]
  · intro i a tm h' n' hle hJ hE hn' next hnx
    try dsimp only at hJ
    have hK : KeepB nx h' h := KeepB.sub hE keepA (by omega)
    simp [-map_take, -map_drop, -map_tail]
    have e1 : h' (nx) = some (.obj (tmsV F t)) := by have := hE (nx) (by omega); simpa [tmsV] using this
    have e1n : ∀ k, ((nx) = n' + k) = False := fun k => by simp only [eq_iff_iff, iff_false]; omega
    have e1m : ((nx) = n') = False := by simp only [eq_iff_iff, iff_false]; omega
    try simp [-map_take, -map_drop, -map_tail, rgs, tmsV, tmrC, e1, e1n, e1m]
    repeat' first | done | ((first | ((with_reducible show lenS _ _ _ _ _ _); refine lenS_slice rfl fun _ => ?_) | ((with_reducible show iaddrS _ _ _ _ _ _ _); refine iaddr_map rfl omA omA ?_)) <;> simp [-map_take, -map_drop, -map_tail, rgs, tmsV, tmrC, e1, e1n, e1m]) | ((with_reducible refine condS_split ?_ ?_) <;> intro qb <;> (have qp := qb; try simp only [psq] at qp) <;> simp [-map_take, -map_drop, -map_tail, rgs, tmsV, tmrC, e1, e1n, e1m, qb])
    all_goals
      first
      | (have hlt : i < t.list.length := (by first | omega | (simp at *; omega))
         rw [drop_gt hlt] at hJ
         first
         | (refine hnx.go (()) ?_ ?_ ?_ ?_ ?_ ?_; omega; (simp [wrap_succ hlt hlim]); (simp); exact keepA; (first | omega | (simp; omega)); (try dsimp only); clear hnx; first | ((try simp only [List.drop_length, Int.toNat_natCast, idxI] at hJ ⊢); grind) | (simp_all [idxI]; done) | (simp_all; omega))
         | (refine ⟨?_, keepA⟩; clear hnx; first | ((try simp only [List.drop_length, Int.toNat_natCast, idxI] at hJ ⊢); grind) | (simp_all [idxI]; done) | (simp_all; omega)))
      | (obtain rfl : i = t.list.length := (by first | omega | (simp at *; omega))
         refine ⟨?_, keepA⟩; clear hnx; first | ((try simp only [List.drop_length, Int.toNat_natCast, idxI] at hJ ⊢); grind) | (simp_all [idxI]; done) | (simp_all; omega))
theorem s_l4Timer {x : Tmr} {n : Int} (h : -9223372036854775808 < n ∧ n < 9223372036854775808) : PC ctx.P 392 [.agg (tmrC x), .int .i64 n] (.bool (tmr1 x n)) := by
  refine PC.o okC Tryz.func392 rfl (.bool _) fun h nx hnx => ?_
  try simp [-map_take, -map_drop, -map_tail, rgs, tmrC, i64_ok (x := n - 1) (by omega)]
  repeat' first | done | (((with_reducible show doCall _ _ _ 225 _ _); refine call_pc (s_l1In) ?_) <;> simp [-map_take, -map_drop, -map_tail, rgs, tmrC, i64_ok (x := n - 1) (by omega)]) | ((with_reducible refine guardS_split ?_ ?_) <;> intro qb <;> (have qp := qb; try simp only [psq] at qp) <;> simp [-map_take, -map_drop, -map_tail, rgs, tmrC, i64_ok (x := n - 1) (by omega), qb])
  all_goals (try clear hnx)
  all_goals (simp_all [tmr1]; done)
theorem s_TimersOk {F : Nat → Bool} {t : Tms} : PC ctx.P 299 [.agg (tmsV F t)] (.bool (tmsOk t)) := by
  refine PC.lim (n := t.list.length) (x := .agg (tmsV F t)) (by simp) (.agg (x := .view (F 7) 5 (t.list.map tmrC)) (by simp [tmsV]) (.here (by simp))) ⟨_, Tryz.func299, by kernel_rfl, by kernel_rfl⟩ fun hlim => ?_
  refine PC.lim (n := t.heap.length) (x := .agg (tmsV F t)) (by simp) (.agg (x := .view (F 6) 3 (t.heap.map twgC)) (by simp [tmsV]) (.here (by simp))) ⟨_, Tryz.func299, by kernel_rfl, by kernel_rfl⟩ fun hlim2 => ?_
  refine PC.o okC Tryz.func299 rfl (.bool _) fun h nx hnx => ?_
  try simp [-map_take, -map_drop, -map_tail, rgs, tmsV]
  repeat' first | done | ((first | ((with_reducible show lenS _ _ _ _ _ _); refine lenS_slice rfl fun _ => ?_) | ((with_reducible show doCall _ _ _ 225 _ _); refine call_pc (s_l1In) ?_) | ((with_reducible show doCall _ _ _ 391 _ _); refine call_pc (s_HeapOk) ?_)) <;> simp [-map_take, -map_drop, -map_tail, rgs, tmsV]) | ((first | (with_reducible refine guardS_split ?_ ?_) | (with_reducible refine condS_split ?_ ?_)) <;> intro qb <;> (have qp := qb; try simp only [psq] at qp) <;> simp [-map_take, -map_drop, -map_tail, rgs, tmsV, qb])
  · all_goals (try clear hnx)
    all_goals (simp_all [tmsOk]; done)
  · simp [tmsOk]; omega
  · all_goals (try clear hnx)
    all_goals (simp_all [tmsOk]; done)
  · have hnl : -9223372036854775808 < t.next ∧ t.next < 9223372036854775808 := by omega
    refine go_upP [2, 3, 4, 23, 24, 25, 26, 27, 28, 29, 30, 31, 32, 33, 34, 35, 36, 37, 38, 39, 40, 41, 42, 43, 44, 45, 46, 47, 48, 49, 50, 51, 52, 53, 54, 55, 56, 57, 58, 59, 60, 61, 62, 63, 64, 65, 66] (t.list.length) (fun (i : Nat) a => [(4, .int .i64 i), (3, .int .i64 a.2)]) (fun i_ a_ h_ _ => (fun (i : Nat) (a : Int × Int) _ => a.1 = (if i = 0 then -1 else (gt t.list ((i : Int) - 1)).seq) ∧ -1 ≤ a.1 ∧ tmsRise t.next (t.list.drop i) a.1 = tmsRise t.next t.list (-1) ∧ a.2 + cntB (·.armed) (t.list.drop i) = cntB (·.armed) t.list ∧ 0 ≤ a.2 ∧ a.2 ≤ i) i_ a_ h_) ((-1, 0)) (by simp) ?_ keep_rfl (Nat.le_refl _) ?_
    · simp
    · intro i a tm h' n' hle hJ hE hn' next hnx
      try dsimp only at hJ
      have hK : KeepB nx h' h := KeepB.sub hE keepA (by omega)
      simp [-map_take, -map_drop, -map_tail]
      have e1 : h' (nx) = some (.obj (tmsV F t)) := by have := hE (nx) (by omega); simpa [tmsV] using this
      have e1n : ∀ k, ((nx) = n' + k) = False := fun k => by simp only [eq_iff_iff, iff_false]; omega
      have e1m : ((nx) = n') = False := by simp only [eq_iff_iff, iff_false]; omega
      simp only [LIM] at hlim
      try simp [-map_take, -map_drop, -map_tail, rgs, tmsV, tmrC, e1, e1n, e1m, i64_ok (x := (i : Int) - 1) (by omega)]
      repeat' first | done | ((first | ((with_reducible show lenS _ _ _ _ _ _); refine lenS_slice rfl fun _ => ?_) | ((with_reducible show iaddrS _ _ _ _ _ _ _); refine iaddr_map rfl omA omA ?_) | ((with_reducible show doCall _ _ _ 392 _ _); refine call_pc (s_l4Timer hnl) ?_) | (with_reducible refine go_draw (i := 7) [(0, [], []), (1, [], []), (2, [], []), (3, [], []), (4, [], []), (5, [], []), (6, [], []), (7, [], []), (8, [], []), (9, [], []), (10, [], []), (11, [], []), (12, [], []), (13, [], []), (14, [], []), (15, [], []), (16, [], []), (17, [], []), (18, [], []), (19, [], []), (20, [], []), (21, [], []), (22, [], []), (23, [], []), (24, [], []), (25, [], []), (26, [], []), (27, [], []), (28, [], [])] (by kernel_rfl) ?_)) <;> simp [-map_take, -map_drop, -map_tail, rgs, tmsV, tmrC, e1, e1n, e1m, i64_ok (x := (i : Int) - 1) (by omega)]) | ((first | (with_reducible refine guardD_split ?_ ?_) | (with_reducible refine condS_split ?_ ?_)) <;> intro qb <;> (have qp := qb; try simp only [psq] at qp) <;> simp [-map_take, -map_drop, -map_tail, rgs, tmsV, tmrC, e1, e1n, e1m, i64_ok (x := (i : Int) - 1) (by omega), qb])
      all_goals
        first
        | (have hlt : i < t.list.length := (by omega)
           obtain ⟨j0, j1, j2, j3, j4, j5⟩ := hJ
           rw [drop_gt hlt] at j2 j3
           simp only [tmsRise, cntB_cons] at j2 j3
           first
           | (refine ⟨?_, keepA⟩; clear hnx; simp only [tmsOk, tmr1, inR] at *; grind)
           | (refine hnx.go ((gt t.list (i : Int)).seq, a.2 + 1) ?_ ?_ ?_ ?_ ?_ ?_; omega; (simp [i64_ok (x := (i : Int) + 1) (by omega), i64_ok (x := a.2 + 1) (by omega)]); simp; exact keepA; (first | omega | (simp; omega)); (clear hnx; dsimp only; simp only [tmr1, inR] at *; grind))
           | (refine hnx.go ((gt t.list (i : Int)).seq, a.2) ?_ ?_ ?_ ?_ ?_ ?_; omega; (simp [i64_ok (x := (i : Int) + 1) (by omega)]); simp; exact keepA; (first | omega | (simp; omega)); (clear hnx; dsimp only; simp only [tmr1, inR] at *; grind)))
        | skip
      · have hfin : tmsRise t.next t.list (-1) = true ∧ a.2 = cntB (·.armed) t.list := by
          obtain ⟨j0, j1, j2, j3, j4, j5⟩ := hJ
          rw [List.drop_eq_nil_of_le (by omega)] at j2 j3
          simp only [tmsRise, cntB_nil] at j2 j3
          exact ⟨j2.symm, by omega⟩
        refine go_upP [2, 5, 6, 67, 68, 69, 70, 71, 72, 73, 74, 75, 76, 77, 78, 79, 80, 81, 82, 83, 84, 85, 86, 87, 88, 89, 90, 91, 92, 93, 94, 95, 96, 97, 98, 99, 100, 101, 102, 103, 104, 105, 106, 107] (t.heap.length) (fun (i : Nat) a => [(5, .int .i64 i)]) (fun i_ a_ h_ _ => (fun j (_ : Unit) _ => (t.heap.drop j).any (fun h => decide (tmsAt t.list h.seq < 0) || (!(gt t.list (tmsAt t.list h.seq)).armed || (gt t.list (tmsAt t.list h.seq)).due != h.due)) = t.heap.any (fun h => decide (tmsAt t.list h.seq < 0) || (!(gt t.list (tmsAt t.list h.seq)).armed || (gt t.list (tmsAt t.list h.seq)).due != h.due))) i_ a_ h_) (()) (by simp) ?_ keep_rfl (Nat.le_refl _) ?_
        · simp
        · intro j b tm2 h2 n2 hle2 hJ2 hE2 hn2 next2 hnx2
          try dsimp only at hJ2
          have hK2 : KeepB nx h2 h := KeepB.sub hE2 keepA (by omega)
          simp [-map_take, -map_drop, -map_tail]
          have hat := tmsAt_lt t.list (gt t.heap (j : Int)).seq
          have e2 := (hE2 (nx) (by omega)).trans e1
          have e2n : ∀ k, ((nx) = n2 + k) = False := fun k => by simp only [eq_iff_iff, iff_false]; omega
          have e2m : ((nx) = n2) = False := by simp only [eq_iff_iff, iff_false]; omega
          try simp [-map_take, -map_drop, -map_tail, rgs, tmsV, tmrC, twgC, e2, e2n, e2m]
          repeat' first | done | ((first | ((with_reducible show lenS _ _ _ _ _ _); refine lenS_slice rfl fun _ => ?_) | ((with_reducible show iaddrS _ _ _ _ _ _ _); refine iaddr_map rfl omA omA ?_) | ((with_reducible show doCall _ _ _ 393 _ _); refine call_pc (s_l4At (t := t) (F := F)) ?_) | (with_reducible refine go_draw (i := 14) [(0, [], []), (1, [], []), (2, [], []), (3, [], []), (4, [], []), (5, [], []), (6, [], []), (7, [], []), (8, [], [])] (by kernel_rfl) ?_) | (with_reducible refine go_draw (i := 15) [(0, [], []), (1, [], []), (2, [], []), (3, [], []), (4, [], []), (5, [], []), (6, [], []), (7, [], []), (8, [], []), (9, [], []), (10, [], []), (11, [], []), (12, [], []), (13, [], []), (14, [], []), (15, [], []), (16, [], []), (17, [], []), (18, [], []), (19, [], []), (20, [], []), (21, [], []), (22, [], []), (23, [], []), (24, [], []), (25, [], [])] (by kernel_rfl) ?_)) <;> simp [-map_take, -map_drop, -map_tail, rgs, tmsV, tmrC, twgC, e2, e2n, e2m]) | ((first | (with_reducible refine guardD_split ?_ ?_) | (with_reducible refine condS_split ?_ ?_)) <;> intro qb <;> (have qp := qb; try simp only [psq] at qp) <;> simp [-map_take, -map_drop, -map_tail, rgs, tmsV, tmrC, twgC, e2, e2n, e2m, qb])
          all_goals clear hJ hnx
          all_goals
            first
            | (have hlt : j < t.heap.length := (by first | omega | (simp at *; omega))
               rw [drop_gt hlt] at hJ2
               first
               | (refine hnx2.go (()) ?_ ?_ ?_ ?_ ?_ ?_; omega; (simp [wrap_succ hlt hlim2]); (simp); exact keepA; (first | omega | (simp; omega)); (try dsimp only); clear hnx2; first | ((try simp only [List.drop_length, Int.toNat_natCast, List.any_cons, List.any_nil, tmsOk] at hJ2 ⊢); grind) | (simp_all [List.any_cons, List.any_nil, tmsOk]; done) | (simp_all; omega))
               | (refine ⟨?_, keepA⟩; clear hnx2; first | ((try simp only [List.drop_length, Int.toNat_natCast, List.any_cons, List.any_nil, tmsOk] at hJ2 ⊢); grind) | (simp_all [List.any_cons, List.any_nil, tmsOk]; done) | (simp_all; omega)))
            | (obtain rfl : j = t.heap.length := (by first | omega | (simp at *; omega))
               refine ⟨?_, keepA⟩; clear hnx2; first | ((try simp only [List.drop_length, Int.toNat_natCast, List.any_cons, List.any_nil, tmsOk] at hJ2 ⊢); grind) | (simp_all [List.any_cons, List.any_nil, tmsOk]; done) | (simp_all; omega))

theorem s_l5Node {n : Nod} : PC ctx.P 332 [.agg (nodC n)] (.bool (nod1 n)) := by
  refine PC.o okC Tryz.func332 rfl (.bool _) fun h nx hnx => ?_
  try simp [-map_take, -map_drop, -map_tail, rgs, nodC]
  repeat' first | done | (((with_reducible show doCall _ _ _ 225 _ _); refine call_pc (s_l1In) ?_) <;> simp [-map_take, -map_drop, -map_tail, rgs, nodC]) | ((first | (with_reducible refine guardS_split ?_ ?_) | (with_reducible refine condS_split ?_ ?_)) <;> intro qb <;> (have qp := qb; try simp only [psq] at qp) <;> simp [-map_take, -map_drop, -map_tail, rgs, nodC, qb])
  all_goals (try clear hnx)
  all_goals (simp_all [nod1, never]; done)
theorem s_TreeOk {p : Bool} {t : List Nod} : PC ctx.P 221 [.view p 5 (t.map nodC)] (.bool (treeOk t)) := by
  rw [treeOk_eq]
  refine PC.lim (n := t.length) (x := .view p 5 (t.map nodC)) (by simp) (.here (by simp)) ⟨_, Tryz.func221, by kernel_rfl, by kernel_rfl⟩ fun hlim => ?_
  have hlim2 := hlim
  simp only [LIM] at hlim2
  refine PC.o okC Tryz.func221 rfl (.bool _) fun h nx hnx => ?_
  try simp [-map_take, -map_drop, -map_tail, rgs]
  repeat' first | done | (((with_reducible show lenS _ _ _ _ _ _); refine lenS_slice rfl fun _ => ?_) <;> simp [-map_take, -map_drop, -map_tail, rgs]) | ((with_reducible refine condS_split ?_ ?_) <;> intro qb <;> (have qp := qb; try simp only [psq] at qp) <;> simp [-map_take, -map_drop, -map_tail, rgs, qb])
  · simp_all; omega
  · refine go_upP [2, 3, 7, 8, 9, 10, 11, 12, 13, 14, 15, 16, 17, 18, 19, 20, 21, 22, 23, 24, 25, 26, 27, 28, 29, 30, 31, 32, 33, 34, 35, 36, 37, 38, 39] (t.length) (fun (i : Nat) a => [(3, .int .i64 i)]) (fun i_ a_ h_ _ => (fun i (_ : Unit) _ => allI (fun i n => isNode n i) (t.drop i) i = allI (fun i n => isNode n i) t 0) i_ a_ h_) (()) (by simp) ?_ keep_rfl (Nat.le_refl _) ?_
    · simp
    · intro i a tm h' n' hle hJ hE hn' next hnx
      try dsimp only at hJ
      have hK : KeepB nx h' h := KeepB.sub hE keepA (by omega)
      simp [-map_take, -map_drop, -map_tail]
      repeat' first | done | ((first | ((with_reducible show lenS _ _ _ _ _ _); refine lenS_slice rfl fun _ => ?_) | ((with_reducible show iaddrS _ _ _ _ _ _ _); refine iaddr_map rfl omA omA ?_) | ((with_reducible show doCall _ _ _ 332 _ _); refine call_pc (s_l5Node) ?_) | ((with_reducible show doCall _ _ _ 225 _ _); refine call_pc (s_l1In) ?_)) <;> simp [-map_take, -map_drop, -map_tail, rgs, nodC, i64_ok (x := (i : Int)) (by omega), i64_ok (x := (i : Int) - 1) (by omega)]) | ((with_reducible refine condS_split ?_ ?_) <;> intro qb <;> (have qp := qb; try simp only [psq] at qp) <;> simp [-map_take, -map_drop, -map_tail, rgs, nodC, i64_ok (x := (i : Int)) (by omega), i64_ok (x := (i : Int) - 1) (by omega), qb])
      all_goals
        first
        | (have hlt : i < t.length := (by first | omega | (simp at *; omega))
           rw [drop_gt hlt] at hJ
           first
           | (refine hnx.go (()) ?_ ?_ ?_ ?_ ?_ ?_; omega; (simp [wrap_succ hlt hlim]); (simp); exact keepA; (first | omega | (simp; omega)); (try dsimp only); clear hnx; first | ((try simp only [List.drop_length, Int.toNat_natCast, allI, isNode_eq] at hJ ⊢); grind) | (simp_all [allI, isNode_eq]; done) | (simp_all; omega))
           | (refine ⟨?_, keepA⟩; clear hnx; first | ((try simp only [List.drop_length, Int.toNat_natCast, allI, isNode_eq] at hJ ⊢); grind) | (simp_all [allI, isNode_eq]; done) | (simp_all; omega)))
        | (obtain rfl : i = t.length := (by first | omega | (simp at *; omega))
           refine ⟨?_, keepA⟩; clear hnx; first | ((try simp only [List.drop_length, Int.toNat_natCast, allI, isNode_eq] at hJ ⊢); grind) | (simp_all [allI, isNode_eq]; done) | (simp_all; omega))
theorem s_l5Has {p : Bool} {t : List Nod} {n : Int} : PC ctx.P 94 [.view p 5 (t.map nodC), .int .i64 n] (.bool (treeOk t && isIn n t)) := by
  refine PC.lim (n := t.length) (x := .view p 5 (t.map nodC)) (by simp) (.here (by simp)) ⟨_, Tryz.func94, by kernel_rfl, by kernel_rfl⟩ fun hlim => ?_
  refine PC.o okC Tryz.func94 rfl (.bool _) fun h nx hnx => ?_
  try simp [-map_take, -map_drop, -map_tail, rgs, wrap_pred hlim]
  repeat' first | done | ((first | ((with_reducible show lenS _ _ _ _ _ _); refine lenS_slice rfl fun _ => ?_) | ((with_reducible show doCall _ _ _ 221 _ _); refine call_pc (s_TreeOk) ?_) | ((with_reducible show doCall _ _ _ 225 _ _); refine call_pc (s_l1In) ?_)) <;> simp [-map_take, -map_drop, -map_tail, rgs, wrap_pred hlim]) | ((with_reducible refine guardS_split ?_ ?_) <;> intro qb <;> (have qp := qb; try simp only [psq] at qp) <;> simp [-map_take, -map_drop, -map_tail, rgs, wrap_pred hlim, qb])
  all_goals (try clear hnx)
  all_goals (simp_all [isIn]; done)
theorem s_l6In {p : Bool} {xs : List Int} {n : Int} : PC ctx.P 224 [.view p 1 (xs.map iv), .int .i64 n] (.bool (xs.contains n)) := by
  refine PC.lim (n := xs.length) (x := .view p 1 (xs.map iv)) (by simp) (.here (by simp)) ⟨_, Tryz.func224, by kernel_rfl, by kernel_rfl⟩ fun hlim => ?_
  refine PC.o okC Tryz.func224 rfl (.bool _) fun h nx hnx => ?_
  try simp [-map_take, -map_drop, -map_tail, rgs]
  refine go_upP [4, 5, 6, 7, 8, 9, 10, 11, 12, 13, 14, 15, 16, 17] (xs.length) (fun (i : Nat) a => [(5, .int .i64 i)]) (fun i_ a_ h_ _ => (fun i (_ : Unit) _ => ((xs.drop i).any fun x => x == n) = xs.contains n) i_ a_ h_) (()) (by simp) ?_ keep_rfl (Nat.le_refl _) ?_
  · simp [any_contains']
  · intro i a tm h' n' hle hJ hE hn' next hnx
    try dsimp only at hJ
    have hK : KeepB nx h' h := KeepB.sub hE keepA (by omega)
    simp [-map_take, -map_drop, -map_tail]
    repeat' first | done | ((first | ((with_reducible show lenS _ _ _ _ _ _); refine lenS_slice rfl fun _ => ?_) | ((with_reducible show iaddrS _ _ _ _ _ _ _); refine iaddr_map rfl omA omA ?_)) <;> simp [-map_take, -map_drop, -map_tail, rgs, iv]) | ((with_reducible refine condS_split ?_ ?_) <;> intro qb <;> (have qp := qb; try simp only [psq] at qp) <;> simp [-map_take, -map_drop, -map_tail, rgs, iv, qb])
    all_goals
      first
      | (have hlt : i < xs.length := (by first | omega | (simp at *; omega))
         rw [drop_gt hlt] at hJ
         first
         | (refine hnx.go (()) ?_ ?_ ?_ ?_ ?_ ?_; omega; (simp [wrap_succ hlt hlim]); (simp); exact keepA; (first | omega | (simp; omega)); (try dsimp only); clear hnx; first | ((try simp only [List.drop_length, Int.toNat_natCast, List.any_cons, List.any_nil] at hJ ⊢); grind) | (simp_all [List.any_cons, List.any_nil]; done) | (simp_all; omega))
         | (refine ⟨?_, keepA⟩; clear hnx; first | ((try simp only [List.drop_length, Int.toNat_natCast, List.any_cons, List.any_nil] at hJ ⊢); grind) | (simp_all [List.any_cons, List.any_nil]; done) | (simp_all; omega)))
      | (obtain rfl : i = xs.length := (by first | omega | (simp at *; omega))
         refine ⟨?_, keepA⟩; clear hnx; first | ((try simp only [List.drop_length, Int.toNat_natCast, List.any_cons, List.any_nil] at hJ ⊢); grind) | (simp_all [List.any_cons, List.any_nil]; done) | (simp_all; omega))
end Go.AE.Tryz
end

section
/- Contracts of the reference's readers: chains, events, functions, tasks, groups. -/
set_option maxRecDepth 8000
set_option maxHeartbeats 4000000
namespace Go.AE.Tryz
open Go.Proofs
open List (map_take map_drop map_tail)

theorem s_ChainOf {p : Bool} {t : List Nod} {n : Int} (ht : treeOk t = true) (h0 : 0 ≤ n) (h1 : n < t.length) : PC ctx.P 223 [.view p 5 (t.map nodC), .int .i64 n] (.view true 1 ((chain t n).map iv)) := by
  have hl60 := treeOk_len ht
  have hin : isIn n t = true := by rw [isIn_true]; omega
  refine PC.o okC Tryz.func223 rfl (.vmap iv_fz) fun h nx hnx => ?_
  try simp [-map_take, -map_drop, -map_tail, rgs, ht, hin]
  repeat' first | done | (((with_reducible show doCall _ _ _ 94 _ _); refine call_pc (s_l5Has) ?_) <;> simp [-map_take, -map_drop, -map_tail, rgs, ht, hin]) | fail
  refine go_dnP (h0 := h) (nx0 := nx) [4, 5, 6, 14, 15, 16, 17, 18, 19, 20, 21, 22, 23, 24, 25, 26, 27, 28, 29, 30, 31, 32, 33, 34, 35, 36, 37] (fun a => [(6, .int .i64 a.1), (5, .ref a.2.2 1 0 a.2.1.length)]) (fun a => a.1.toNat) (fun (a : Int × List Int × Nat) h' n' => 0 ≤ a.1 ∧ a.1 < t.length ∧ nx ≤ a.2.2 ∧ h' a.2.2 = some (.row 1 (a.2.1.map iv)) ∧ a.2.1 ++ chain t a.1 = chain t n ∧ (a.2.1.length : Int) + a.1 ≤ n ∧ a.2.2 < n') ((n, [], nx + 1)) (by simp) ?_ keepA (by omega) ?_
  · simp [h0, h1, iv]
  · intro a tm h' n' hJ hE hn' next hnx
    try dsimp only at hJ
    have hK : KeepB nx h' h := KeepB.sub hE keepA (by omega)
    obtain ⟨m, pre, id⟩ := a
    obtain ⟨g0, g1, g2, g3, g4, g5, g6⟩ := hJ
    dsimp only at g0 g1 g2 g3 g4 g5 g6 ⊢
    have hs := chain_step ht g0 g1
    have hu := treeOk_up ht g0 g1
    have k1 : ∀ k, (id = n' + k) = False := fun k => by simp only [eq_iff_iff, iff_false]; omega
    try simp [-map_take, -map_drop, -map_tail, rgs, nodC, g3, k1, iv]
    repeat' first | done | ((first | ((with_reducible show iaddrS _ _ _ _ _ _ _); refine iaddr_map rfl omA omA ?_) | ((with_reducible show appS _ _ _ _ _ _ _ _); refine app_end rfl rfl (by decide) (by decide) (by (simp [-map_take, -map_drop, -map_tail, rgs, nodC, g3, k1, iv]; rfl)) (by (simp [-map_take, -map_drop, -map_tail, rgs, nodC, g3, k1, iv]; rfl)) (by (simp; done)) (by (simp only [MLIM, LIM] at *; simp; omega)) (by simp [iv, bv]) ?_)) <;> simp [-map_take, -map_drop, -map_tail, rgs, nodC, g3, k1, iv]) | ((first | (with_reducible refine guardS_split ?_ ?_) | (with_reducible refine condS_split ?_ ?_)) <;> intro qb <;> (have qp := qb; try simp only [psq] at qp) <;> simp [-map_take, -map_drop, -map_tail, rgs, nodC, g3, k1, iv, qb])
    all_goals first
      | (refine ⟨?_, keepA⟩; rw [if_pos (by simp; omega)] at hs; rw [← g4, hs]; first | (rw [List.take_of_length_le (by simp)]; simp [iv]) | (simp [iv]))
      | (have hu' := hu (by omega)
         refine hnx.go ((gt t m).up, pre ++ [m], n' + 3) (by simp; omega) (by simp) (by simp) keepA (by first | omega | (simp; omega)) ?_
         dsimp only
         refine ⟨by omega, by omega, by omega, by simp [iv], ?_, by simp; omega, by simp⟩
         rw [if_neg (by simp; omega)] at hs
         rw [← g4, hs]; simp)
theorem s_IsDue {a b : Int} : PC ctx.P 333 [.int .i64 a, .int .i64 b] (.bool (isDue a b)) := by
  refine PC.o okC Tryz.func333 rfl (.bool _) fun h nx hnx => ?_
  try simp [-map_take, -map_drop, -map_tail, rgs, isDue, never]
  repeat' first | done | ((with_reducible refine guardS_split ?_ ?_) <;> intro qb <;> (have qp := qb; try simp only [psq] at qp) <;> simp [-map_take, -map_drop, -map_tail, rgs, isDue, never, qb])
theorem s_l6Event {p : Bool} {t : List Nod} {e : Evt} : PC ctx.P 222 [.view p 5 (t.map nodC), .agg (evtC e)] (.bool (isEvent t e)) := by
  refine PC.lim (n := t.length) (x := .view p 5 (t.map nodC)) (by simp) (.here (by simp)) ⟨_, Tryz.func222, by kernel_rfl, by kernel_rfl⟩ fun hlim => ?_
  refine PC.o okC Tryz.func222 rfl (.bool _) fun h nx hnx => ?_
  try simp [-map_take, -map_drop, -map_tail, rgs, evtC, nodC, wrap_pred hlim]
  repeat' first | done | ((first | ((with_reducible show lenS _ _ _ _ _ _); refine lenS_slice rfl fun _ => ?_) | ((with_reducible show iaddrS _ _ _ _ _ _ _); refine iaddr_map rfl omA omA ?_) | ((with_reducible show doCall _ _ _ 225 _ _); refine call_pc (s_l1In) ?_) | ((with_reducible show doCall _ _ _ 333 _ _); refine call_pc (s_IsDue) ?_)) <;> simp [-map_take, -map_drop, -map_tail, rgs, evtC, nodC, wrap_pred hlim]) | ((first | (with_reducible refine guardS_split ?_ ?_) | (with_reducible refine condS_split ?_ ?_)) <;> intro qb <;> (have qp := qb; try simp only [psq] at qp) <;> simp [-map_take, -map_drop, -map_tail, rgs, evtC, nodC, wrap_pred hlim, qb])
  all_goals (try clear hnx)
  all_goals (simp_all [isEvent, isIn]; done)
theorem s_l6First {p q : Bool} {t : List Nod} {l : List Evt} {n : Int} (ht : treeOk t = true) (h0 : 0 ≤ n) (h1 : n < t.length) :
    PC ctx.P 92 [.view p 5 (t.map nodC), .view q 4 (l.map evtC), .int .i64 n] (.int .i64 (idxI (fun e => (chain t n).contains e.node) l 0)) := by
  refine PC.lim (n := l.length) (x := .view q 4 (l.map evtC)) (by simp) (.here (by simp)) ⟨_, Tryz.func92, by kernel_rfl, by kernel_rfl⟩ fun hlim => ?_
  refine PC.o okC Tryz.func92 rfl (.int _ _) fun h nx hnx => ?_
  try simp [-map_take, -map_drop, -map_tail, rgs]
  repeat' first | done | (((with_reducible show doCall _ _ _ 223 _ _); refine call_pc (s_ChainOf ht h0 h1) ?_) <;> simp [-map_take, -map_drop, -map_tail, rgs]) | fail
  refine go_upP [6, 8, 12, 13, 14, 15, 16, 17, 18, 19, 20, 21, 22, 23, 24, 25] (l.length) (fun (i : Nat) a => [(8, .int .i64 i)]) (fun i_ a_ h_ _ => (fun i (_ : Unit) _ => idxI (fun e => (chain t n).contains e.node) (l.drop i) i = idxI (fun e => (chain t n).contains e.node) l 0) i_ a_ h_) (()) (by simp) ?_ keep_rfl (Nat.le_refl _) ?_
  · simp
  · intro i a tm h' n' hle hJ hE hn' next hnx
    try dsimp only at hJ
    have hK : KeepB nx h' h := KeepB.sub hE keepA (by omega)
    simp [-map_take, -map_drop, -map_tail]
    repeat' first | done | ((first | ((with_reducible show lenS _ _ _ _ _ _); refine lenS_slice rfl fun _ => ?_) | ((with_reducible show iaddrS _ _ _ _ _ _ _); refine iaddr_map rfl omA omA ?_) | ((with_reducible show doCall _ _ _ 224 _ _); refine call_pc (s_l6In) ?_)) <;> simp [-map_take, -map_drop, -map_tail, rgs, evtC]) | ((with_reducible refine condS_split ?_ ?_) <;> intro qb <;> (have qp := qb; try simp only [psq] at qp) <;> simp [-map_take, -map_drop, -map_tail, rgs, evtC, qb])
    all_goals
      first
      | (have hlt : i < l.length := (by first | omega | (simp at *; omega))
         rw [drop_gt hlt] at hJ
         first
         | (refine hnx.go (()) ?_ ?_ ?_ ?_ ?_ ?_; omega; (simp [wrap_succ hlt hlim]); (simp); exact keepA; (first | omega | (simp; omega)); (try dsimp only); clear hnx; first | ((try simp only [List.drop_length, Int.toNat_natCast, idxI] at hJ ⊢); grind) | (simp_all [idxI]; done) | (simp_all; omega))
         | (refine ⟨?_, keepA⟩; clear hnx; first | ((try simp only [List.drop_length, Int.toNat_natCast, idxI] at hJ ⊢); grind) | (simp_all [idxI]; done) | (simp_all; omega)))
      | (obtain rfl : i = l.length := (by first | omega | (simp at *; omega))
         refine ⟨?_, keepA⟩; clear hnx; first | ((try simp only [List.drop_length, Int.toNat_natCast, idxI] at hJ ⊢); grind) | (simp_all [idxI]; done) | (simp_all; omega))
theorem s_EventsOk {p q : Bool} {t : List Nod} {l : List Evt} : PC ctx.P 91 [.view p 5 (t.map nodC), .view q 4 (l.map evtC)] (.bool (eventsOk t l)) := by
  refine PC.lim (n := l.length) (x := .view q 4 (l.map evtC)) (by simp) (.here (by simp)) ⟨_, Tryz.func91, by kernel_rfl, by kernel_rfl⟩ fun hlim => ?_
  by_cases ht : treeOk t = true
  · refine PC.o okC Tryz.func91 rfl (.bool _) fun h nx hnx => ?_
    try simp [-map_take, -map_drop, -map_tail, rgs, ht]
    repeat' first | done | (((with_reducible show doCall _ _ _ 221 _ _); refine call_pc (s_TreeOk) ?_) <;> simp [-map_take, -map_drop, -map_tail, rgs, ht]) | fail
    refine go_upP [4, 5, 9, 10, 11, 12, 13, 14, 15, 16, 17, 18, 19, 20, 21, 22, 23, 24, 25, 26, 27, 28, 29, 30, 31, 32, 33, 34, 35, 36, 37, 38, 39, 40, 41, 42, 43, 44, 45, 46, 47, 48, 49, 50, 51, 52] (l.length) (fun (i : Nat) a => [(5, .int .i64 i)]) (fun i_ a_ h_ _ => (fun i (_ : Unit) _ => allI (fun i e => fits t (l.take i.toNat) e) (l.drop i) i = allI (fun i e => fits t (l.take i.toNat) e) l 0) i_ a_ h_) (()) (by simp) ?_ keep_rfl (Nat.le_refl _) ?_
    · simp
    · intro i a tm h' n' hle hJ hE hn' next hnx
      try dsimp only at hJ
      have hK : KeepB nx h' h := KeepB.sub hE keepA (by omega)
      simp [-map_take, -map_drop, -map_tail]
      have hlim' := hlim
      simp only [LIM] at hlim'
      have hnode : isEvent t (gt l (i : Int)) = true → 0 ≤ (gt l (i : Int)).node ∧ (gt l (i : Int)).node < t.length := isEvent_in
      repeat' first | done | ((first | ((with_reducible show lenS _ _ _ _ _ _); refine lenS_slice rfl fun _ => ?_) | ((with_reducible show iaddrS _ _ _ _ _ _ _); refine iaddr_map rfl omA omA ?_) | ((with_reducible show sliceI _ _ _ _ _ _ _ _ _ _ _); refine sliceI_to rfl omA omA ?_) | ((with_reducible show doCall _ _ _ 222 _ _); refine call_pc (s_l6Event (e := gt l (i : Int))) ?_) | ((with_reducible show doCall _ _ _ 92 _ _); refine call_pc (s_l6First ht (hnode (by assumption)).1 (hnode (by assumption)).2) ?_) | (with_reducible refine go_draw (i := 6) [(0, [], []), (1, [], []), (2, [], []), (3, [], []), (4, [], []), (5, [], []), (6, [], []), (7, [], []), (8, [], []), (9, [], []), (10, [], []), (11, [], []), (12, [], []), (13, [], []), (14, [], []), (15, [], []), (16, [], []), (17, [], []), (18, [], []), (19, [], []), (20, [], []), (21, [], []), (22, [], []), (23, [], []), (24, [], []), (25, [], []), (26, [], []), (27, [], []), (28, [], []), (29, [], []), (30, [], []), (31, [], []), (32, [], []), (33, [], []), (34, [], []), (35, [], []), (36, [], []), (37, [], [])] (by kernel_rfl) ?_)) <;> simp [-map_take, -map_drop, -map_tail, rgs, evtC, i64_ok (x := (i : Int) - 1) (by omega)]) | ((first | (with_reducible refine guardD_split ?_ ?_) | (with_reducible refine condS_split ?_ ?_)) <;> intro qb <;> (have qp := qb; try simp only [psq] at qp) <;> simp [-map_take, -map_drop, -map_tail, rgs, evtC, i64_ok (x := (i : Int) - 1) (by omega), qb])
      all_goals first
        | (have hlt : i < l.length := (by omega)
           rw [drop_gt hlt] at hJ
           simp only [allI, Int.toNat_natCast, fits_eq hlt] at hJ
           first
           | (refine hnx.go () (by omega) (by simp [wrap_succ hlt hlim]) (by simp) keepA (by first | omega | (simp; omega)) ?_; clear hnx; grind)
           | (refine ⟨?_, keepA⟩; clear hnx; simp only [eventsOk]; grind))
        | (refine ⟨?_, keepA⟩; rw [List.drop_eq_nil_of_le (by omega)] at hJ; clear hnx; simp only [allI, eventsOk] at hJ ⊢; grind)
  · refine PC.o okC Tryz.func91 rfl (.bool _) fun h nx hnx => ?_
    try simp [-map_take, -map_drop, -map_tail, rgs, ht]
    repeat' first | done | (((with_reducible show doCall _ _ _ 221 _ _); refine call_pc (s_TreeOk) ?_) <;> simp [-map_take, -map_drop, -map_tail, rgs, ht]) | fail
    all_goals (try clear hnx)
    all_goals (simp_all [eventsOk]; done)
end Go.AE.Tryz
end

section
/- Contracts of the reference's readers: chains, events, functions, tasks, groups. -/
set_option maxRecDepth 8000
set_option maxHeartbeats 4000000
namespace Go.AE.Tryz
open Go.Proofs
open List (map_take map_drop map_tail)

theorem s_l9Leash {n : Int} : PC ctx.P 441 [.int .i64 n] (.bool (inR n (-1) 59)) := by
  refine PC.o okC Tryz.func441 rfl (.bool _) fun h nx hnx => ?_
  try simp [-map_take, -map_drop, -map_tail, rgs]
  repeat' first | done | (((with_reducible show doCall _ _ _ 225 _ _); refine call_pc (s_l1In) ?_) <;> simp [-map_take, -map_drop, -map_tail, rgs]) | fail
theorem s_InsOk {x : Inn} : PC ctx.P 390 [.agg (innC x)] (.bool (innOk x)) := by
  refine PC.o okC Tryz.func390 rfl (.bool _) fun h nx hnx => ?_
  try simp [-map_take, -map_drop, -map_tail, rgs, innC]
  repeat' first | done | ((first | ((with_reducible show doCall _ _ _ 441 _ _); refine call_pc (s_l9Leash) ?_) | ((with_reducible show doCall _ _ _ 225 _ _); refine call_pc (s_l1In) ?_)) <;> simp [-map_take, -map_drop, -map_tail, rgs, innC]) | ((first | (with_reducible refine guardS_split ?_ ?_) | (with_reducible refine condS_split ?_ ?_)) <;> intro qb <;> (have qp := qb; try simp only [psq] at qp) <;> simp [-map_take, -map_drop, -map_tail, rgs, innC, qb])
  all_goals (try clear hnx)
  all_goals first | (simp_all [innOk, hasNode, hasB, inR]; done) | (simp_all [innOk, hasNode, hasB, inR]; omega) | (rw [Bool.eq_iff_iff]; simp_all [innOk, hasNode, hasB, inR]; done)
theorem s_ProgOk {p : Bool} {l : List Inn} : PC ctx.P 298 [.view p 3 (l.map innC)] (.bool (progOk l)) := by
  refine PC.lim (n := l.length) (x := .view p 3 (l.map innC)) (by simp) (.here (by simp)) ⟨_, Tryz.func298, by kernel_rfl, by kernel_rfl⟩ fun hlim => ?_
  refine PC.o okC Tryz.func298 rfl (.bool _) fun h nx hnx => ?_
  try simp [-map_take, -map_drop, -map_tail, rgs]
  refine go_upP [2, 3, 4, 5, 6, 7, 8, 9, 10, 11, 12, 13, 14, 15] (l.length) (fun (i : Nat) a => [(3, .int .i64 i)]) (fun i_ a_ h_ _ => (fun i (_ : Unit) _ => ((l.drop i).any fun x => !innOk x) = l.any fun x => !innOk x) i_ a_ h_) (()) (by simp) ?_ keep_rfl (Nat.le_refl _) ?_
  · simp
  · intro i a tm h' n' hle hJ hE hn' next hnx
    try dsimp only at hJ
    have hK : KeepB nx h' h := KeepB.sub hE keepA (by omega)
    simp [-map_take, -map_drop, -map_tail]
    repeat' first | done | ((first | ((with_reducible show lenS _ _ _ _ _ _); refine lenS_slice rfl fun _ => ?_) | ((with_reducible show iaddrS _ _ _ _ _ _ _); refine iaddr_map rfl omA omA ?_) | ((with_reducible show doCall _ _ _ 390 _ _); refine call_pc (s_InsOk) ?_)) <;> simp [-map_take, -map_drop, -map_tail, rgs]) | ((with_reducible refine condS_split ?_ ?_) <;> intro qb <;> (have qp := qb; try simp only [psq] at qp) <;> simp [-map_take, -map_drop, -map_tail, rgs, qb])
    all_goals
      first
      | (have hlt : i < l.length := (by first | omega | (simp at *; omega))
         rw [drop_gt hlt] at hJ
         first
         | (refine hnx.go (()) ?_ ?_ ?_ ?_ ?_ ?_; omega; (simp [wrap_succ hlt hlim]); (simp); exact keepA; (first | omega | (simp; omega)); (try dsimp only); clear hnx; first | ((try simp only [List.drop_length, Int.toNat_natCast, List.any_cons, List.any_nil, progOk] at hJ ⊢); grind) | (simp_all [List.any_cons, List.any_nil, progOk]; done) | (simp_all; omega))
         | (refine ⟨?_, keepA⟩; clear hnx; first | ((try simp only [List.drop_length, Int.toNat_natCast, List.any_cons, List.any_nil, progOk] at hJ ⊢); grind) | (simp_all [List.any_cons, List.any_nil, progOk]; done) | (simp_all; omega)))
      | (obtain rfl : i = l.length := (by first | omega | (simp at *; omega))
         refine ⟨?_, keepA⟩; clear hnx; first | ((try simp only [List.drop_length, Int.toNat_natCast, List.any_cons, List.any_nil, progOk] at hJ ⊢); grind) | (simp_all [List.any_cons, List.any_nil, progOk]; done) | (simp_all; omega))
theorem s_l10Waits {t : Tsk} : PC ctx.P 444 [.agg (tskC t)] (.bool (tsk1 t)) := by
  refine PC.o okC Tryz.func444 rfl (.bool _) fun h nx hnx => ?_
  try simp [-map_take, -map_drop, -map_tail, rgs, tskC]
  repeat' first | done | (((with_reducible show doCall _ _ _ 225 _ _); refine call_pc (s_l1In) ?_) <;> simp [-map_take, -map_drop, -map_tail, rgs, tskC]) | ((first | (with_reducible refine guardS_split ?_ ?_) | (with_reducible refine condS_split ?_ ?_)) <;> intro qb <;> (have qp := qb; try simp only [psq] at qp) <;> simp [-map_take, -map_drop, -map_tail, rgs, tskC, qb])
  all_goals (try clear hnx)
  all_goals first | (simp_all [tsk1, inR]; done) | (simp_all [tsk1, inR]; omega)
theorem s_TaskOk {t : Tsk} : PC ctx.P 397 [.agg (tskC t)] (.bool (tskOk t)) := by
  rw [tskOk_eq]
  refine PC.o okC Tryz.func397 rfl (.bool _) fun h nx hnx => ?_
  try simp [-map_take, -map_drop, -map_tail, rgs, tskC]
  repeat' first | done | ((first | ((with_reducible show doCall _ _ _ 225 _ _); refine call_pc (s_l1In) ?_) | ((with_reducible show doCall _ _ _ 444 _ _); refine call_pc (s_l10Waits (t := t)) ?_)) <;> simp [-map_take, -map_drop, -map_tail, rgs, tskC]) | ((first | (with_reducible refine guardS_split ?_ ?_) | (with_reducible refine condS_split ?_ ?_)) <;> intro qb <;> (have qp := qb; try simp only [psq] at qp) <;> simp [-map_take, -map_drop, -map_tail, rgs, tskC, qb])
  all_goals (try clear hnx)
  all_goals (simp_all [tskS]; done)
theorem s_TasksOk {p : Bool} {l : List Tsk} : PC ctx.P 302 [.view p 9 (l.map tskC)] (.bool (tasksOk l)) := by
  refine PC.lim (n := l.length) (x := .view p 9 (l.map tskC)) (by simp) (.here (by simp)) ⟨_, Tryz.func302, by kernel_rfl, by kernel_rfl⟩ fun hlim => ?_
  refine PC.o okC Tryz.func302 rfl (.bool _) fun h nx hnx => ?_
  try simp [-map_take, -map_drop, -map_tail, rgs]
  refine go_upP [2, 3, 4, 5, 6, 7, 8, 9, 10, 11, 12, 13, 14, 15] (l.length) (fun (i : Nat) a => [(3, .int .i64 i)]) (fun i_ a_ h_ _ => (fun i (_ : Unit) _ => ((l.drop i).any fun x => !tskOk x) = l.any fun x => !tskOk x) i_ a_ h_) (()) (by simp) ?_ keep_rfl (Nat.le_refl _) ?_
  · simp
  · intro i a tm h' n' hle hJ hE hn' next hnx
    try dsimp only at hJ
    have hK : KeepB nx h' h := KeepB.sub hE keepA (by omega)
    simp [-map_take, -map_drop, -map_tail]
    repeat' first | done | ((first | ((with_reducible show lenS _ _ _ _ _ _); refine lenS_slice rfl fun _ => ?_) | ((with_reducible show iaddrS _ _ _ _ _ _ _); refine iaddr_map rfl omA omA ?_) | ((with_reducible show doCall _ _ _ 397 _ _); refine call_pc (s_TaskOk) ?_)) <;> simp [-map_take, -map_drop, -map_tail, rgs]) | ((with_reducible refine condS_split ?_ ?_) <;> intro qb <;> (have qp := qb; try simp only [psq] at qp) <;> simp [-map_take, -map_drop, -map_tail, rgs, qb])
    all_goals
      first
      | (have hlt : i < l.length := (by first | omega | (simp at *; omega))
         rw [drop_gt hlt] at hJ
         first
         | (refine hnx.go (()) ?_ ?_ ?_ ?_ ?_ ?_; omega; (simp [wrap_succ hlt hlim]); (simp); exact keepA; (first | omega | (simp; omega)); (try dsimp only); clear hnx; first | ((try simp only [List.drop_length, Int.toNat_natCast, List.any_cons, List.any_nil, tasksOk] at hJ ⊢); grind) | (simp_all [List.any_cons, List.any_nil, tasksOk]; done) | (simp_all; omega))
         | (refine ⟨?_, keepA⟩; clear hnx; first | ((try simp only [List.drop_length, Int.toNat_natCast, List.any_cons, List.any_nil, tasksOk] at hJ ⊢); grind) | (simp_all [List.any_cons, List.any_nil, tasksOk]; done) | (simp_all; omega)))
      | (obtain rfl : i = l.length := (by first | omega | (simp at *; omega))
         refine ⟨?_, keepA⟩; clear hnx; first | ((try simp only [List.drop_length, Int.toNat_natCast, List.any_cons, List.any_nil, tasksOk] at hJ ⊢); grind) | (simp_all [List.any_cons, List.any_nil, tasksOk]; done) | (simp_all; omega))
theorem s_GroupOk {p : Bool} {g : Grp} : PC ctx.P 304 [.agg (grpV p g)] (.bool (grpOk g)) := by
  refine PC.lim (n := g.waits.length) (x := .agg (grpV p g)) (by simp) (.agg (x := .view p 1 (g.waits.map iv)) (by simp [grpV]) (.here (by simp))) ⟨_, Tryz.func304, by kernel_rfl, by kernel_rfl⟩ fun hlim => ?_
  refine PC.o okC Tryz.func304 rfl (.bool _) fun h nx hnx => ?_
  try simp [-map_take, -map_drop, -map_tail, rgs, grpV]
  repeat' first | done | (((with_reducible show doCall _ _ _ 225 _ _); refine call_pc (s_l1In) ?_) <;> simp [-map_take, -map_drop, -map_tail, rgs, grpV]) | ((first | (with_reducible refine guardS_split ?_ ?_) | (with_reducible refine condS_split ?_ ?_)) <;> intro qb <;> (have qp := qb; try simp only [psq] at qp) <;> simp [-map_take, -map_drop, -map_tail, rgs, grpV, qb])
  all_goals first | (clear hnx; simp only [grpOk]; grind) | skip
  all_goals
    refine go_upP [2, 3, 38, 39, 40, 41, 42, 43, 44, 45, 46, 47, 48, 49, 50, 51, 52, 53, 54, 55, 56, 57, 58, 59, 60, 61, 62, 63] (g.waits.length) (fun (i : Nat) a => [(3, .int .i64 i)]) (fun i_ a_ h_ _ => (fun i (_ : Unit) _ => allI (fun i n => inR n 0 59 && !(g.waits.take i.toNat).contains n) (g.waits.drop i) i = allI (fun i n => inR n 0 59 && !(g.waits.take i.toNat).contains n) g.waits 0) i_ a_ h_) (()) (by simp) ?_ keep_rfl (Nat.le_refl _) ?_
    · simp
    · intro i a tm h' n' hle hJ hE hn' next hnx
      try dsimp only at hJ
      have hK : KeepB nx h' h := KeepB.sub hE keepA (by omega)
      simp [-map_take, -map_drop, -map_tail]
      have e1 : h' (nx) = some (.obj (grpV p g)) := by have := hE (nx) (by omega); simpa [grpV] using this
      have e1n : ∀ k, ((nx) = n' + k) = False := fun k => by simp only [eq_iff_iff, iff_false]; omega
      have e1m : ((nx) = n') = False := by simp only [eq_iff_iff, iff_false]; omega
      try simp [-map_take, -map_drop, -map_tail, rgs, grpV, iv, e1, e1n, e1m]
      repeat' first | done | ((first | ((with_reducible show lenS _ _ _ _ _ _); refine lenS_slice rfl fun _ => ?_) | ((with_reducible show iaddrS _ _ _ _ _ _ _); refine iaddr_map rfl omA omA ?_) | ((with_reducible show sliceI _ _ _ _ _ _ _ _ _ _ _); refine sliceI_to rfl omA omA ?_) | ((with_reducible show doCall _ _ _ 225 _ _); refine call_pc (s_l1In) ?_) | ((with_reducible show doCall _ _ _ 224 _ _); refine call_pc (s_l6In) ?_) | (with_reducible refine go_draw (i := 6) [(0, [], []), (1, [], []), (2, [], []), (3, [], []), (4, [], []), (5, [], []), (6, [], []), (7, [], []), (8, [], []), (9, [], []), (10, [], []), (11, [], []), (12, [], []), (13, [], []), (14, [], []), (15, [], []), (16, [], []), (17, [], []), (18, [], [])] (by kernel_rfl) ?_)) <;> simp [-map_take, -map_drop, -map_tail, rgs, grpV, iv, e1, e1n, e1m]) | ((first | (with_reducible refine guardD_split ?_ ?_) | (with_reducible refine guardS_split ?_ ?_) | (with_reducible refine condS_split ?_ ?_)) <;> intro qb <;> (have qp := qb; try simp only [psq] at qp) <;> simp [-map_take, -map_drop, -map_tail, rgs, grpV, iv, e1, e1n, e1m, qb])
      all_goals
        first
        | (have hlt : i < g.waits.length := (by first | omega | (simp at *; omega))
           rw [drop_gt hlt] at hJ
           first
           | (refine hnx.go (()) ?_ ?_ ?_ ?_ ?_ ?_; omega; (simp [wrap_succ hlt hlim]); (simp); exact keepA; (first | omega | (simp; omega)); (try dsimp only); clear hnx; first | ((try simp only [List.drop_length, Int.toNat_natCast, allI, grpOk] at hJ ⊢); grind) | (simp_all [allI, grpOk]; done) | (simp_all; omega))
           | (refine ⟨?_, keepA⟩; clear hnx; first | ((try simp only [List.drop_length, Int.toNat_natCast, allI, grpOk] at hJ ⊢); grind) | (simp_all [allI, grpOk]; done) | (simp_all; omega)))
        | (obtain rfl : i = g.waits.length := (by first | omega | (simp at *; omega))
           refine ⟨?_, keepA⟩; clear hnx; first | ((try simp only [List.drop_length, Int.toNat_natCast, allI, grpOk] at hJ ⊢); grind) | (simp_all [allI, grpOk]; done) | (simp_all; omega))
end Go.AE.Tryz
end

section
/- Contracts of the reference's readers: chains, events, functions, tasks, groups. -/
set_option maxRecDepth 8000
set_option maxHeartbeats 4000000
namespace Go.AE.Tryz
open Go.Proofs
open List (map_take map_drop map_tail)

theorem s_SpreadOk {F : Nat → Bool} {p : Bool} {t : List Nod} {s : Spr} : PC ctx.P 178 [.view p 5 (t.map nodC), .agg (sprV F s)] (.bool (treeOk t && isSpread s t)) := by
  refine PC.lim (n := s.work.length) (x := .agg (sprV F s)) (by simp) (.agg (x := .view (F 5) 1 (s.work.map iv)) (by simp [sprV]) (.here (by simp))) ⟨_, Tryz.func178, by kernel_rfl, by kernel_rfl⟩ fun hlim => ?_
  refine PC.lim (n := t.length) (x := .view p 5 (t.map nodC)) (by simp) (.here (by simp)) ⟨_, Tryz.func178, by kernel_rfl, by kernel_rfl⟩ fun hlim2 => ?_
  refine PC.o okC Tryz.func178 rfl (.bool _) fun h nx hnx => ?_
  try simp [-map_take, -map_drop, -map_tail, rgs, sprV]
  repeat' first | done | ((first | ((with_reducible show lenS _ _ _ _ _ _); refine lenS_slice rfl fun _ => ?_) | ((with_reducible show doCall _ _ _ 221 _ _); refine call_pc (s_TreeOk) ?_)) <;> simp [-map_take, -map_drop, -map_tail, rgs, sprV]) | ((first | (with_reducible refine guardS_split ?_ ?_) | (with_reducible refine condS_split ?_ ?_)) <;> intro qb <;> (have qp := qb; try simp only [psq] at qp) <;> simp [-map_take, -map_drop, -map_tail, rgs, sprV, qb])
  all_goals first | (clear hnx; simp [isSpread]; grind) | skip
  refine go_upP [4, 5, 23, 24, 25, 26, 27, 28, 29, 30, 31, 32, 33, 34, 35, 36, 37, 38, 39] (s.work.length) (fun (i : Nat) a => [(5, .int .i64 i)]) (fun i_ a_ h_ _ => (fun i (_ : Unit) _ => ((s.work.drop i).any fun n => !isIn n t) = s.work.any fun n => !isIn n t) i_ a_ h_) (()) (by simp) ?_ keep_rfl (Nat.le_refl _) ?_
  · simp
  · intro i a tm h' n' hle hJ hE hn' next hnx
    try dsimp only at hJ
    have hK : KeepB nx h' h := KeepB.sub hE keepA (by omega)
    simp [-map_take, -map_drop, -map_tail]
    have e1 : h' (nx) = some (.obj (sprV F s)) := by have := hE (nx) (by omega); simpa [sprV] using this
    have e1n : ∀ k, ((nx) = n' + k) = False := fun k => by simp only [eq_iff_iff, iff_false]; omega
    have e1m : ((nx) = n') = False := by simp only [eq_iff_iff, iff_false]; omega
    try simp [-map_take, -map_drop, -map_tail, rgs, sprV, iv, wrap_pred hlim2, e1, e1n, e1m]
    repeat' first | done | ((first | ((with_reducible show lenS _ _ _ _ _ _); refine lenS_slice rfl fun _ => ?_) | ((with_reducible show iaddrS _ _ _ _ _ _ _); refine iaddr_map rfl omA omA ?_) | ((with_reducible show doCall _ _ _ 225 _ _); refine call_pc (s_l1In) ?_)) <;> simp [-map_take, -map_drop, -map_tail, rgs, sprV, iv, wrap_pred hlim2, e1, e1n, e1m]) | ((with_reducible refine condS_split ?_ ?_) <;> intro qb <;> (have qp := qb; try simp only [psq] at qp) <;> simp [-map_take, -map_drop, -map_tail, rgs, sprV, iv, wrap_pred hlim2, e1, e1n, e1m, qb])
    all_goals
      first
      | (have hlt : i < s.work.length := (by first | omega | (simp at *; omega))
         rw [drop_gt hlt] at hJ
         first
         | (refine hnx.go (()) ?_ ?_ ?_ ?_ ?_ ?_; omega; (simp [wrap_succ hlt hlim]); (simp); exact keepA; (first | omega | (simp; omega)); (try dsimp only); clear hnx; first | ((try simp only [List.drop_length, Int.toNat_natCast, List.any_cons, List.any_nil, isSpread, isIn] at hJ ⊢); grind) | (simp_all [List.any_cons, List.any_nil, isSpread, isIn]; done) | (simp_all; omega))
         | (refine ⟨?_, keepA⟩; clear hnx; first | ((try simp only [List.drop_length, Int.toNat_natCast, List.any_cons, List.any_nil, isSpread, isIn] at hJ ⊢); grind) | (simp_all [List.any_cons, List.any_nil, isSpread, isIn]; done) | (simp_all; omega)))
      | (obtain rfl : i = s.work.length := (by first | omega | (simp at *; omega))
         refine ⟨?_, keepA⟩; clear hnx; first | ((try simp only [List.drop_length, Int.toNat_natCast, List.any_cons, List.any_nil, isSpread, isIn] at hJ ⊢); grind) | (simp_all [List.any_cons, List.any_nil, isSpread, isIn]; done) | (simp_all; omega))
theorem s_AftersOk {F : Nat → Bool} {x : Afs} : PC ctx.P 301 [.agg (afsV F x)] (.bool (afsOk x)) := by
  refine PC.lim (n := x.list.length) (x := .agg (afsV F x)) (by simp) (.agg (x := .view (F 10) 5 (x.list.map afrC)) (by simp [afsV]) (.here (by simp))) ⟨_, Tryz.func301, by kernel_rfl, by kernel_rfl⟩ fun hlim => ?_
  by_cases hs : sltOk x.slots = true
  · refine PC.o okC Tryz.func301 rfl (.bool _) fun h nx hnx => ?_
    try simp [-map_take, -map_drop, -map_tail, rgs, afsV, hs]
    repeat' first | done | ((first | ((with_reducible show doCall _ _ _ 394 _ _); refine call_pc (s_SlotsOk (s := x.slots) (F := F)) ?_) | ((with_reducible show doCall _ _ _ 395 _ _); refine call_pc (s_UsedIn (s := x.slots) (F := F)) ?_) | (with_reducible refine go_draw (i := 1) [(0, [], []), (1, [], []), (2, [], []), (3, [], []), (4, [], []), (5, [], []), (6, [], []), (7, [], []), (8, [], []), (9, [], []), (10, [.tmp 11], []), (11, [], []), (12, [], [])] (by kernel_rfl) ?_)) <;> simp [-map_take, -map_drop, -map_tail, rgs, afsV, hs]) | ((with_reducible refine condS_split ?_ ?_) <;> intro qb <;> (have qp := qb; try simp only [psq] at qp) <;> simp [-map_take, -map_drop, -map_tail, rgs, afsV, hs, qb])
    · simp only [afsOk]; grind
    refine go_upP [2, 3, 4, 5, 19, 20, 21, 22, 23, 24, 25, 26, 27, 28, 29, 30, 31, 32, 33, 34, 35, 36, 37, 38, 39, 40, 41, 42, 43, 44, 45, 46, 47, 48, 49, 50, 51, 52, 53, 54, 55, 56, 57, 58, 59, 60, 61, 62] (x.list.length) (fun (i : Nat) a => [(3, .int .i64 i)]) (fun i_ a_ h_ _ => (fun (i : Nat) (_ : Unit) _ => allI (fun i y => isAfter y.node y.fn && (sltHolds x.slots y.han && afsAt x.list y.han == i)) (x.list.drop i) i = allI (fun i y => isAfter y.node y.fn && (sltHolds x.slots y.han && afsAt x.list y.han == i)) x.list 0) i_ a_ h_) (()) (by simp) ?_ keep_rfl (Nat.le_refl _) ?_
    · simp
    · intro i a tm h' n' hle hJ hE hn' next hnx
      try dsimp only at hJ
      have hK : KeepB nx h' h := KeepB.sub hE keepA (by omega)
      simp [-map_take, -map_drop, -map_tail]
      have e1 : h' (nx) = some (.obj (afsV F x)) := by have := hE (nx) (by omega); simpa [afsV] using this
      have e1n : ∀ k, ((nx) = n' + k) = False := fun k => by simp only [eq_iff_iff, iff_false]; omega
      have e1m : ((nx) = n') = False := by simp only [eq_iff_iff, iff_false]; omega
      try simp [-map_take, -map_drop, -map_tail, rgs, afsV, afrC, e1, e1n, e1m, hs]
      repeat' first | done | ((first | ((with_reducible show lenS _ _ _ _ _ _); refine lenS_slice rfl fun _ => ?_) | ((with_reducible show iaddrS _ _ _ _ _ _ _); refine iaddr_map rfl omA omA ?_) | ((with_reducible show doCall _ _ _ 396 _ _); refine call_pc (s_Holds (s := x.slots) (F := F) (x := (gt x.list (i : Int)).han)) ?_) | ((with_reducible show doCall _ _ _ 225 _ _); refine call_pc (s_l1In) ?_)) <;> simp [-map_take, -map_drop, -map_tail, rgs, afsV, afrC, e1, e1n, e1m, hs]) | ((first | (with_reducible refine guardS_split ?_ ?_) | (with_reducible refine condS_split ?_ ?_)) <;> intro qb <;> (have qp := qb; try simp only [psq] at qp) <;> simp [-map_take, -map_drop, -map_tail, rgs, afsV, afrC, e1, e1n, e1m, hs, qb])
      · have hlt : i < x.list.length := (by omega)
        rw [drop_gt hlt] at hJ
        refine ⟨?_, keepA⟩; clear hnx; simp only [allI] at hJ; simp only [afsOk]; grind
      · have hlt : i < x.list.length := (by omega)
        rw [drop_gt hlt] at hJ
        refine ⟨?_, keepA⟩; clear hnx; simp only [allI, isAfter] at hJ; simp only [afsOk, isAfter]; grind
      · have hlt : i < x.list.length := (by omega)
        rw [drop_gt hlt] at hJ
        refine ⟨?_, keepA⟩; clear hnx; simp only [allI, isAfter] at hJ; simp only [afsOk, isAfter]; grind
      · have hlt : i < x.list.length := (by omega)
        rw [drop_gt hlt] at hJ
        refine go_upP [2, 5, 49, 50, 51, 52, 53, 54, 55, 56, 57, 58, 59, 60, 61, 62] (i) (fun (i : Nat) a => [(5, .int .i64 i)]) (fun i_ a_ h_ _ => (fun (j : Nat) (_ : Unit) _ => idxI (fun y => y.han == (gt x.list (i : Int)).han) ((x.list.take i).drop j) j = idxI (fun y => y.han == (gt x.list (i : Int)).han) (x.list.take i) 0) i_ a_ h_) (()) (by simp) ?_ keep_rfl (Nat.le_refl _) ?_
        · simp
        · intro j b tm2 h2 n2 hle2 hJ2 hE2 hn2 next2 hnx2
          try dsimp only at hJ2
          have hK2 : KeepB nx h2 h := KeepB.sub hE2 keepA (by omega)
          simp [-map_take, -map_drop, -map_tail]
          have e2 : h2 (nx) = some (.obj (afsV F x)) := by have := hE2 (nx) (by omega); simpa [e1, e1n, e1m, afsV] using this
          have e2n : ∀ k, ((nx) = n2 + k) = False := fun k => by simp only [eq_iff_iff, iff_false]; omega
          have e2m : ((nx) = n2) = False := by simp only [eq_iff_iff, iff_false]; omega
          have e3 : h2 (n' + 10) = some (.obj (afrC (gt x.list (i : Int)))) := by have := hE2 (n' + 10) (by omega); simpa [afrC] using this
          have e3n : ∀ k, ((n' + 10) = n2 + k) = False := fun k => by simp only [eq_iff_iff, iff_false]; omega
          have e3m : ((n' + 10) = n2) = False := by simp only [eq_iff_iff, iff_false]; omega
          repeat' first | done | ((first | ((with_reducible show iaddrS _ _ _ _ _ _ _); refine iaddr_map rfl omA omA ?_) | (with_reducible refine go_draw (i := 12) [(0, [], []), (1, [], []), (2, [], []), (3, [], []), (4, [], []), (5, [], []), (6, [], []), (7, [], []), (8, [], [])] (by kernel_rfl) ?_)) <;> simp [-map_take, -map_drop, -map_tail, rgs, afsV, afrC, e2, e2n, e2m, e3, e3n, e3m, hanC, lfOf, cellsEq, cellEq]) | ((with_reducible refine condS_split ?_ ?_) <;> intro qb <;> (have qp := qb; try simp only [psq] at qp) <;> simp [-map_take, -map_drop, -map_tail, rgs, afsV, afrC, e2, e2n, e2m, e3, e3n, e3m, hanC, lfOf, cellsEq, cellEq, qb])
          · rw [han_eq] at qb
            have r := idx_here (by omega) (by omega) hJ2 qb
            have hh := afsAt_here hlt
            rw [r] at hh
            refine ⟨?_, keepA⟩; clear hnx hnx2; simp only [allI, isAfter] at hJ; simp only [afsOk, isAfter]; grind
          · rw [han_eq] at qb
            refine hnx2.go () (by omega) (by simp [wrap_succ (show j < x.list.length by omega) hlim]) (by simp) keepA (by first | omega | (simp; omega)) ?_
            exact idx_on (by omega) (by omega) hJ2 qb
          · have r := idx_end (by omega) hJ2
            have hh := afsAt_here hlt
            rw [r] at hh
            refine hnx.go () (by omega) (by simp [wrap_succ hlt hlim]) (by simp) keepA (by first | omega | (simp; omega)) ?_
            clear hnx hnx2; dsimp only; simp only [allI, isAfter] at hJ ⊢; grind
      · refine ⟨?_, keepA⟩; rw [List.drop_eq_nil_of_le (by omega)] at hJ; clear hnx; simp only [allI] at hJ; simp only [afsOk]; grind
  · refine PC.o okC Tryz.func301 rfl (.bool _) fun h nx hnx => ?_
    try simp [-map_take, -map_drop, -map_tail, rgs, afsV, hs]
    repeat' first | done | ((first | ((with_reducible show doCall _ _ _ 394 _ _); refine call_pc (s_SlotsOk (s := x.slots) (F := F)) ?_) | (with_reducible refine go_draw (i := 1) [(0, [], []), (1, [], []), (2, [], []), (3, [], []), (4, [], []), (5, [], []), (6, [], []), (7, [], []), (8, [], []), (9, [], []), (10, [.tmp 11], []), (11, [], []), (12, [], [])] (by kernel_rfl) ?_)) <;> simp [-map_take, -map_drop, -map_tail, rgs, afsV, hs]) | fail
    all_goals (try clear hnx)
    all_goals (simp_all [afsOk]; done)
end Go.AE.Tryz
end

section
/- Contracts of the reference's readers: worlds. -/
set_option maxRecDepth 8000
set_option maxHeartbeats 4000000
namespace Go.AE.Tryz
open Go.Proofs
open List (map_take map_drop map_tail)

theorem s_Numbers {p : Bool} {l : List Int} {m : Int} : PC ctx.P 184 [.view p 1 (l.map iv), .int .i64 m] (.bool (all1 (fun n => inR n 0 m) l && decide (l.length ≤ 2000))) := by
  refine PC.lim (n := l.length) (x := .view p 1 (l.map iv)) (by simp) (.here (by simp)) ⟨_, Tryz.func184, by kernel_rfl, by kernel_rfl⟩ fun hlim => ?_
  refine PC.o okC Tryz.func184 rfl (.bool _) fun h nx hnx => ?_
  try simp [-map_take, -map_drop, -map_tail, rgs]
  refine go_upP [4, 5, 6, 7, 8, 9, 10, 11, 12, 13, 14, 15, 16, 17, 18] (l.length) (fun (i : Nat) a => [(5, .int .i64 i)]) (fun i_ a_ h_ _ => (fun i (_ : Unit) _ => all1 (fun n => inR n 0 m) (l.drop i) = all1 (fun n => inR n 0 m) l) i_ a_ h_) (()) (by simp) ?_ keep_rfl (Nat.le_refl _) ?_
  · simp
  · intro i a tm h' n' hle hJ hE hn' next hnx
    try dsimp only at hJ
    have hK : KeepB nx h' h := KeepB.sub hE keepA (by omega)
    simp [-map_take, -map_drop, -map_tail]
    repeat' first | done | ((first | ((with_reducible show lenS _ _ _ _ _ _); refine lenS_slice rfl fun _ => ?_) | ((with_reducible show iaddrS _ _ _ _ _ _ _); refine iaddr_map rfl omA omA ?_) | ((with_reducible show doCall _ _ _ 225 _ _); refine call_pc (s_l1In) ?_)) <;> simp [-map_take, -map_drop, -map_tail, rgs, iv]) | ((with_reducible refine condS_split ?_ ?_) <;> intro qb <;> (have qp := qb; try simp only [psq] at qp) <;> simp [-map_take, -map_drop, -map_tail, rgs, iv, qb])
    all_goals
      first
      | (have hlt : i < l.length := (by first | omega | (simp at *; omega))
         rw [drop_gt hlt] at hJ
         first
         | (refine hnx.go (()) ?_ ?_ ?_ ?_ ?_ ?_; omega; (simp [wrap_succ hlt hlim]); (simp); exact keepA; (first | omega | (simp; omega)); (try dsimp only); clear hnx; first | ((try simp only [List.drop_length, Int.toNat_natCast, all1_cons, all1_nil] at hJ ⊢); grind) | (simp_all [all1_cons, all1_nil]; done) | (simp_all; omega))
         | (refine ⟨?_, keepA⟩; clear hnx; first | ((try simp only [List.drop_length, Int.toNat_natCast, all1_cons, all1_nil] at hJ ⊢); grind) | (simp_all [all1_cons, all1_nil]; done) | (simp_all; omega)))
      | (obtain rfl : i = l.length := (by first | omega | (simp at *; omega))
         refine ⟨?_, keepA⟩; clear hnx; first | ((try simp only [List.drop_length, Int.toNat_natCast, all1_cons, all1_nil] at hJ ⊢); grind) | (simp_all [all1_cons, all1_nil]; done) | (simp_all; omega))
theorem s_Progs {p r : Bool} {l : List (List Inn)} : PC ctx.P 176 [.view p 1 (l.map (prgV r))] (.bool (all1 progOk l && decide (l.length ≤ 8))) := by
  refine PC.lim (n := l.length) (x := .view p 1 (l.map (prgV r))) (by simp) (.here (by simp)) ⟨_, Tryz.func176, by kernel_rfl, by kernel_rfl⟩ fun hlim => ?_
  refine PC.o okC Tryz.func176 rfl (.bool _) fun h nx hnx => ?_
  try simp [-map_take, -map_drop, -map_tail, rgs]
  refine go_upP [2, 3, 4, 5, 6, 7, 8, 9, 10, 11, 12, 13, 14, 15] (l.length) (fun (i : Nat) a => [(3, .int .i64 i)]) (fun i_ a_ h_ _ => (fun i (_ : Unit) _ => all1 progOk (l.drop i) = all1 progOk l) i_ a_ h_) (()) (by simp) ?_ keep_rfl (Nat.le_refl _) ?_
  · simp
  · intro i a tm h' n' hle hJ hE hn' next hnx
    try dsimp only at hJ
    have hK : KeepB nx h' h := KeepB.sub hE keepA (by omega)
    simp [-map_take, -map_drop, -map_tail]
    repeat' first | done | ((first | ((with_reducible show lenS _ _ _ _ _ _); refine lenS_slice rfl fun _ => ?_) | ((with_reducible show iaddrS _ _ _ _ _ _ _); refine iaddr_map rfl omA omA ?_) | ((with_reducible show doCall _ _ _ 298 _ _); refine call_pc (s_ProgOk) ?_)) <;> simp [-map_take, -map_drop, -map_tail, rgs, prgV]) | ((with_reducible refine condS_split ?_ ?_) <;> intro qb <;> (have qp := qb; try simp only [psq] at qp) <;> simp [-map_take, -map_drop, -map_tail, rgs, prgV, qb])
    all_goals
      first
      | (have hlt : i < l.length := (by first | omega | (simp at *; omega))
         rw [drop_gt hlt] at hJ
         first
         | (refine hnx.go (()) ?_ ?_ ?_ ?_ ?_ ?_; omega; (simp [wrap_succ hlt hlim]); (simp); exact keepA; (first | omega | (simp; omega)); (try dsimp only); clear hnx; first | ((try simp only [List.drop_length, Int.toNat_natCast, all1_cons, all1_nil] at hJ ⊢); grind) | (simp_all [all1_cons, all1_nil]; done) | (simp_all; omega))
         | (refine ⟨?_, keepA⟩; clear hnx; first | ((try simp only [List.drop_length, Int.toNat_natCast, all1_cons, all1_nil] at hJ ⊢); grind) | (simp_all [all1_cons, all1_nil]; done) | (simp_all; omega)))
      | (obtain rfl : i = l.length := (by first | omega | (simp at *; omega))
         refine ⟨?_, keepA⟩; clear hnx; first | ((try simp only [List.drop_length, Int.toNat_natCast, all1_cons, all1_nil] at hJ ⊢); grind) | (simp_all [all1_cons, all1_nil]; done) | (simp_all; omega))
theorem s_Node {F : Nat → Bool} {w : Wld} {n : Int} : PC ctx.P 300 [.agg (wldV F w), .int .i64 n] (.bool (isIn n w.tree)) := by
  refine PC.lim (n := w.tree.length) (x := .agg (wldV F w)) (by simp) (.agg (x := .view (F 2) 5 (w.tree.map nodC)) (by simp [wldV]) (.here (by simp))) ⟨_, Tryz.func300, by kernel_rfl, by kernel_rfl⟩ fun hlim => ?_
  refine PC.o okC Tryz.func300 rfl (.bool _) fun h nx hnx => ?_
  try simp [-map_take, -map_drop, -map_tail, rgs, wldV, wrap_pred hlim, isIn]
  repeat' first | done | ((first | ((with_reducible show lenS _ _ _ _ _ _); refine lenS_slice rfl fun _ => ?_) | ((with_reducible show doCall _ _ _ 225 _ _); refine call_pc (s_l1In) ?_)) <;> simp [-map_take, -map_drop, -map_tail, rgs, wldV, wrap_pred hlim, isIn]) | fail
theorem s_Task {F : Nat → Bool} {w : Wld} {n : Int} : PC ctx.P 95 [.agg (wldV F w), .int .i64 n] (.bool (isIn n w.tasks)) := by
  refine PC.lim (n := w.tasks.length) (x := .agg (wldV F w)) (by simp) (.agg (x := .view (F 11) 9 (w.tasks.map tskC)) (by simp [wldV]) (.here (by simp))) ⟨_, Tryz.func95, by kernel_rfl, by kernel_rfl⟩ fun hlim => ?_
  refine PC.o okC Tryz.func95 rfl (.bool _) fun h nx hnx => ?_
  try simp [-map_take, -map_drop, -map_tail, rgs, wldV, wrap_pred hlim, isIn]
  repeat' first | done | ((first | ((with_reducible show lenS _ _ _ _ _ _); refine lenS_slice rfl fun _ => ?_) | ((with_reducible show doCall _ _ _ 225 _ _); refine call_pc (s_l1In) ?_)) <;> simp [-map_take, -map_drop, -map_tail, rgs, wldV, wrap_pred hlim, isIn]) | fail
theorem s_Group {F : Nat → Bool} {w : Wld} {n : Int} : PC ctx.P 303 [.agg (wldV F w), .int .i64 n] (.bool (isIn n w.groups)) := by
  refine PC.lim (n := w.groups.length) (x := .agg (wldV F w)) (by simp) (.agg (x := .view (F 12) 5 (w.groups.map (grpV (F 13)))) (by simp [wldV]) (.here (by simp))) ⟨_, Tryz.func303, by kernel_rfl, by kernel_rfl⟩ fun hlim => ?_
  refine PC.o okC Tryz.func303 rfl (.bool _) fun h nx hnx => ?_
  try simp [-map_take, -map_drop, -map_tail, rgs, wldV, wrap_pred hlim, isIn]
  repeat' first | done | ((first | ((with_reducible show lenS _ _ _ _ _ _); refine lenS_slice rfl fun _ => ?_) | ((with_reducible show doCall _ _ _ 225 _ _); refine call_pc (s_l1In) ?_)) <;> simp [-map_take, -map_drop, -map_tail, rgs, wldV, wrap_pred hlim, isIn]) | fail
theorem s_Events {F : Nat → Bool} {w : Wld} : PC ctx.P 177 [.agg (wldV F w)] (.bool (eventsOk w.tree w.events && w.events.all (fun e => inR e.time 0 w.now))) := by
  refine PC.lim (n := w.events.length) (x := .agg (wldV F w)) (by simp) (.agg (x := .view (F 3) 4 (w.events.map evtC)) (by simp [wldV]) (.here (by simp))) ⟨_, Tryz.func177, by kernel_rfl, by kernel_rfl⟩ fun hlim => ?_
  rw [evTimes_eq]
  refine PC.o okC Tryz.func177 rfl (.bool _) fun h nx hnx => ?_
  try simp [-map_take, -map_drop, -map_tail, rgs, wldV, evtC, wrap_pred hlim]
  repeat' first | done | ((first | ((with_reducible show lenS _ _ _ _ _ _); refine lenS_slice rfl fun _ => ?_) | ((with_reducible show iaddrS _ _ _ _ _ _ _); refine iaddr_map rfl omA omA ?_) | ((with_reducible show doCall _ _ _ 91 _ _); refine call_pc (s_EventsOk) ?_) | (with_reducible refine go_draw (i := 2) [(0, [], []), (1, [], []), (2, [], []), (3, [], []), (4, [], []), (5, [], []), (6, [], []), (7, [], []), (8, [], []), (9, [], []), (10, [], []), (11, [], []), (12, [], []), (13, [], []), (14, [], []), (15, [], []), (16, [], []), (17, [], []), (18, [], []), (19, [], []), (20, [], []), (21, [], []), (22, [], []), (23, [], []), (24, [], []), (25, [], []), (26, [], []), (27, [], []), (28, [], []), (29, [], [])] (by kernel_rfl) ?_)) <;> simp [-map_take, -map_drop, -map_tail, rgs, wldV, evtC, wrap_pred hlim]) | ((with_reducible refine guardD_split ?_ ?_) <;> intro qb <;> (have qp := qb; try simp only [psq] at qp) <;> simp [-map_take, -map_drop, -map_tail, rgs, wldV, evtC, wrap_pred hlim, qb])
  all_goals (try clear hnx)
  all_goals (simp_all []; done)
theorem s_Timers {F : Nat → Bool} {w : Wld} : PC ctx.P 179 [.agg (wldV F w)] (.bool (tmsOk w.timers && all1 (isTimer w) w.timers.list)) := by
  refine PC.lim (n := w.timers.list.length) (x := .agg (wldV F w)) (by simp) (.agg (x := .view (F 7) 5 (w.timers.list.map tmrC)) (by simp [wldV]) (.here (by simp))) ⟨_, Tryz.func179, by kernel_rfl, by kernel_rfl⟩ fun hlim => ?_
  refine PC.o okC Tryz.func179 rfl (.bool _) fun h nx hnx => ?_
  try simp [-map_take, -map_drop, -map_tail, rgs, wldV]
  repeat' first | done | (((with_reducible show doCall _ _ _ 299 _ _); refine call_pc (s_TimersOk (t := w.timers) (F := F)) ?_) <;> simp [-map_take, -map_drop, -map_tail, rgs, wldV]) | ((with_reducible refine condS_split ?_ ?_) <;> intro qb <;> (have qp := qb; try simp only [psq] at qp) <;> simp [-map_take, -map_drop, -map_tail, rgs, wldV, qb])
  all_goals first | (clear hnx; simp_all; done) | skip
  refine go_upP [2, 3, 4, 9, 10, 11, 12, 13, 14, 15, 16, 17, 18, 19, 20, 21, 22, 23, 24, 25, 26, 27, 28, 29, 30, 31, 32, 33, 34, 35, 36, 37, 38, 39, 40, 41, 42, 43, 44] (w.timers.list.length) (fun (i : Nat) a => [(3, .int .i64 i)]) (fun i_ a_ h_ _ => (fun i (_ : Unit) _ => all1 (isTimer w) (w.timers.list.drop i) = all1 (isTimer w) w.timers.list) i_ a_ h_) (()) (by simp) ?_ keep_rfl (Nat.le_refl _) ?_
  · simp
  · intro i a tm h' n' hle hJ hE hn' next hnx
    try dsimp only at hJ
    have hK : KeepB nx h' h := KeepB.sub hE keepA (by omega)
    simp [-map_take, -map_drop, -map_tail]
    have e1 : h' (nx) = some (.obj (wldV F w)) := by have := hE (nx) (by omega); simpa [wldV] using this
    have e1n : ∀ k, ((nx) = n' + k) = False := fun k => by simp only [eq_iff_iff, iff_false]; omega
    have e1m : ((nx) = n') = False := by simp only [eq_iff_iff, iff_false]; omega
    try simp [-map_take, -map_drop, -map_tail, rgs, wldV, tmrC, e1, e1n, e1m]
    repeat' first | done | ((first | ((with_reducible show lenS _ _ _ _ _ _); refine lenS_slice rfl fun _ => ?_) | ((with_reducible show iaddrS _ _ _ _ _ _ _); refine iaddr_map rfl omA omA ?_) | ((with_reducible show doCall _ _ _ 300 _ _); refine call_pc (s_Node (w := w) (F := F)) ?_) | ((with_reducible show doCall _ _ _ 95 _ _); refine call_pc (s_Task (w := w) (F := F)) ?_)) <;> simp [-map_take, -map_drop, -map_tail, rgs, wldV, tmrC, e1, e1n, e1m]) | ((first | (with_reducible refine guardS_split ?_ ?_) | (with_reducible refine condS_split ?_ ?_)) <;> intro qb <;> (have qp := qb; try simp only [psq] at qp) <;> simp [-map_take, -map_drop, -map_tail, rgs, wldV, tmrC, e1, e1n, e1m, qb])
    all_goals
      first
      | (have hlt : i < w.timers.list.length := (by first | omega | (simp at *; omega))
         rw [drop_gt hlt] at hJ
         first
         | (refine hnx.go (()) ?_ ?_ ?_ ?_ ?_ ?_; omega; (simp [wrap_succ hlt hlim]); (simp); exact keepA; (first | omega | (simp; omega)); (try dsimp only); clear hnx; first | ((try simp only [List.drop_length, Int.toNat_natCast, all1_cons, all1_nil, isTimer] at hJ ⊢); grind) | (simp_all [all1_cons, all1_nil, isTimer]; done) | (simp_all; omega))
         | (refine ⟨?_, keepA⟩; clear hnx; first | ((try simp only [List.drop_length, Int.toNat_natCast, all1_cons, all1_nil, isTimer] at hJ ⊢); grind) | (simp_all [all1_cons, all1_nil, isTimer]; done) | (simp_all; omega)))
      | (obtain rfl : i = w.timers.list.length := (by first | omega | (simp at *; omega))
         refine ⟨?_, keepA⟩; clear hnx; first | ((try simp only [List.drop_length, Int.toNat_natCast, all1_cons, all1_nil, isTimer] at hJ ⊢); grind) | (simp_all [all1_cons, all1_nil, isTimer]; done) | (simp_all; omega))
theorem s_Afters {F : Nat → Bool} {w : Wld} : PC ctx.P 180 [.agg (wldV F w)] (.bool (all1 (fun a => isIn a.node w.tree) w.afters.list && afsOk w.afters)) := by
  refine PC.lim (n := w.afters.list.length) (x := .agg (wldV F w)) (by simp) (.agg (x := .view (F 10) 5 (w.afters.list.map afrC)) (by simp [wldV]) (.here (by simp))) ⟨_, Tryz.func180, by kernel_rfl, by kernel_rfl⟩ fun hlim => ?_
  refine PC.o okC Tryz.func180 rfl (.bool _) fun h nx hnx => ?_
  try simp [-map_take, -map_drop, -map_tail, rgs, wldV]
  refine go_upP [2, 3, 4, 5, 6, 7, 8, 9, 10, 11, 12, 13, 14, 15, 16, 17, 18, 19, 20, 21] (w.afters.list.length) (fun (i : Nat) a => [(3, .int .i64 i)]) (fun i_ a_ h_ _ => (fun i (_ : Unit) _ => all1 (fun a => isIn a.node w.tree) (w.afters.list.drop i) = all1 (fun a => isIn a.node w.tree) w.afters.list) i_ a_ h_) (()) (by simp) ?_ keep_rfl (Nat.le_refl _) ?_
  · simp
  · intro i a tm h' n' hle hJ hE hn' next hnx
    try dsimp only at hJ
    have hK : KeepB nx h' h := KeepB.sub hE keepA (by omega)
    simp [-map_take, -map_drop, -map_tail]
    have e1 : h' (nx) = some (.obj (wldV F w)) := by have := hE (nx) (by omega); simpa [wldV] using this
    have e1n : ∀ k, ((nx) = n' + k) = False := fun k => by simp only [eq_iff_iff, iff_false]; omega
    have e1m : ((nx) = n') = False := by simp only [eq_iff_iff, iff_false]; omega
    try simp [-map_take, -map_drop, -map_tail, rgs, wldV, afrC, e1, e1n, e1m]
    repeat' first | done | ((first | ((with_reducible show lenS _ _ _ _ _ _); refine lenS_slice rfl fun _ => ?_) | ((with_reducible show iaddrS _ _ _ _ _ _ _); refine iaddr_map rfl omA omA ?_) | ((with_reducible show doCall _ _ _ 300 _ _); refine call_pc (s_Node (w := w) (F := F)) ?_) | ((with_reducible show doCall _ _ _ 301 _ _); refine call_pc (s_AftersOk (x := w.afters) (F := F)) ?_) | (with_reducible refine go_draw (i := 4) [(0, [], []), (1, [], []), (2, [], []), (3, [], []), (4, [], []), (5, [], []), (6, [], []), (7, [], []), (8, [], []), (9, [], [])] (by kernel_rfl) ?_)) <;> simp [-map_take, -map_drop, -map_tail, rgs, wldV, afrC, e1, e1n, e1m]) | ((with_reducible refine condS_split ?_ ?_) <;> intro qb <;> (have qp := qb; try simp only [psq] at qp) <;> simp [-map_take, -map_drop, -map_tail, rgs, wldV, afrC, e1, e1n, e1m, qb])
    all_goals
      first
      | (have hlt : i < w.afters.list.length := (by first | omega | (simp at *; omega))
         rw [drop_gt hlt] at hJ
         first
         | (refine hnx.go (()) ?_ ?_ ?_ ?_ ?_ ?_; omega; (simp [wrap_succ hlt hlim]); (simp); exact keepA; (first | omega | (simp; omega)); (try dsimp only); clear hnx; first | ((try simp only [List.drop_length, Int.toNat_natCast, all1_cons, all1_nil] at hJ ⊢); grind) | (simp_all [all1_cons, all1_nil]; done) | (simp_all; omega))
         | (refine ⟨?_, keepA⟩; clear hnx; first | ((try simp only [List.drop_length, Int.toNat_natCast, all1_cons, all1_nil] at hJ ⊢); grind) | (simp_all [all1_cons, all1_nil]; done) | (simp_all; omega)))
      | (obtain rfl : i = w.afters.list.length := (by first | omega | (simp at *; omega))
         refine ⟨?_, keepA⟩; clear hnx; first | ((try simp only [List.drop_length, Int.toNat_natCast, all1_cons, all1_nil] at hJ ⊢); grind) | (simp_all [all1_cons, all1_nil]; done) | (simp_all; omega))
end Go.AE.Tryz
end

section
/- Contracts of the reference's readers: worlds. -/
set_option maxRecDepth 8000
set_option maxHeartbeats 4000000
namespace Go.AE.Tryz
open Go.Proofs
open List (map_take map_drop map_tail)

theorem s_Groups {F : Nat → Bool} {w : Wld} : PC ctx.P 182 [.agg (wldV F w)] (.bool (all1 (isGroup w) w.groups && decide (w.groups.length ≤ 8))) := by
  refine PC.lim (n := w.groups.length) (x := .agg (wldV F w)) (by simp) (.agg (x := .view (F 12) 5 (w.groups.map (grpV (F 13)))) (by simp [wldV]) (.here (by simp))) ⟨_, Tryz.func182, by kernel_rfl, by kernel_rfl⟩ fun hlim => ?_
  refine PC.o okC Tryz.func182 rfl (.bool _) fun h nx hnx => ?_
  try simp [-map_take, -map_drop, -map_tail, rgs, wldV]
  refine go_upP [2, 3, 4, 5, 6, 7, 8, 9, 10, 11, 12, 13, 14, 15, 16, 17, 18, 19, 20, 21, 22, 23, 24, 25, 26, 27, 28, 29, 30, 31, 32, 33, 34, 35, 36, 37, 38, 39, 40, 41, 42, 43, 44, 45, 46, 47, 48, 49, 50, 51, 52] (w.groups.length) (fun (i : Nat) a => [(3, .int .i64 i)]) (fun i_ a_ h_ _ => (fun i (_ : Unit) _ => all1 (isGroup w) (w.groups.drop i) = all1 (isGroup w) w.groups) i_ a_ h_) (()) (by simp) ?_ keep_rfl (Nat.le_refl _) ?_
  · simp
  · intro i a tm h' n' hle hJ hE hn' next hnx
    try dsimp only at hJ
    have hK : KeepB nx h' h := KeepB.sub hE keepA (by omega)
    simp [-map_take, -map_drop, -map_tail]
    have e1 : h' (nx) = some (.obj (wldV F w)) := by have := hE (nx) (by omega); simpa [wldV] using this
    have e1n : ∀ k, ((nx) = n' + k) = False := fun k => by simp only [eq_iff_iff, iff_false]; omega
    have e1m : ((nx) = n') = False := by simp only [eq_iff_iff, iff_false]; omega
    try simp [-map_take, -map_drop, -map_tail, rgs, wldV, nodC, grpV, e1, e1n, e1m]
    repeat' first | done | ((first | ((with_reducible show lenS _ _ _ _ _ _); refine lenS_slice rfl fun _ => ?_) | ((with_reducible show iaddrS _ _ _ _ _ _ _); refine iaddr_map rfl omA omA ?_) | ((with_reducible show doCall _ _ _ 304 _ _); refine call_pc (s_GroupOk (p := F 13) (g := gt w.groups (i : Int))) ?_) | ((with_reducible show doCall _ _ _ 300 _ _); refine call_pc (s_Node (w := w) (F := F)) ?_)) <;> simp [-map_take, -map_drop, -map_tail, rgs, wldV, nodC, grpV, e1, e1n, e1m]) | ((first | (with_reducible refine guardS_split ?_ ?_) | (with_reducible refine condS_split ?_ ?_)) <;> intro qb <;> (have qp := qb; try simp only [psq] at qp) <;> simp [-map_take, -map_drop, -map_tail, rgs, wldV, nodC, grpV, e1, e1n, e1m, qb])
    · have hlt : i < w.groups.length := (by omega)
      rw [drop_gt hlt] at hJ
      refine ⟨?_, keepA⟩; clear hnx; simp only [all1_cons, isGroup_eq] at hJ; grind
    · have hlt : i < w.groups.length := (by omega)
      rw [drop_gt hlt] at hJ
      refine ⟨?_, keepA⟩; clear hnx; simp only [all1_cons, isGroup_eq, isIn, inR] at hJ; grind
    · have hlt : i < w.groups.length := (by omega)
      rw [drop_gt hlt] at hJ
      refine ⟨?_, keepA⟩; clear hnx; simp only [all1_cons, isGroup_eq] at hJ; grind
    · have hlt : i < w.groups.length := (by omega)
      rw [drop_gt hlt] at hJ
      refine go_upP [2, 5, 38, 39, 40, 41, 42, 43, 44, 45, 46, 47, 48, 49, 50, 51, 52] ((gt w.groups (i : Int)).waits.length) (fun (i : Nat) a => [(5, .int .i64 i)]) (fun i_ a_ h_ _ => (fun (j : Nat) (_ : Unit) _ => all1 (fun i => isIn i w.tasks) ((gt w.groups (i : Int)).waits.drop j) = all1 (fun i => isIn i w.tasks) (gt w.groups (i : Int)).waits) i_ a_ h_) (()) (by simp) ?_ keep_rfl (Nat.le_refl _) ?_
      · simp
      · intro j b tm2 h2 n2 hle2 hJ2 hE2 hn2 next2 hnx2
        try dsimp only at hJ2
        have hK2 : KeepB nx h2 h := KeepB.sub hE2 keepA (by omega)
        simp [-map_take, -map_drop, -map_tail]
        have e2 : h2 (nx) = some (.obj (wldV F w)) := by have := hE2 (nx) (by omega); simpa [e1, e1n, e1m, wldV] using this
        have e2n : ∀ k, ((nx) = n2 + k) = False := fun k => by simp only [eq_iff_iff, iff_false]; omega
        have e2m : ((nx) = n2) = False := by simp only [eq_iff_iff, iff_false]; omega
        have e3 : h2 (n' + 10) = some (.obj (grpV (F 13) (gt w.groups (i : Int)))) := by have := hE2 (n' + 10) (by omega); simpa [grpV] using this
        have e3n : ∀ k, ((n' + 10) = n2 + k) = False := fun k => by simp only [eq_iff_iff, iff_false]; omega
        have e3m : ((n' + 10) = n2) = False := by simp only [eq_iff_iff, iff_false]; omega
        try simp [-map_take, -map_drop, -map_tail, rgs, wldV, grpV, iv, e2, e2n, e2m, e3, e3n, e3m]
        repeat' first | done | ((first | ((with_reducible show lenS _ _ _ _ _ _); refine lenS_slice rfl fun _ => ?_) | ((with_reducible show iaddrS _ _ _ _ _ _ _); refine iaddr_map rfl omA omA ?_) | ((with_reducible show doCall _ _ _ 95 _ _); refine call_pc (s_Task (w := w) (F := F)) ?_) | (with_reducible refine go_draw (i := 10) [(0, [], []), (1, [], []), (2, [], []), (3, [], []), (4, [], []), (5, [], []), (6, [], []), (7, [], [])] (by kernel_rfl) ?_)) <;> simp [-map_take, -map_drop, -map_tail, rgs, wldV, grpV, iv, e2, e2n, e2m, e3, e3n, e3m]) | ((with_reducible refine condS_split ?_ ?_) <;> intro qb <;> (have qp := qb; try simp only [psq] at qp) <;> simp [-map_take, -map_drop, -map_tail, rgs, wldV, grpV, iv, e2, e2n, e2m, e3, e3n, e3m, qb])
        · rw [drop_gt (by omega)] at hJ2
          refine ⟨?_, keepA⟩; clear hnx hnx2; simp only [all1_cons, isGroup_eq] at hJ hJ2; grind
        · have hlw : (gt w.groups (i : Int)).waits.length ≤ LIM := by assumption
          rw [drop_gt (by omega)] at hJ2
          refine hnx2.go () (by omega) (by simp [wrap_succ (show j < (gt w.groups (i : Int)).waits.length by omega) hlw]) (by simp) keepA (by first | omega | (simp; omega)) ?_
          clear hnx hnx2; simp only [all1_cons] at hJ2; grind
        · rw [List.drop_eq_nil_of_le (by omega)] at hJ2
          refine hnx.go () (by omega) (by simp [wrap_succ hlt hlim]) (by simp) keepA (by first | omega | (simp; omega)) ?_
          clear hnx hnx2; simp only [all1_cons, all1_nil, isGroup_eq] at hJ hJ2 ⊢; grind
    · refine ⟨?_, keepA⟩; rw [List.drop_eq_nil_of_le (by omega)] at hJ; clear hnx; simp only [all1_nil] at hJ; rw [← hJ]; simp; omega
end Go.AE.Tryz
end

section
/- Contracts of the reference's readers: worlds. -/
set_option maxRecDepth 8000
set_option maxHeartbeats 4000000
namespace Go.AE.Tryz
open Go.Proofs
open List (map_take map_drop map_tail)

theorem s_Sights {F : Nat → Bool} {w : Wld} : PC ctx.P 183 [.agg (wldV F w)] (.bool (all1 (isSight w) w.sights && decide (w.sights.length ≤ 2000))) := by
  refine PC.lim (n := w.sights.length) (x := .agg (wldV F w)) (by simp) (.agg (x := .view (F 14) 4 (w.sights.map sgtC)) (by simp [wldV]) (.here (by simp))) ⟨_, Tryz.func183, by kernel_rfl, by kernel_rfl⟩ fun hlim => ?_
  refine PC.o okC Tryz.func183 rfl (.bool _) fun h nx hnx => ?_
  try simp [-map_take, -map_drop, -map_tail, rgs, wldV]
  refine go_upP [2, 3, 4, 5, 6, 7, 8, 9, 10, 11, 12, 13, 14, 15, 16, 17, 18, 19, 20, 21, 22, 23, 24, 25, 26, 27, 28, 29, 30, 31, 32, 33, 34, 35, 36, 37, 38, 39, 40, 41, 42, 43, 44, 45, 46, 47, 48, 49, 50, 51, 52, 53, 54, 55] (w.sights.length) (fun (i : Nat) a => [(3, .int .i64 i)]) (fun i_ a_ h_ _ => (fun i (_ : Unit) _ => all1 (isSight w) (w.sights.drop i) = all1 (isSight w) w.sights) i_ a_ h_) (()) (by simp) ?_ keep_rfl (Nat.le_refl _) ?_
  · simp
  · intro i a tm h' n' hle hJ hE hn' next hnx
    try dsimp only at hJ
    have hK : KeepB nx h' h := KeepB.sub hE keepA (by omega)
    simp [-map_take, -map_drop, -map_tail]
    have e1 : h' (nx) = some (.obj (wldV F w)) := by have := hE (nx) (by omega); simpa [wldV] using this
    have e1n : ∀ k, ((nx) = n' + k) = False := fun k => by simp only [eq_iff_iff, iff_false]; omega
    have e1m : ((nx) = n') = False := by simp only [eq_iff_iff, iff_false]; omega
    try simp [-map_take, -map_drop, -map_tail, rgs, wldV, sgtC, e1, e1n, e1m]
    repeat' first | done | ((first | ((with_reducible show lenS _ _ _ _ _ _); refine lenS_slice rfl fun _ => ?_) | ((with_reducible show iaddrS _ _ _ _ _ _ _); refine iaddr_map rfl omA omA ?_) | ((with_reducible show doCall _ _ _ 225 _ _); refine call_pc (s_l1In) ?_) | ((with_reducible show doCall _ _ _ 300 _ _); refine call_pc (s_Node (w := w) (F := F)) ?_)) <;> simp [-map_take, -map_drop, -map_tail, rgs, wldV, sgtC, e1, e1n, e1m]) | ((first | (with_reducible refine guardS_split ?_ ?_) | (with_reducible refine condS_split ?_ ?_)) <;> intro qb <;> (have qp := qb; try simp only [psq] at qp) <;> simp [-map_take, -map_drop, -map_tail, rgs, wldV, sgtC, e1, e1n, e1m, qb])
    all_goals
      first
      | (have hlt : i < w.sights.length := (by first | omega | (simp at *; omega))
         rw [drop_gt hlt] at hJ
         first
         | (refine hnx.go (()) ?_ ?_ ?_ ?_ ?_ ?_; omega; (simp [wrap_succ hlt hlim]); (simp); exact keepA; (first | omega | (simp; omega)); (try dsimp only); clear hnx; first | ((try simp only [List.drop_length, Int.toNat_natCast, all1_cons, all1_nil, isSight_eq] at hJ ⊢); grind) | (simp_all [all1_cons, all1_nil, isSight_eq]; done) | (simp_all; omega))
         | (refine ⟨?_, keepA⟩; clear hnx; first | ((try simp only [List.drop_length, Int.toNat_natCast, all1_cons, all1_nil, isSight_eq] at hJ ⊢); grind) | (simp_all [all1_cons, all1_nil, isSight_eq]; done) | (simp_all; omega)))
      | (obtain rfl : i = w.sights.length := (by first | omega | (simp at *; omega))
         refine ⟨?_, keepA⟩; clear hnx; first | ((try simp only [List.drop_length, Int.toNat_natCast, all1_cons, all1_nil, isSight_eq] at hJ ⊢); grind) | (simp_all [all1_cons, all1_nil, isSight_eq]; done) | (simp_all; omega))
end Go.AE.Tryz
end

section
/- Contracts of the reference's readers: worlds. -/
set_option maxRecDepth 8000
set_option maxHeartbeats 4000000
namespace Go.AE.Tryz
open Go.Proofs
open List (map_take map_drop map_tail)

theorem s_Tasks {F : Nat → Bool} {w : Wld} : PC ctx.P 181 [.agg (wldV F w)] (.bool (tasksOk w.tasks && all1 (isTask w) w.tasks)) := by
  refine PC.lim (n := w.tasks.length) (x := .agg (wldV F w)) (by simp) (.agg (x := .view (F 11) 9 (w.tasks.map tskC)) (by simp [wldV]) (.here (by simp))) ⟨_, Tryz.func181, by kernel_rfl, by kernel_rfl⟩ fun hlim => ?_
  by_cases ht : tasksOk w.tasks = true
  · refine PC.o okC Tryz.func181 rfl (.bool _) fun h nx hnx => ?_
    try simp [-map_take, -map_drop, -map_tail, rgs, wldV, ht]
    repeat' first | done | (((with_reducible show doCall _ _ _ 302 _ _); refine call_pc (s_TasksOk) ?_) <;> simp [-map_take, -map_drop, -map_tail, rgs, wldV, ht]) | fail
    refine go_upP (2 :: 3 :: 4 :: 9 :: 10 :: 11 :: 12 :: 13 :: 14 :: 15 :: 16 :: 17 :: 18 :: 19 :: 20 :: 21 :: 22 :: 23 :: 24 :: 25 :: 26 :: 27 :: 28 :: 29 :: 30 :: 31 :: 32 :: 33 :: 34 :: 35 :: 36 :: 37 :: 38 :: 39 :: 40 :: 41 :: 42 :: 43 :: 44 :: 45 :: 46 :: 47 :: 48 :: 49 :: 50 :: 51 :: 52 :: 53 :: 54 :: 55 :: 56 :: 57 :: 58 :: 59 :: 60 :: 61 :: 62 :: 63 :: 64 :: 65 :: 66 :: 67 :: 68 :: 69 :: 70 :: 71 :: 72 :: 73 :: 74 :: 75 :: 76 :: 77 :: 78 :: []) (w.tasks.length) (fun (i : Nat) a => [(3, .int .i64 i)]) (fun i_ a_ h_ _ => (fun i (_ : Unit) _ => all1 (isTask w) (w.tasks.drop i) = all1 (isTask w) w.tasks) i_ a_ h_) (()) (by simp) ?_ keep_rfl (Nat.le_refl _) ?_
    · simp
    · intro i a tm h' n' hle hJ hE hn' next hnx
      try dsimp only at hJ
      have hK : KeepB nx h' h := KeepB.sub hE keepA (by omega)
      simp [-map_take, -map_drop, -map_tail]
      have e1 : h' (nx) = some (.obj (wldV F w)) := by have := hE (nx) (by omega); simpa [wldV] using this
      have e1n : ∀ k, ((nx) = n' + k) = False := fun k => by simp only [eq_iff_iff, iff_false]; omega
      have e1m : ((nx) = n') = False := by simp only [eq_iff_iff, iff_false]; omega
      by_cases hi : i < w.tasks.length
      · have hf := tskOk_facts (tasksOk_at ht (show (0 : Int) ≤ (i : Int) by omega) (by omega))
        try simp [-map_take, -map_drop, -map_tail, rgs, wldV, tskC, prgV, e1, e1n, e1m]
        repeat' first | done | ((first | ((with_reducible show lenS _ _ _ _ _ _); refine lenS_slice rfl fun _ => ?_) | ((with_reducible show iaddrS _ _ _ _ _ _ _); refine iaddr_map rfl omA omA ?_) | ((with_reducible show doCall _ _ _ 300 _ _); refine call_pc (s_Node (w := w) (F := F)) ?_) | ((with_reducible show doCall _ _ _ 303 _ _); refine call_pc (s_Group (w := w) (F := F)) ?_) | (with_reducible refine go_draw (i := 7) [(0, [], []), (1, [], []), (2, [], []), (3, [], []), (4, [], []), (5, [], []), (6, [], []), (7, [], []), (8, [], []), (9, [], []), (10, [], []), (11, [], []), (12, [], []), (13, [], []), (14, [], []), (15, [], []), (16, [], []), (17, [], []), (18, [], []), (19, [], []), (20, [], []), (21, [], []), (22, [], []), (23, [], []), (24, [], []), (25, [], [])] (by kernel_rfl) ?_)) <;> simp [-map_take, -map_drop, -map_tail, rgs, wldV, tskC, prgV, e1, e1n, e1m]) | ((first | (with_reducible refine guardD_split ?_ ?_) | (with_reducible refine guardS_split ?_ ?_) | (with_reducible refine condS_split ?_ ?_)) <;> intro qb <;> (have qp := qb; try simp only [psq] at qp) <;> simp [-map_take, -map_drop, -map_tail, rgs, wldV, tskC, prgV, e1, e1n, e1m, qb])
        all_goals
          first
          | (have hlt : i < w.tasks.length := (by first | omega | (simp at *; omega))
             rw [drop_gt hlt] at hJ
             first
             | (refine hnx.go (()) ?_ ?_ ?_ ?_ ?_ ?_; omega; (simp [wrap_succ hlt hlim]); (simp); exact keepA; (first | omega | (simp; omega)); (try dsimp only); clear hnx; first | ((try simp only [List.drop_length, Int.toNat_natCast, all1_cons, all1_nil, isTask, isIn, inR] at hJ ⊢); grind) | (simp_all [all1_cons, all1_nil, isTask, isIn, inR]; done) | (simp_all; omega))
             | (refine ⟨?_, keepA⟩; clear hnx; first | ((try simp only [List.drop_length, Int.toNat_natCast, all1_cons, all1_nil, isTask, isIn, inR] at hJ ⊢); grind) | (simp_all [all1_cons, all1_nil, isTask, isIn, inR]; done) | (simp_all; omega)))
          | (obtain rfl : i = w.tasks.length := (by first | omega | (simp at *; omega))
             refine ⟨?_, keepA⟩; clear hnx; first | ((try simp only [List.drop_length, Int.toNat_natCast, all1_cons, all1_nil, isTask, isIn, inR] at hJ ⊢); grind) | (simp_all [all1_cons, all1_nil, isTask, isIn, inR]; done) | (simp_all; omega))
      · try simp [-map_take, -map_drop, -map_tail, rgs, wldV, tskC, prgV, e1, e1n, e1m]
        repeat' first | done | ((first | ((with_reducible show lenS _ _ _ _ _ _); refine lenS_slice rfl fun _ => ?_) | ((with_reducible show iaddrS _ _ _ _ _ _ _); refine iaddr_map rfl omA omA ?_) | ((with_reducible show doCall _ _ _ 300 _ _); refine call_pc (s_Node (w := w) (F := F)) ?_) | ((with_reducible show doCall _ _ _ 303 _ _); refine call_pc (s_Group (w := w) (F := F)) ?_) | (with_reducible refine go_draw (i := 7) [(0, [], []), (1, [], []), (2, [], []), (3, [], []), (4, [], []), (5, [], []), (6, [], []), (7, [], []), (8, [], []), (9, [], []), (10, [], []), (11, [], []), (12, [], []), (13, [], []), (14, [], []), (15, [], []), (16, [], []), (17, [], []), (18, [], []), (19, [], []), (20, [], []), (21, [], []), (22, [], []), (23, [], []), (24, [], []), (25, [], [])] (by kernel_rfl) ?_)) <;> simp [-map_take, -map_drop, -map_tail, rgs, wldV, tskC, prgV, e1, e1n, e1m]) | ((first | (with_reducible refine guardD_split ?_ ?_) | (with_reducible refine guardS_split ?_ ?_) | (with_reducible refine condS_split ?_ ?_)) <;> intro qb <;> (have qp := qb; try simp only [psq] at qp) <;> simp [-map_take, -map_drop, -map_tail, rgs, wldV, tskC, prgV, e1, e1n, e1m, qb])
        all_goals
          first
          | (have hlt : i < w.tasks.length := (by first | omega | (simp at *; omega))
             rw [drop_gt hlt] at hJ
             first
             | (refine hnx.go (()) ?_ ?_ ?_ ?_ ?_ ?_; omega; (simp [wrap_succ hlt hlim]); (simp); exact keepA; (first | omega | (simp; omega)); (try dsimp only); clear hnx; first | ((try simp only [List.drop_length, Int.toNat_natCast, all1_cons, all1_nil] at hJ ⊢); grind) | (simp_all [all1_cons, all1_nil]; done) | (simp_all; omega))
             | (refine ⟨?_, keepA⟩; clear hnx; first | ((try simp only [List.drop_length, Int.toNat_natCast, all1_cons, all1_nil] at hJ ⊢); grind) | (simp_all [all1_cons, all1_nil]; done) | (simp_all; omega)))
          | (obtain rfl : i = w.tasks.length := (by first | omega | (simp at *; omega))
             refine ⟨?_, keepA⟩; clear hnx; first | ((try simp only [List.drop_length, Int.toNat_natCast, all1_cons, all1_nil] at hJ ⊢); grind) | (simp_all [all1_cons, all1_nil]; done) | (simp_all; omega))
  · refine PC.o okC Tryz.func181 rfl (.bool _) fun h nx hnx => ?_
    try simp [-map_take, -map_drop, -map_tail, rgs, wldV, ht]
    repeat' first | done | (((with_reducible show doCall _ _ _ 302 _ _); refine call_pc (s_TasksOk) ?_) <;> simp [-map_take, -map_drop, -map_tail, rgs, wldV, ht]) | fail
    all_goals (try clear hnx)
end Go.AE.Tryz
end

section
/- Contracts of the reference's readers: worlds. -/
set_option maxRecDepth 8000
set_option maxHeartbeats 4000000
namespace Go.AE.Tryz
open Go.Proofs
open List (map_take map_drop map_tail)

theorem s_WorldOk {F : Nat → Bool} {w : Wld} : PC ctx.P 62 [.agg (wldV F w)] (.bool (wldOk w)) := by
  refine PC.o okC Tryz.func62 rfl (.bool _) fun h nx hnx => ?_
  try simp [-map_take, -map_drop, -map_tail, rgs, wldV]
  repeat' first | done | ((first | ((with_reducible show doCall _ _ _ 176 _ _); refine call_pc (s_Progs) ?_) | ((with_reducible show doCall _ _ _ 177 _ _); refine call_pc (s_Events (w := w) (F := F)) ?_) | ((with_reducible show doCall _ _ _ 178 _ _); refine call_pc (s_SpreadOk (s := w.spread) (F := F)) ?_) | ((with_reducible show doCall _ _ _ 179 _ _); refine call_pc (s_Timers (w := w) (F := F)) ?_) | ((with_reducible show doCall _ _ _ 180 _ _); refine call_pc (s_Afters (w := w) (F := F)) ?_) | ((with_reducible show doCall _ _ _ 181 _ _); refine call_pc (s_Tasks (w := w) (F := F)) ?_) | ((with_reducible show doCall _ _ _ 182 _ _); refine call_pc (s_Groups (w := w) (F := F)) ?_) | ((with_reducible show doCall _ _ _ 183 _ _); refine call_pc (s_Sights (w := w) (F := F)) ?_) | ((with_reducible show doCall _ _ _ 184 _ _); refine call_pc (s_Numbers) ?_)) <;> simp [-map_take, -map_drop, -map_tail, rgs, wldV]) | ((with_reducible refine guardS_split ?_ ?_) <;> intro qb <;> (have qp := qb; try simp only [psq] at qp) <;> simp [-map_take, -map_drop, -map_tail, rgs, wldV, qb])
  all_goals (clear hnx; have ht : eventsOk w.tree w.events = true → treeOk w.tree = true := eventsOk_tree; simp only [wldOk]; (try simp only [all1] at *); grind)
end Go.AE.Tryz
end

section
/- Contracts of the reference's conditions: steady. -/
set_option maxRecDepth 8000
set_option maxHeartbeats 4000000
namespace Go.AE.Tryz
open Go.Proofs
open List (map_take map_drop map_tail)
theorem s_SteadyIn {F : Nat → Bool} {w : Wld} : PC ctx.P 18 [.agg (wldV F w)] (.bool (stedy w)) := by
  refine PC.lim (n := w.sights.length) (x := .agg (wldV F w)) (by simp) (.agg (x := .view (F 14) 4 (w.sights.map sgtC)) (by simp [wldV]) (.here (by simp))) ⟨_, Tryz.func18, by kernel_rfl, by kernel_rfl⟩ fun hlim => ?_
  unfold stedy
  by_cases hw : wldOk w = true
  · refine PC.o okC Tryz.func18 rfl (.bool _) fun h nx hnx => ?_
    rw [hw]
    try simp [-map_take, -map_drop, -map_tail, rgs, wldV, hw]
    repeat' first | done | (((with_reducible show doCall _ _ _ 62 _ _); refine call_pc (s_WorldOk (w := w) (F := F)) ?_) <;> simp [-map_take, -map_drop, -map_tail, rgs, wldV, hw]) | fail
    refine go_upP [2, 3, 4, 5, 6, 10, 11, 12, 13, 14, 15, 16, 17, 18, 19, 20, 21, 22, 23, 24, 25, 26, 27, 28, 29, 30, 31, 32, 33, 34, 35, 36, 37, 38, 39, 40, 41, 42, 43, 44, 45, 46, 47, 48, 49, 50, 51, 52, 53, 54, 55] (w.sights.length) (fun (i : Nat) a => [(3, .int .i64 i)]) (fun i_ a_ h_ _ => (fun (i : Nat) (_ : Unit) h' => steadyL (w.sights.take i) (w.sights.drop i) = steadyL [] w.sights) i_ a_ h_) (()) (by simp) ?_ keep_rfl (Nat.le_refl _) ?_
    · simp
    · intro i a tm h' n' hle hJ hE hn' next hnx
      try dsimp only at hJ
      have hK : KeepB nx h' h := KeepB.sub hE keepA (by omega)
      simp [-map_take, -map_drop, -map_tail]
      have e1 : h' (nx) = some (.obj (wldV F w)) := by have := hE (nx) (by omega); simpa [wldV] using this
      have e1n : ∀ k, ((nx) = n' + k) = False := fun k => by simp only [eq_iff_iff, iff_false]; omega
      have e1m : ((nx) = n') = False := by simp only [eq_iff_iff, iff_false]; omega
      have hJ0 := hJ
      by_cases hi : i < w.sights.length
      · try simp [-map_take, -map_drop, -map_tail, rgs, wldV, e1, e1n, e1m, hi]
        repeat' first | done | (((with_reducible show lenS _ _ _ _ _ _); refine lenS_slice rfl fun _ => ?_) <;> simp [-map_take, -map_drop, -map_tail, rgs, wldV, e1, e1n, e1m, hi]) | fail
        refine go_upP [2, 4, 5, 6, 17, 18, 19, 20, 21, 22, 23, 24, 25, 26, 27, 28, 29, 30, 31, 32, 33, 34, 35, 36, 37, 38, 39, 40, 41, 42, 43, 44, 45, 46, 47, 48, 49, 50, 51, 52, 53, 54, 55] (i) (fun (i : Nat) a => [(4, .int .i64 i)]) (fun i_ a_ h_ _ => (fun j (_ : Unit) _ => pairs w.sights i j = pairs w.sights i 0) i_ a_ h_) (()) (by simp) ?_ keep_rfl (Nat.le_refl _) ?_
        · rfl
        · intro j b tm2 h2 n2 hle2 hJ2 hE2 hn2 next2 hnx2
          try dsimp only at hJ2
          have hK2 : KeepB nx h2 h := KeepB.sub hE2 keepA (by omega)
          simp [-map_take, -map_drop, -map_tail]
          have e2 := (hE2 (nx) (by omega)).trans e1
          have e2n : ∀ k, ((nx) = n2 + k) = False := fun k => by simp only [eq_iff_iff, iff_false]; omega
          have e2m : ((nx) = n2) = False := by simp only [eq_iff_iff, iff_false]; omega
          by_cases hj : j < i
          · have hps := pairs_step hi hj
            rw [hps] at hJ2
            try simp [-map_take, -map_drop, -map_tail, rgs, wldV, sgtC, e2, e2n, e2m, hj]
            repeat' first | done | (((with_reducible show iaddrS _ _ _ _ _ _ _); refine iaddr_map rfl omA omA ?_) <;> simp [-map_take, -map_drop, -map_tail, rgs, wldV, sgtC, e2, e2n, e2m, hj]) | ((first | (with_reducible refine guardS_split ?_ ?_) | (with_reducible refine condS_split ?_ ?_)) <;> intro qb <;> (have qp := qb; try simp only [psq] at qp) <;> simp [-map_take, -map_drop, -map_tail, rgs, wldV, sgtC, e2, e2n, e2m, hj, qb])
            all_goals
              clear hnx hJ
              first
              | (refine ⟨?_, keepA⟩; clear hnx2; exact steady_no hi hJ0 (by rw [← hJ2, show okSgt (gt w.sights (j : Int)) (gt w.sights (i : Int)) = false from by simp_all [okSgt]]; rfl))
              | (refine hnx2.go () (by omega) (by simp [wrap_succ (show j < w.sights.length by omega) hlim]) (by simp) keepA (by first | omega | (simp; omega)) ?_; clear hnx2; rw [← hJ2, show okSgt (gt w.sights (j : Int)) (gt w.sights (i : Int)) = true from by simp_all [okSgt]]; rfl)
          · try simp [-map_take, -map_drop, -map_tail, rgs, hj]
            refine hnx.go () (by omega) (by simp [wrap_succ hi hlim]) (by simp) keepA (by first | omega | (simp; omega)) ?_
            exact steady_go hi hJ (by rw [← hJ2, pairs_end (by omega)])
      · have hi2 : ¬ ((i : Int) < w.sights.length) := by omega
        try simp [-map_take, -map_drop, -map_tail, rgs, wldV, e1, e1n, e1m, hi, hi2]
        repeat' first | done | (((with_reducible show lenS _ _ _ _ _ _); refine lenS_slice rfl fun _ => ?_) <;> simp [-map_take, -map_drop, -map_tail, rgs, wldV, e1, e1n, e1m, hi, hi2]) | fail
        exact ⟨by rw [← hJ, steady_end (by omega)], keepA⟩
  · refine PC.o okC Tryz.func18 rfl (.bool _) fun h nx hnx => ?_
    try simp [-map_take, -map_drop, -map_tail, rgs, hw]
    repeat' first | done | (((with_reducible show doCall _ _ _ 62 _ _); refine call_pc (s_WorldOk (w := w) (F := F)) ?_) <;> simp [-map_take, -map_drop, -map_tail, rgs, hw]) | fail
    all_goals (try clear hnx)
end Go.AE.Tryz
end

section
/- The law of the condition 'steady': what the program and the reference answer is the same. -/
set_option maxRecDepth 8000
set_option maxHeartbeats 4000000
namespace Go.AE.Tryz
open Go.Proofs
open List (map_take map_drop map_tail)
theorem wldV_ones {F : Nat → Bool} {w : Wld} : ∀ x ∈ wldV F w, x.one = true := by simp [wldV]
theorem law_SteadyIn {w : Wld} : PC ctx.P 4 [.agg (wldV (fun _ => true) w)] (.bool true) := by
  by_cases hs : wldsz w ≤ 1048576
  · have e : szR (wldsz w) 1048576 = 1048576 - wldsz w := by rcases szR_or (wldsz w) 1048576 with q | q <;> omega
    refine PC.o okC Tryz.func4 rfl (.bool _) fun h nx hnx => ?_
    have hones : (∀ x ∈ wldV (fun _ => true) w, x.one = true) = True := by simp only [eq_iff_iff, iff_true]; exact wldV_ones
    try simp [-map_take, -map_drop, -map_tail, rgs, e, hones]
    repeat' first | done | ((first | ((with_reducible show doCall _ _ _ 17 _ _); refine call_pc (c_szWorld (s := w) (F := fun _ => true) (by omega) (by omega)) ?_) | ((with_reducible show doCall _ _ _ 19 _ _); refine call_pc (c_toWorld (s := w) (F := fun _ => true) hs) ?_) | ((with_reducible show doCall _ _ _ 18 _ _); refine call_pc (s_SteadyIn (w := w) (F := fun _ => true)) ?_) | ((with_reducible show doCall _ _ _ 20 _ _); refine call_pc (c_SteadyIn (w := w)) ?_) | ((with_reducible show doCall _ _ _ 21 _ _); refine call_pc (c_eqWorld (x := w) (y := w) (F1 := fun _ => true) (F2 := fun _ => true)) ?_) | (with_reducible refine go_draw (i := 10) [(0, [], []), (1, [], []), (2, [.tmp 5], []), (3, [], []), (4, [], [])] (by kernel_rfl) ?_)) <;> simp [-map_take, -map_drop, -map_tail, rgs, e, hones]) | ((with_reducible refine condS_split ?_ ?_) <;> intro qb <;> (have qp := qb; try simp only [psq] at qp) <;> simp [-map_take, -map_drop, -map_tail, rgs, e, hones, qb])
    all_goals (clear hnx; first | omega | simp_all)
  · have e : szR (wldsz w) 1048576 = -1 := by rcases szR_or (wldsz w) 1048576 with q | q <;> omega
    refine PC.o okC Tryz.func4 rfl (.bool _) fun h nx hnx => ?_
    try simp [-map_take, -map_drop, -map_tail, rgs, e]
    repeat' first | done | (((with_reducible show doCall _ _ _ 17 _ _); refine call_pc (c_szWorld (s := w) (F := fun _ => true) (by omega) (by omega)) ?_) <;> simp [-map_take, -map_drop, -map_tail, rgs, e]) | fail
end Go.AE.Tryz
end
