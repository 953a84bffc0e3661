/- Abstract machine: row literals, stores, append. -/
import Derived.Test.YtkfdpbhjklaecaaAeSound6
namespace Go.AE
set_option linter.unusedVariables false
set_option linter.unusedSimpArgs false

section
variable {C : Ctx} {N : Nat} {ρ : Names} {I : Imm} {w : World} {st : St} {a : Act} {id : Nat} {K : St → Prop} {o : Oper} {Q : Exit → Act → World → Prop}

/-- Freezing first, an operation behind. -/
theorem After.of_ext {st1 : St} {ρ1 : Names} {I1 : Imm} {w1 : World} {a' w'} (E : Ext st.h ρ I w st1.h ρ1 I1 w1) (hρ : ρ1 = ρ) (hnx : st1.nx = st.nx) (h : After N st1 ρ1 I1 w1 id K a' w') :
    After N st ρ I w id K a' w' := by
  obtain ⟨st', ρ', I', h1, h2, h3, h4, h5⟩ := h
  refine ⟨st', ρ', I', h1, h2, E.trans h3, fun i B hB => ?_, by omega⟩
  rcases h4 i B hB with h | h | h
  · exact .inl (by rw [← hρ]; exact h)
  · exact .inr (.inl h)
  · exact .inr (.inr (by omega))

theorem SRel.ext {st1 : St} {I1 : Imm} (r : SRel N ρ I w st a) (H : HRel ρ I1 w st1.h) (E : Ext st.h ρ I w st1.h ρ I1 w) (ht : st1.t = st.t) (hnx : st1.nx = st.nx) : SRel N ρ I1 w st1 a :=
  ⟨r.sz, r.df, fun n => by rw [ht]; exact E.vr r.hp (r.tm n), H, fun i B h => by rw [hnx]; exact r.nm i B h⟩

theorem s_buildSlice (ok : C.Ok) (r : SRel N ρ I w st a) (hd : dstOk N o) (hn : ρ id = none) (hid : id < st.nx) (t len parts) (ho : o.op = .buildSlice t len parts) {d e de} {xs : List (List AV)} {h' : Heap}
    (ht : C.ty t = some d) (he : d.elem = some e) (hde : C.ty e = some de) (hpos : 0 < de.size) (hlen : len * de.size ≤ 2 ^ 24)
    (hrow : rowA de.size st.h (parts.toList.map fun (i, x) => (i, st.ev x)) (List.replicate len de.zero) = some (xs, h'))
    (hK : K ((({ st with h := h' } : St).new id (.row de.size xs)).put o.dst (.ref id de.size 0 len))) : o.wp C.P a w (After N st ρ I w id K) Q := by
  obtain ⟨i, u, z, F⟩ := ok.facts hde
  have hsl := ok.slice ht he
  have hfl := zeroRow_flat (ρ := ρ) (I := I) (w := w) (z := z) (d := de) (n := len) hpos F.zlen F.zsize (fun j x u hx hu => F.zvr j x u hx hu ρ I w)
  obtain ⟨us', I1, g1, g2, g3, g4, g5⟩ := rowA_sound (ρ := ρ) (w := w) (n := de.size) (fun i => some (i * de.size, de.size)) (fun _ => rfl) (parts.toList.map fun (i, x) => (i, st.ev x)) (parts.toList.map fun (i, x) => (i, a.eval x))
    st.h h' I (List.replicate len de.zero) xs _ r.hp (by simp) (fun j i x i' v hx hv => by
      simp only [List.getElem?_map, Option.map_eq_some_iff] at hx hv
      obtain ⟨p, hp, hp'⟩ := hx
      obtain ⟨q, hq, hq'⟩ := hv
      rw [hp] at hq; cases hq
      obtain ⟨i0, x0⟩ := p
      simp at hp' hq'
      obtain ⟨rfl, rfl⟩ := hp'
      obtain ⟨rfl, rfl⟩ := hq'
      exact ⟨rfl, r.ev x0⟩) hfl hrow
  have hxl : xs.length = len := by simpa using g5
  have hlim : len ≤ LIM := by
    have : len * 1 ≤ len * de.size := Nat.mul_le_mul_left len hpos
    simp only [LIM]; omega
  have hrun : (execOp a.eval o).run C.P w = .ok (.value (.slice (some ⟨w.heap.size, 0, none⟩) len len)) (w.alloc (.cells us' e)) := by
    simp only [execOp, ho]
    refine run_v (a := a) ?_
    have hle : ¬ (len * de.size > 2 ^ 24) := by omega
    simp only [Instr.buildSlice, Sem.run_bind, run_underlying hsl, Result.andThen_ok, run_sizeOf' F.info, F.size, if_neg hle, Sem.run_pure, Array.toList_map]
    by_cases hz : len * de.size = 0
    · have h0 : len = 0 := by rcases Nat.mul_eq_zero.1 hz with h | h <;> omega
      have e1 : (Array.range (len * de.size)).map (z.cells[· % z.cells.size]!) = #[] := by simp [hz, Array.range]
      have e2 : ∀ zz : Array Value, (Array.range (len * de.size)).map (zz[· % zz.size]!) = #[] := by intro zz; simp [hz, Array.range]
      rw [e1] at g1
      simp only [hz, if_true, Sem.run_pure, Result.andThen_ok]
      rw [hz] at e2
      simp only [e2]
      rw [g1]
      simp [newRow]
    · simp only [hz, if_false, Sem.run_bind, zeroValue, typeInfo, run_program, Result.andThen_ok, F.info, Sem.run_pure, F.zero]
      rw [g1]
      simp [newRow]
  have r1 : SRel N ρ I1 w { st with h := h' } a := r.ext (st1 := { st with h := h' }) g2 g3 rfl rfl
  have key : o.wp C.P a w (After N { st with h := h' } ρ I1 w id K) Q := by
    refine s_new (B0 := ⟨some w.heap.size, 0, len, de.size⟩) (h0 := h') r1 hd hn hid hrun (fun _ _ h => h) (.inr rfl) (fun k hk => heap_alloc_old w _ k hk) (by simp) rfl rfl rfl ?_ ?_ hK
    · refine row_of_flat hpos (by omega) (g4.mono fun x u h => mono_new g2 hn _ h) (b := w.heap.size) ?_ (heap_alloc_new w _)
      rw [hxl]; exact upd_same ..
    · have := VR.ref (ρ := upd ρ id (some ⟨some w.heap.size, 0, len, de.size⟩)) (I := I1) (w := w.alloc (.cells us' e)) id de.size 0 len w.heap.size len _ (upd_same ..) rfl rfl (by simp) (Nat.le_refl _) hlim
      simpa using this
  unfold Oper.wp at key ⊢
  rw [hrun] at key ⊢
  exact After.of_ext (st1 := { st with h := h' }) g3 rfl rfl key

theorem run_storeVar {P : Program} {t : TypeId} {i : TypeInfo} (hi : P.info? t = some i) {b o : Nat} {cur : Array Value} {ty : TypeId} {v : Value} (hb : w.heap[b]? = some (.cells cur ty (0, 0))) (hs : v.cells.size = i.size)
    (hle : o + v.cells.size ≤ cur.size) (h1 : ∀ u ∈ v.cells.toList, u.oneCell' = true) :
    (storeVar t ⟨b, o, none⟩ v).run P w = .ok () (w.setRow b (cur.toList.take o ++ v.cells.toList ++ cur.toList.drop (o + v.cells.size)).toArray) := by
  have h := run_storeCells_at P b o ty v.cells.toList 0 cur w hb (by simpa using hle) h1
  simp only [Nat.add_zero, Array.length_toList] at h
  simp [storeVar, run_sizeOf' hi, hs, h]

theorem cells_one {x : AV} {v : Value} (h : VR ρ I w x v) (hk : x.cells.all AV.one = true) : (v.cells.size = x.cells.length ∧ ∀ (i : Nat) y u, x.cells[i]? = some y → v.cells[i]? = some u → VR ρ I w y u) ∧ ∀ u ∈ v.cells.toList, u.oneCell' = true := by
  have hkn : x.known = true := by cases x <;> first | rfl | (simp [AV.cells, AV.one] at hk)
  have hc := h.cellsOf hkn
  refine ⟨hc, fun u hu => ?_⟩
  obtain ⟨i, hi⟩ := List.getElem?_of_mem hu
  have hlt : i < v.cells.size := by have := (List.getElem?_eq_some_iff.1 hi).1; simpa using this
  have hx : i < x.cells.length := by omega
  have hone : (x.cells[i]).one = true := by
    rw [List.all_eq_true] at hk
    exact hk _ (List.getElem_mem hx)
  exact (hc.2 i _ u (List.getElem?_eq_getElem hx) (by simpa using hi)).oneCell hone

/-- A row or an object changed in place. -/
theorem change_ext {h h' : Heap} (H : HRel ρ I w h) {id0 : Nat} {e e0 : Ent} {B0 : Base} {b : Nat} {cur cur' : Array Value} {ty : TypeId} (he : h id0 = some e) (hB : ρ id0 = some B0) (hb : B0.blk = some b)
    (hcur : w.heap[b]? = some (.cells cur ty (0, 0))) (hold : ∀ i e, i ≠ id0 → h' i = some e → h i = some e) (hid : h' id0 = some e0) (hrel : EntR ρ I (w.setRow b cur') id0 e0) :
    HRel ρ I (w.setRow b cur') h' ∧ Ext h ρ I w h' ρ I (w.setRow b cur') := by
  have hw : ∀ k, k < w.heap.size → B0.blk ≠ some k → (w.setRow b cur').heap[k]? = w.heap[k]? := fun k hk hne => setRow_other w b k cur' (fun e => hne (by rw [hb, e]))
  refine ⟨H.replace (fun _ _ h => h) hold hid hB ?_ ?_ hw (by simp) hrel, Ext.replace H (fun _ _ h => h) hold hid hB ?_ hw (by simp) rfl rfl rfl⟩
  · intro i e' B b' hne hi hBi hb' hb2
    exact H.sep id0 i e e' B0 B b' he (hold i e' hne hi) (fun e => hne e.symm) hB hBi hb' hb2
  · intro b' p hb' hi
    exact H.imm id0 e B0 b' p he hB hb' hi
  · intro b' hb'
    exact .inl ⟨id0, e, B0, he, hB, hb'⟩

theorem mono_row {H : HRel ρ I w st.h} {id0 e B0 b cur'} (he : st.h id0 = some e) (hB : ρ id0 = some B0) (hb : B0.blk = some b) {x u} (hv : VR ρ I w x u) : VR ρ I (w.setRow b cur') x u := by
  refine hv.mono (fun _ _ h => h) (fun _ _ h => h) (fun p k hk => setRow_other w b k cur' ?_)
  rintro rfl
  exact H.imm id0 e B0 k p he hB hb hk

theorem s_changed (r : SRel N ρ I w st a) (hd : dstOk N o) {id0 : Nat} {e e0 : Ent} {B0 : Base} {b : Nat} {cur cur' : Array Value} {ty : TypeId} {h1 : Heap} (he : st.h id0 = some e) (hB : ρ id0 = some B0) (hb : B0.blk = some b)
    (hcur : w.heap[b]? = some (.cells cur ty (0, 0))) (hh1 : ∀ i e, i ≠ id0 → h1 i = some e → st.h i = some e)
    (hrel : EntR ρ I (w.setRow b cur') id0 e0) (hrun : (execOp a.eval o).run C.P w = .ok .skip (w.setRow b cur'))
    (hK : K ({ st with h := upd h1 id0 (some e0) }.put o.dst .dead)) : o.wp C.P a w (After N st ρ I w id K) Q := by
  obtain ⟨H', E'⟩ := change_ext (h' := upd h1 id0 (some e0)) (cur' := cur') r.hp he hB hb hcur (fun i e' hne h => hh1 i e' hne (by rwa [upd_ne _ _ _ _ hne] at h)) (upd_same ..) hrel
  unfold Oper.wp
  rw [hrun]
  show After N st ρ I w id K (a.put o.dst undef) _
  refine ⟨_, ρ, I, hK, ?_, by rw [put_h]; exact E', fun i B h => .inl h, by simp⟩
  exact SRel.put (st := { st with h := upd h1 id0 (some e0) }) ⟨r.sz, r.df, fun n => E'.vr r.hp (r.tm n), H', r.nm⟩ (.dead _) hd

theorem s_store_ptr (ok : C.Ok) (r : SRel N ρ I w st a) (hd : dstOk N o) (t p x) (ho : o.op = .store t p x) (hone : (st.ev x).cells.all AV.one = true) {q off : Nat} {d : TyD} {cells : List AV} (hp : st.ev p = .ptr q off)
    (ht : C.ty t = some d) (hq : st.h q = some (.obj cells)) (hl : (st.ev x).cells.length = d.size) (hle : off + d.size ≤ cells.length)
    (hK : K ({ st with h := upd st.h q (some (.obj (splice cells off (st.ev x).cells))) }.put o.dst .dead)) : o.wp C.P a w (After N st ρ I w id K) Q := by
  obtain ⟨i, u, z, F⟩ := ok.facts ht
  have hpv := r.ev p
  rw [hp] at hpv
  obtain ⟨⟨c1, c2⟩, c3⟩ := cells_one (r.ev x) hone
  generalize hu : a.eval p = pv at hpv
  cases hpv with
  | ptr _ _ b B hB hb =>
    obtain ⟨B', b', cur, ty, g1, g2, g3, g4, g5⟩ := r.hp.obj q cells hq
    rw [hB] at g1; cases g1
    rw [hb] at g2; cases g2
    have hs : (a.eval x).cells.size = d.size := by omega
    have hst := run_storeVar (P := C.P) (w := w) (t := t) F.info (b := b) (o := off) g3 (by rw [hs, F.size]) (by omega) c3
    refine s_changed (cur' := (cur.toList.take off ++ (a.eval x).cells.toList ++ cur.toList.drop (off + (a.eval x).cells.size)).toArray) r hd hq hB hb g3 (h1 := st.h) (fun i e _ h => h) ?_
      (by simp only [execOp, ho, Sem.run_bind, hu, Instr.storeAt, Instr.sureAddr, Sem.run_pure, Result.andThen_ok, hst]) hK
    refine ⟨B, b, _, ty, hB, hb, setRow_heap w b cur _ ty _ g3, ?_, fun j y v hy hv => mono_row (H := r.hp) hq hB hb ?_⟩
    · have e1 := splice_len cells (st.ev x).cells off (by omega)
      have e2 := splice_len cur.toList (a.eval x).cells.toList off (by simp; omega)
      simp only [Array.length_toList] at e2
      unfold splice
      rw [e1, List.size_toArray, e2, g4]
    · unfold splice at hy
      rw [splice_get _ _ _ _ (by omega)] at hy
      have e2 := splice_get cur.toList (a.eval x).cells.toList off j (by simp; omega)
      simp only [Array.length_toList, Array.getElem?_toList] at e2
      rw [List.getElem?_toArray, e2] at hv
      by_cases hj : off ≤ j ∧ j < off + (st.ev x).cells.length
      · rw [if_pos hj] at hy
        rw [if_pos (by omega)] at hv
        exact c2 _ y v hy hv
      · rw [if_neg hj] at hy
        rw [if_neg (by omega)] at hv
        exact g5 j y v hy hv

theorem s_store_ep (ok : C.Ok) (r : SRel N ρ I w st a) (hd : dstOk N o) (t p x) (ho : o.op = .store t p x) (hone : (st.ev x).cells.all AV.one = true) {q idx off sz : Nat} {d : TyD} {xs : List (List AV)} {vs : List AV} {h' : Heap}
    (hp : st.ev p = .ep q idx off) (ht : C.ty t = some d) (hf : frz st.h (st.ev x).cells = some (vs, h')) (hq : h' q = some (.row sz xs)) (hl : vs.length = d.size) (hle : off + d.size ≤ sz) (hlt : idx < xs.length)
    (hK : ∀ cells, xs[idx]? = some cells → K ({ st with h := upd h' q (some (.row sz (xs.set idx (splice cells off vs)))) }.put o.dst .dead)) : o.wp C.P a w (After N st ρ I w id K) Q := by
  obtain ⟨i, u, z, F⟩ := ok.facts ht
  have hpv := r.ev p
  rw [hp] at hpv
  obtain ⟨⟨c1, c2⟩, c3⟩ := cells_one (r.ev x) hone
  obtain ⟨I1, H1, E1, l1, v1⟩ := frz_sound (st.ev x).cells st.h h' I vs (a.eval x).cells.toList r.hp hf (by simpa using c1) (fun i y u hy hu => c2 i y u hy (by simpa using hu))
  have r1 : SRel N ρ I1 w { st with h := h' } a := r.ext (st1 := { st with h := h' }) H1 E1 rfl rfl
  generalize hu : a.eval p = pv at hpv
  cases hpv with
  | ep _ _ _ b B hB hb =>
    have hcells := List.getElem?_eq_getElem hlt
    obtain ⟨B', g1, g2, g3, g4, g5, g6⟩ := H1.row q sz xs hq
    rw [hB] at g1; cases g1
    rcases g6 with ⟨g6, _⟩ | ⟨b', cur, ty, k1, k2, k3, k4, k5, k6⟩
    · rw [hb] at g6; cases g6
    · rw [hb] at k1; cases k1
      have hs : (a.eval x).cells.size = d.size := by omega
      have hidx := Nat.mul_le_mul_right sz (show idx + 1 ≤ B.cap by omega)
      rw [Nat.add_mul, Nat.one_mul] at hidx
      have hst := run_storeVar (P := C.P) (w := w) (t := t) F.info (b := b) (o := B.off + idx * B.sz + off) k2 (by rw [hs, F.size]) (by rw [g2]; omega) c3
      have hrun : (execOp a.eval o).run C.P w = .ok .skip (w.setRow b (cur.toList.take (B.off + idx * B.sz + off) ++ (a.eval x).cells.toList ++ cur.toList.drop (B.off + idx * B.sz + off + (a.eval x).cells.size)).toArray) := by
        simp only [execOp, ho, Sem.run_bind, hu, Instr.storeAt, Instr.sureAddr, Sem.run_pure, Result.andThen_ok, hst]
      have key : o.wp C.P a w (After N { st with h := h' } ρ I1 w id K) Q := by
        refine s_changed (e0 := .row sz (xs.set idx (splice xs[idx] off vs))) r1 hd hq hB hb k2 (h1 := h') (fun i e _ h => h) ?_ hrun (hK _ hcells)
        have hlen : (xs[idx]).length = sz := g5 idx _ hcells
        refine ⟨B, hB, g2, g3, by rw [List.length_set]; exact g4, fun i y hy => ?_, .inr ⟨b, _, ty, hb, setRow_heap w b cur _ ty _ k2, ?_, by rw [List.length_set]; exact k4, k5, fun i j y v hy hv => mono_row (st := { st with h := h' }) (H := H1) hq hB hb ?_⟩⟩
        · by_cases hi : i = idx
          · subst hi
            rw [List.getElem?_set_self hlt] at hy
            cases hy
            unfold splice
            rw [splice_len _ _ _ (by omega), hlen]
          · rw [List.getElem?_set_ne (fun e => hi e.symm)] at hy
            exact g5 i y hy
        · have e2 := splice_len cur.toList (a.eval x).cells.toList (B.off + idx * B.sz + off) (by simp [g2]; omega)
          simp only [Array.length_toList] at e2
          rw [List.size_toArray, e2]
          exact k3
        · have e2 := splice_get cur.toList (a.eval x).cells.toList (B.off + idx * B.sz + off) (B.off + i * sz + j) (by simp [g2]; omega)
          simp only [Array.length_toList, Array.getElem?_toList] at e2
          rw [List.getElem?_toArray, e2, g2] at hv
          rcases get2_set hlt hy with ⟨rfl, hy2⟩ | ⟨hne, hy2⟩
          · unfold splice at hy2
            rw [splice_get _ _ _ _ (by omega)] at hy2
            by_cases hin : off ≤ j ∧ j < off + vs.length
            · rw [if_pos hin] at hy2
              rw [if_pos (by omega)] at hv
              have : B.off + i * sz + j - (B.off + i * sz + off) = j - off := by omega
              rw [this] at hv
              exact v1 _ y v hy2 (by simpa using hv)
            · rw [if_neg hin] at hy2
              rw [if_neg (by omega)] at hv
              exact k6 i j y v (by simp [get2, hcells, hy2]) hv
          · have hj : j < sz := by
              obtain ⟨cells, q1, q2⟩ := get2_some hy2
              rw [← g5 i cells q1]; exact (List.getElem?_eq_some_iff.1 q2).1
            have hout : ¬ (B.off + idx * sz + off ≤ B.off + i * sz + j ∧ B.off + i * sz + j < B.off + idx * sz + off + (a.eval x).cells.size) := by
              rintro ⟨q1, q2⟩
              have : i * sz + j = idx * sz + (i * sz + j - idx * sz) := by omega
              exact hne (flat_idx hj (by omega) this).1
            rw [if_neg hout] at hv
            exact k6 i j y v hy2 hv
      unfold Oper.wp at key ⊢
      rw [hrun] at key ⊢
      exact After.of_ext (st1 := { st with h := h' }) E1 rfl rfl key

end
end Go.AE
