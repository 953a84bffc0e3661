/- Abstract machine: soundness of loads, addresses, slices. -/
import Derived.Test.YtkfdpbhjklaecaaAeSound2
namespace Go.AE
set_option linter.unusedVariables false
set_option linter.unusedSimpArgs false

section
variable {C : Ctx} {N : Nat} {ρ : Names} {I : Imm} {w : World} {st : St} {a : Act} {id : Nat} {K : St → Prop} {o : Oper} {Q : Exit → Act → World → Prop}

theorem load_run (ok : C.Ok) {t d} (ht : C.ty t = some d) {cells : List AV} {b off o : Nat} {v : AV}
    (hex : ∀ (i : Nat) x, cells[i]? = some x → ∃ u, w.cell? ⟨b, o + i, none⟩ = some u)
    (hvr : ∀ (i : Nat) x u, cells[i]? = some x → w.cell? ⟨b, o + i, none⟩ = some u → VR ρ I w x u)
    (hl : loadA d cells off = some v) : ∃ u, (loadVar t ⟨b, o + off, none⟩).run C.P w = .ok u w ∧ VR ρ I w v u := by
  unfold loadA at hl
  by_cases ha : d.agg = true
  · rw [if_pos ha] at hl
    split at hl
    · rename_i hle
      cases hl
      obtain ⟨i, u0, z, F⟩ := ok.facts ht
      have hj : ∀ j, j < d.size → ∃ x u, cells[off + j]? = some x ∧ w.cell? ⟨b, o + (off + j), none⟩ = some u ∧ VR ρ I w x u := by
        intro j hj
        have h1 : off + j < cells.length := by omega
        obtain ⟨u, hu⟩ := hex _ _ (List.getElem?_eq_getElem h1)
        exact ⟨_, u, List.getElem?_eq_getElem h1, hu, hvr _ _ u (List.getElem?_eq_getElem h1) hu⟩
      have hrun := run_loadCells (P := C.P) w ⟨b, o + off, none⟩ d.size (fun j => (w.cell? ⟨b, o + (off + j), none⟩).getD undef) (fun j hj' => by
        obtain ⟨x, u, h1, h2, h3⟩ := hj j hj'
        rw [Addr.add_lit, Nat.add_assoc, h2]; rfl)
      refine ⟨.agg ((List.range d.size).map fun j => (w.cell? ⟨b, o + (off + j), none⟩).getD undef).toArray, ?_, .agg _ _ (by simp; omega) fun i x u hx hu => ?_⟩
      · simp [loadVar, ok.isAggT ht ha, run_sizeOf' F.info, F.size, hrun]
      · have hi : i < d.size := by
          have := (List.getElem?_eq_some_iff.1 hx).1
          simp at this; omega
        obtain ⟨x', u', h1, h2, h3⟩ := hj i hi
        have hx' : x = x' := by
          rw [List.getElem?_take] at hx
          simp only [hi, if_true, List.getElem?_drop, h1] at hx
          cases hx; rfl
        have hu' : u = u' := by
          simp [hi, h2] at hu
          exact hu.symm
        rw [hx', hu']; exact h3
    · cases hl
  · rw [if_neg ha] at hl
    obtain ⟨u, hu⟩ := hex off v hl
    refine ⟨u, ?_, hvr off v u hl hu⟩
    have ha' : d.agg = false := by simpa using ha
    simp [loadVar, ok.notAgg ht ha', hu]

theorem objR_cells {id cells} (h : ObjR ρ I w id cells) {B b} (hB : ρ id = some B) (hb : B.blk = some b) :
    (∀ (i : Nat) x, cells[i]? = some x → ∃ u, w.cell? ⟨b, 0 + i, none⟩ = some u) ∧
    (∀ (i : Nat) x u, cells[i]? = some x → w.cell? ⟨b, 0 + i, none⟩ = some u → VR ρ I w x u) := by
  obtain ⟨B', b', cur, ty, h1, h2, h3, h4, h5⟩ := h
  rw [hB] at h1; cases h1
  rw [hb] at h2; cases h2
  refine ⟨fun i x hx => ?_, fun i x u hx hu => ?_⟩
  · rw [cell_of_row w b _ cur ty _ h3, Nat.zero_add]
    have : i < cur.size := by rw [h4]; exact (List.getElem?_eq_some_iff.1 hx).1
    exact ⟨_, Array.getElem?_eq_getElem this⟩
  · rw [cell_of_row w b _ cur ty _ h3, Nat.zero_add] at hu
    exact h5 i x u hx hu

theorem rowR_cells {id sz xs} (h : RowR ρ I w id sz xs) {B b} (hB : ρ id = some B) (hb : B.blk = some b) {idx : Nat} {cells : List AV} (hc : xs[idx]? = some cells) :
    (∀ (i : Nat) x, cells[i]? = some x → ∃ u, w.cell? ⟨b, B.off + idx * B.sz + i, none⟩ = some u) ∧
    (∀ (i : Nat) x u, cells[i]? = some x → w.cell? ⟨b, B.off + idx * B.sz + i, none⟩ = some u → VR ρ I w x u) := by
  obtain ⟨B', h1, h2, h3, h4, h5, h6⟩ := h
  rw [hB] at h1; cases h1
  rcases h6 with ⟨h6, _⟩ | ⟨b', cur, ty, g1, g2, g3, g4, g5, g6⟩
  · rw [hb] at h6; cases h6
  · rw [hb] at g1; cases g1
    subst h2
    have hlen := h5 idx cells hc
    have hidx : idx < xs.length := (List.getElem?_eq_some_iff.1 hc).1
    refine ⟨fun i x hx => ?_, fun i x u hx hu => ?_⟩
    · rw [cell_of_row w b _ cur ty _ g2]
      have hi : i < B.sz := by rw [← hlen]; exact (List.getElem?_eq_some_iff.1 hx).1
      have h1 : idx + 1 ≤ B.cap := by omega
      have h2 := Nat.mul_le_mul_right B.sz h1
      rw [Nat.add_mul, Nat.one_mul] at h2
      have : B.off + idx * B.sz + i < cur.size := by omega
      exact ⟨_, Array.getElem?_eq_getElem this⟩
    · rw [cell_of_row w b _ cur ty _ g2] at hu
      exact g6 idx i x u (by simp [get2, hc, hx]) hu

theorem s_load_ptr (ok : C.Ok) (r : SRel N ρ I w st a) (hd : dstOk N o) (t x) (ho : o.op = .load t x) {p off : Nat} {d : TyD} {cells : List AV} {v : AV} (hx : st.ev x = .ptr p off)
    (ht : C.ty t = some d) (hp : st.h p = some (.obj cells)) (hl : loadA d cells off = some v) (h : K (st.put o.dst v)) : o.wp C.P a w (After N st ρ I w id K) Q := by
  have h1 := r.ev x
  rw [hx] at h1
  generalize hu : a.eval x = u at h1
  cases h1 with
  | ptr _ _ b B hB hb =>
    obtain ⟨c1, c2⟩ := objR_cells (r.hp.obj p cells hp) hB hb
    obtain ⟨v', hrun, hvr⟩ := load_run ok ht c1 c2 hl
    rw [Nat.zero_add] at hrun
    refine step_pure r hd ?_ hvr h
    simp [execOp, ho, hu, Instr.loadAt, Instr.sureAddr, hrun]

theorem s_load_ep (ok : C.Ok) (r : SRel N ρ I w st a) (hd : dstOk N o) (t x) (ho : o.op = .load t x) {p idx off sz : Nat} {d : TyD} {xs : List (List AV)} (hx : st.ev x = .ep p idx off)
    (ht : C.ty t = some d) (hp : st.h p = some (.row sz xs)) (hlt : idx < xs.length) (h : ∀ cells, xs[idx]? = some cells → ∃ v, loadA d cells off = some v ∧ K (st.put o.dst v)) :
    o.wp C.P a w (After N st ρ I w id K) Q := by
  have h1 := r.ev x
  rw [hx] at h1
  generalize hu : a.eval x = u at h1
  cases h1 with
  | ep _ _ _ b B hB hb =>
    have hc := List.getElem?_eq_getElem hlt
    obtain ⟨v, hl, hK⟩ := h _ hc
    obtain ⟨c1, c2⟩ := rowR_cells (r.hp.row p sz xs hp) hB hb hc
    obtain ⟨v', hrun, hvr⟩ := load_run ok ht c1 c2 hl
    refine step_pure r hd ?_ hvr hK
    simp [execOp, ho, hu, Instr.loadAt, Instr.sureAddr, hrun]

theorem s_load_vptr (ok : C.Ok) (r : SRel N ρ I w st a) (hd : dstOk N o) (t x) (ho : o.op = .load t x) {d : TyD} {cells : List AV} {v : AV} (hx : st.ev x = .vptr cells)
    (ht : C.ty t = some d) (hl : loadA d cells 0 = some v) (h : K (st.put o.dst v)) : o.wp C.P a w (After N st ρ I w id K) Q := by
  have h1 := r.ev x
  rw [hx] at h1
  generalize hu : a.eval x = u at h1
  cases h1 with
  | vptr _ p b off hp c1 c2 =>
    obtain ⟨v', hrun, hvr⟩ := load_run ok ht c1 c2 hl
    refine step_pure r hd ?_ hvr h
    rw [Nat.add_zero] at hrun
    simp [execOp, ho, hu, Instr.loadAt, Instr.sureAddr, hrun]

theorem fields_at (ok : C.Ok) {s : TypeId} {d : TyD} (hs : C.ty s = some d) (ha : d.agg = true) {f off sz : Nat} {ft : TypeId} (hf : d.fields[f]? = some (off, sz, ft)) :
    ∃ (fs : Array Field) (g : Field) (i : TypeInfo), C.P.underlying s = some (.struct fs) ∧ fs[f]? = some g ∧ g.offset = off ∧ g.type = ft ∧ C.P.info? ft = some i ∧ i.size = sz := by
  obtain ⟨fs, h1, h2, h3⟩ := ok.agg hs ha
  have h4 := h3 _ (List.mem_of_getElem? hf)
  have h5 : (d.fields.map fun f => (f.1, f.2.2))[f]? = some (off, ft) := by simp [hf]
  rw [← h2] at h5
  simp only [List.getElem?_map, Array.getElem?_toList, Option.map_eq_some_iff, Prod.mk.injEq] at h5
  obtain ⟨g, hg, hg1, hg2⟩ := h5
  simp only [Option.map_eq_some_iff] at h4
  obtain ⟨i, hi, hi2⟩ := h4
  exact ⟨fs, g, i, h1, hg, hg1, hg2, hi, hi2⟩

theorem s_fieldAddr (ok : C.Ok) (r : SRel N ρ I w st a) (hd : dstOk N o) (s x f) (ho : o.op = .fieldAddr s x f) {d off sz ft} (hs : C.ty s = some d) (ha : d.agg = true)
    (hf : d.fields[f]? = some (off, sz, ft)) (hsz : 0 < sz)
    (h : match st.ev x with
       | .ptr p o1 => K (st.put o.dst (.ptr p (o1 + off)))
       | .ep p i o1 => K (st.put o.dst (.ep p i (o1 + off)))
       | .vptr cells => K (st.put o.dst (.vptr (cells.drop off)))
       | _ => False) : o.wp C.P a w (After N st ρ I w id K) Q := by
  obtain ⟨fs, g, i, h1, h2, h3, h4, h5, h6⟩ := fields_at ok hs ha hf
  have hv := r.ev x
  have hrun : ∀ b o', a.eval x = .pointer (some ⟨b, o', none⟩) → (execOp a.eval o).run C.P w = .ok (.value (.pointer (some ⟨b, o' + off, none⟩))) w := by
    intro b o' hu
    have hne : i.size ≠ 0 := by omega
    simp [execOp, ho, hu, Instr.fieldAt, run_underlying h1, h2, Instr.sureAddr, fieldPlace, h4, run_sizeOf' h5, hne, h3, Addr.add_lit]
  generalize hu : a.eval x = u at hv hrun
  generalize st.ev x = v at h hv
  cases hv <;> first | exact h.elim | skip
  case ptr p o1 b B hB hb => exact step_pure r hd (hrun _ _ rfl) (.ptr p (o1 + off) b B hB hb) h
  case ep p idx o1 b B hB hb => exact step_pure r hd (hrun _ _ rfl) (by rw [Nat.add_assoc]; exact .ep p idx (o1 + off) b B hB hb) h
  case vptr cells p b o' hp c1 c2 =>
    refine step_pure r hd (hrun _ _ rfl) (.vptr _ p b (o' + off) hp (fun i x hx => ?_) (fun i x u hx hu => ?_)) h
    · rw [List.getElem?_drop] at hx
      rw [Nat.add_assoc]; exact c1 _ x hx
    · rw [List.getElem?_drop] at hx
      rw [Nat.add_assoc] at hu
      exact c2 _ x u hx hu

theorem s_field (ok : C.Ok) (r : SRel N ρ I w st a) (hd : dstOk N o) (t x f) (ho : o.op = .field t x f) {d off sz ft dt v cells} (hs : C.ty t = some d) (ha : d.agg = true)
    (hf : d.fields[f]? = some (off, sz, ft)) (hft : C.ty ft = some dt) (hx : st.ev x = .agg cells) (hl : loadA dt cells off = some v) (h : K (st.put o.dst v)) :
    o.wp C.P a w (After N st ρ I w id K) Q := by
  obtain ⟨fs, g, i, h1, h2, h3, h4, h5, h6⟩ := fields_at ok hs ha hf
  have hv := r.ev x
  rw [hx] at hv
  generalize hu : a.eval x = u at hv
  cases hv with
  | agg _ vs hsz hc =>
    unfold loadA at hl
    by_cases hag : dt.agg = true
    · rw [if_pos hag] at hl
      split at hl
      · rename_i hle
        cases hl
        obtain ⟨i', u0, z, F⟩ := ok.facts hft
        refine step_pure (v := .agg (vs.extract off (off + dt.size))) r hd ?_ (.agg _ _ (by simp; omega) fun j x u hx hu => ?_) h
        · simp [execOp, ho, hu, Instr.field, run_underlying h1, h2, asAgg, part, h4, ok.isAggT hft hag, h3, run_sizeOf' F.info, F.size]
        · have hj : j < dt.size := by have := (List.getElem?_eq_some_iff.1 hx).1; simp at this; omega
          rw [List.getElem?_take] at hx
          simp only [hj, if_true, List.getElem?_drop] at hx
          have hu' : vs[off + j]? = some u := by
            have hlt : off + j < vs.size := by omega
            have : j < (vs.extract off (off + dt.size)).size := by simp; omega
            rw [Array.getElem?_eq_getElem this] at hu
            simp at hu
            rw [Array.getElem?_eq_getElem hlt, hu]
          exact hc _ x u hx hu'
      · cases hl
    · rw [if_neg hag] at hl
      have hlt : off < vs.size := by rw [hsz]; exact (List.getElem?_eq_some_iff.1 hl).1
      have ha' : dt.agg = false := by simpa using hag
      refine step_pure (v := vs[off]) r hd ?_ (hc off v _ hl (Array.getElem?_eq_getElem hlt)) h
      simp [execOp, ho, hu, Instr.field, run_underlying h1, h2, asAgg, part, h4, ok.notAgg hft ha', h3, hlt]

end
end Go.AE
namespace Go.AE
set_option linter.unusedVariables false
set_option linter.unusedSimpArgs false
section
variable {C : Ctx} {N : Nat} {ρ : Names} {I : Imm} {w : World} {st : St} {a : Act} {id : Nat} {K : St → Prop} {o : Oper} {Q : Exit → Act → World → Prop}

theorem get2_some {xs : List (List AV)} {i j x} (h : get2 xs i j = some x) : ∃ cells, xs[i]? = some cells ∧ cells[j]? = some x := by
  unfold get2 at h
  cases hc : xs[i]? with
  | none => simp [hc] at h
  | some cells => exact ⟨cells, rfl, by simpa [hc] using h⟩

theorem get2_drop_take {xs : List (List AV)} {l n i j x} (h : get2 ((xs.drop l).take n) i j = some x) : get2 xs (l + i) j = some x ∧ i < n := by
  obtain ⟨cells, h1, h2⟩ := get2_some h
  rw [List.getElem?_take] at h1
  split at h1
  · rw [List.getElem?_drop] at h1
    exact ⟨by simp [get2, h1, h2], by assumption⟩
  · cases h1

theorem s_indexAddr (ok : C.Ok) (r : SRel N ρ I w st a) (hd : dstOk N o) (t x i) (ho : o.op = .indexAddr t x i) {d e de k z} (ht : C.ty t = some d) (he : d.elem = some e)
    (hde : C.ty e = some de) (hi : st.ev i = .int k z)
    (h : match st.ev x with
       | .view _ sz xs => sz = de.size ∧ (0 ≤ z ∧ z < xs.length) ∧ ∀ cells, xs[z.toNat]? = some cells → K (st.put o.dst (.vptr cells))
       | .ref r s off len => s = de.size ∧ (0 ≤ z ∧ z < len) ∧ K (st.put o.dst (.ep r (off + z.toNat) 0))
       | _ => False) : o.wp C.P a w (After N st ρ I w id K) Q := by
  obtain ⟨i0, u0, z0, F⟩ := ok.facts hde
  have hsl := ok.slice ht he
  have hv := r.ev x
  have hiv := r.ev i
  rw [hi] at hiv
  have hrun : ∀ b o' len c, a.eval x = .slice (some ⟨b, o', none⟩) len c → 0 ≤ z → z < len → (execOp a.eval o).run C.P w = .ok (.value (.pointer (some ⟨b, o' + z.toNat * de.size, none⟩))) w := by
    intro b o' len c hu h0 h1
    simp [execOp, ho, hu, Instr.indexAt, hiv.int_inv, asIntOf, run_underlying hsl, h0, h1, run_sizeOf' F.info, F.size, Addr.add_lit]
  generalize hu : a.eval x = u at hv hrun
  generalize hxv : st.ev x = v at h hv
  cases hv <;> first | exact h.elim | skip
  case viewNil p sz a c => simp at h; omega
  case view p sz xs b off c hp h1 h2 h3 h4 h5 =>
    obtain ⟨rfl, ⟨h0, hlt⟩, hK⟩ := h
    have hlt' : z.toNat < xs.length := by omega
    refine step_pure r hd (hrun _ _ _ _ rfl h0 (by omega)) ?_ (hK _ (List.getElem?_eq_getElem hlt'))
    have hc := List.getElem?_eq_getElem hlt'
    exact .vptr _ p b _ hp (fun j x hx => h4 _ j x (by simp [get2, hc, hx])) (fun j x u hx hu => h5 _ j x u (by simp [get2, hc, hx]) hu)
  case ref0 id sz off a B hB => simp at h; omega
  case ref id' sz off len b c B hB hb hsz hc1 hc2 hc3 =>
    obtain ⟨rfl, ⟨h0, hlt⟩, hK⟩ := h
    refine step_pure r hd (hrun _ _ _ _ rfl h0 hlt) ?_ hK
    have : B.off + off * B.sz + z.toNat * de.size = B.off + (off + z.toNat) * B.sz + 0 := by rw [hsz, Nat.add_mul]; omega
    rw [this]
    exact .ep _ _ 0 b B hB hb

theorem run_sliceBound {P : Program} {w : World} {k : IntKind} {z : Int} {y : Nat} {cd : BoundsCode} (h0 : 0 ≤ z) (h1 : z ≤ y) : (Instr.sliceBound (.int k z) y cd).run P w = .ok z.toNat w := by
  simp [Instr.sliceBound, asIntOf, h0, h1]

theorem s_slice (ok : C.Ok) (r : SRel N ρ I w st a) (hd : dstOk N o) (t x lo hi) (ho : o.op = .slice t x lo hi none) {d e de} {n l h : Nat} (ht : C.ty t = some d) (he : d.elem = some e)
    (hde : C.ty e = some de) (hn : lenA (st.ev x) = some (n, true))
    (hlo : match lo with | none => l = 0 | some v => ∃ k z, st.ev v = .int k z ∧ 0 ≤ z ∧ l = z.toNat)
    (hhi : match hi with | none => h = n | some v => ∃ k z, st.ev v = .int k z ∧ 0 ≤ z ∧ h = z.toNat) (hlh : l ≤ h) (hhn : h ≤ n)
    (hK : match st.ev x with
       | .nil => K (st.put o.dst .nil)
       | .view p sz xs => sz = de.size ∧ K (st.put o.dst (.view p sz ((xs.drop l).take (h - l))))
       | .ref r s off _ => s = de.size ∧ K (st.put o.dst (.ref r s (off + l) (h - l)))
       | _ => False) : o.wp C.P a w (After N st ρ I w id K) Q := by
  obtain ⟨i0, u0, z0, F⟩ := ok.facts hde
  have hsl := ok.slice ht he
  have hv := r.ev x
  have hrun : ∀ ad c, a.eval x = .slice ad n c → n ≤ c →
      (execOp a.eval o).run C.P w = .ok (.value (.slice (if c = l then ad else ad.map (·.add (l * de.size))) (h - l) (c - l))) w := by
    intro ad c hu hnc
    have hb : (Instr.sliceBounds true n c (lo.map a.eval) (hi.map a.eval) none).run C.P w = .ok (l, h, c) w := by
      cases hi with
      | none =>
        simp only at hhi
        cases lo with
        | none => simp only at hlo; simp [Instr.sliceBounds, hhi, hlo]
        | some v =>
          obtain ⟨k, z, hz, h0, rfl⟩ := hlo
          have := r.ev v; rw [hz] at this
          simp [Instr.sliceBounds, this.int_inv, run_sliceBound (P := C.P) (w := w) (k := k) (y := n) (cd := .sliceB) h0 (by omega), hhi]
      | some v' =>
        obtain ⟨k', z', hz', h0', rfl⟩ := hhi
        have h' := r.ev v'; rw [hz'] at h'
        cases lo with
        | none => simp only at hlo; simp [Instr.sliceBounds, h'.int_inv, run_sliceBound (P := C.P) (w := w) (k := k') (y := c) (cd := .sliceAcap) h0' (by omega), hlo]
        | some v =>
          obtain ⟨k, z, hz, h0, rfl⟩ := hlo
          have := r.ev v; rw [hz] at this
          simp [Instr.sliceBounds, h'.int_inv, this.int_inv, run_sliceBound (P := C.P) (w := w) (k := k') (y := c) (cd := .sliceAcap) h0' (by omega),
            run_sliceBound (P := C.P) (w := w) (k := k) (y := z'.toNat) (cd := .sliceB) h0 (by omega)]
    simp [execOp, ho, hu, Instr.sliceAt, Instr.slice, run_underlying hsl, hb, run_sizeOf' F.info, F.size]
  generalize hu : a.eval x = u at hv hrun
  generalize hxv : st.ev x = v at hK hv hn
  cases hv <;> first | exact hK.elim | skip
  all_goals simp only [lenA, Option.some.injEq, Prod.mk.injEq, and_true] at hn
  case nil =>
    subst hn
    have hl0 : l = 0 := by omega
    have hh0 : h = 0 := by omega
    subst hl0; subst hh0
    exact step_pure r hd (hrun _ _ rfl (Nat.le_refl _)) (by simp; exact .nil) hK
  case viewNil p sz a' c =>
    simp at hn; subst hn
    have hh0 : h = 0 := by omega
    subst hh0
    refine step_pure r hd (hrun _ _ rfl (Nat.zero_le _)) ?_ hK.2
    simp
    exact .viewNil ..
  case view p sz xs b off c hp h1 h2 h3 h4 h5 =>
    subst hn
    obtain ⟨rfl, hK⟩ := hK
    refine step_pure r hd (hrun _ _ rfl h2) ?_ hK
    have hlen : ((xs.drop l).take (h - l)).length = h - l := by simp; omega
    by_cases hz : h - l = 0
    · have : (xs.drop l).take (h - l) = [] := List.eq_nil_of_length_eq_zero (by omega)
      rw [this, hz]; exact .viewNil ..
    · have hcl : c ≠ l := by omega
      simp only [hcl, if_false, Option.map_some, Addr.add_lit]
      have hview : VR ρ I w (.view p de.size ((xs.drop l).take (h - l))) (.slice (some ⟨b, off + l * de.size, none⟩) ((xs.drop l).take (h - l)).length (c - l)) := by
        refine .view p _ _ b (off + l * de.size) (c - l) hp (by omega) (by omega) (fun i x hx => ?_) (fun i j x hx => ?_) (fun i j x u hx hu => ?_)
        · rw [List.getElem?_take] at hx
          split at hx
          · rw [List.getElem?_drop] at hx; exact h3 _ x hx
          · cases hx
        · have hg := (get2_drop_take hx).1
          have := h4 _ j x hg
          rwa [Nat.add_mul, ← Nat.add_assoc] at this
        · have hg := (get2_drop_take hx).1
          refine h5 _ j x u hg ?_
          rwa [Nat.add_mul, ← Nat.add_assoc]
      rw [hlen] at hview
      exact hview
  case ref0 id' sz off a' B hB =>
    subst hn
    have hl0 : l = 0 := by omega
    have hh0 : h = 0 := by omega
    subst hl0; subst hh0
    refine step_pure r hd (hrun _ _ rfl (Nat.le_refl _)) ?_ hK.2
    simp
    exact .ref0 _ _ _ _ B hB
  case ref id' sz off len b c B hB hb hsz hc1 hc2 hc3 =>
    subst hn
    obtain ⟨rfl, hK⟩ := hK
    refine step_pure r hd (hrun _ _ rfl hc2) ?_ hK
    by_cases hcl : c = l
    · have hh : h - l = 0 := by omega
      rw [hh, if_pos hcl, hcl, Nat.sub_self]
      exact .ref0 _ _ _ _ B hB
    · rw [if_neg hcl]
      simp only [Option.map_some, Addr.add_lit]
      have : B.off + off * B.sz + l * de.size = B.off + (off + l) * B.sz := by rw [hsz, Nat.add_mul]; omega
      rw [this]
      exact .ref _ _ _ _ b _ B hB hb hsz (by omega) (by omega) (by omega)

theorem s_index (r : SRel N ρ I w st a) (hd : dstOk N o) (t x i) (ho : o.op = .index t x i) (hs : C.P.underlying t = some .string) {s : ByteArray} {k z} (hx : st.ev x = .str s) (hi : st.ev i = .int k z)
    (h0 : 0 ≤ z) (h1 : z < s.size) (h : ∀ b, s[z.toNat]? = some b → K (st.put o.dst (.int .u8 b.toNat))) : o.wp C.P a w (After N st ρ I w id K) Q := by
  have hv := r.ev x
  have hiv := r.ev i
  rw [hx] at hv
  rw [hi] at hiv
  have hlt : z.toNat < s.size := by omega
  have hb : s[z.toNat]? = some s[z.toNat] := by simp [hlt]
  refine step_pure (v := .int .u8 (s[z.toNat]).toNat) r hd ?_ (.int _ _) (h _ hb)
  simp [execOp, ho, hv.str_inv, hiv.int_inv, Instr.index, asIntOf, run_underlying hs, h0, hb]

end
end Go.AE
