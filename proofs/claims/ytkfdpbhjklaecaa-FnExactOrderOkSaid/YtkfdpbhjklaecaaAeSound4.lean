/- Abstract machine: soundness of what makes and writes memory. -/
import Derived.Test.YtkfdpbhjklaecaaAeSound3
import Derived.Laws.MakeOwn
namespace Go.AE
set_option linter.unusedVariables false
set_option linter.unusedSimpArgs false

section
variable {C : Ctx} {N : Nat} {ρ : Names} {I : Imm} {w : World} {st : St} {a : Act} {id : Nat} {K : St → Prop} {o : Oper} {Q : Exit → Act → World → Prop}

@[simp] theorem put_h (s : St) (d v) : (s.put d v).h = s.h := by cases d <;> rfl
@[simp] theorem put_nx (s : St) (d v) : (s.put d v).nx = s.nx := by cases d <;> rfl

theorem VR.cellsOf {x : AV} {v : Value} (h : VR ρ I w x v) (hk : x.known = true) :
    v.cells.size = x.cells.length ∧ ∀ (i : Nat) y u, x.cells[i]? = some y → v.cells[i]? = some u → VR ρ I w y u := by
  have one : ∀ (x : AV) (v : Value), VR ρ I w x v → x.cells = [x] → v.cells = #[v] → v.cells.size = x.cells.length ∧ ∀ (i : Nat) y u, x.cells[i]? = some y → v.cells[i]? = some u → VR ρ I w y u := by
    intro x v h h1 h2
    rw [h1, h2]
    refine ⟨rfl, fun i y u hy hu => ?_⟩
    cases i with
    | zero => simp at hy hu; subst hy; subst hu; exact h
    | succ i => simp at hy
  cases h with
  | agg cells vs h1 h2 => exact ⟨h1, h2⟩
  | dead v => simp [AV.known] at hk
  | bool b => exact one _ _ (.bool b) rfl rfl
  | int k n => exact one _ _ (.int k n) rfl rfl
  | str s => exact one _ _ (.str s) rfl rfl
  | nil => exact one _ _ .nil rfl rfl
  | viewNil p sz a c => exact one _ _ (.viewNil p sz a c) rfl rfl
  | view p sz xs b off c h1 h2 h3 h4 h5 h6 => exact one _ _ (.view p sz xs b off c h1 h2 h3 h4 h5 h6) rfl rfl
  | ref0 id sz off a B h1 => exact one _ _ (.ref0 id sz off a B h1) rfl rfl
  | ref id sz off len b c B h1 h2 h3 h4 h5 h6 => exact one _ _ (.ref id sz off len b c B h1 h2 h3 h4 h5 h6) rfl rfl
  | ptr id off b B h1 h2 => exact one _ _ (.ptr id off b B h1 h2) rfl rfl
  | ep id idx off b B h1 h2 => exact one _ _ (.ep id idx off b B h1 h2) rfl rfl
  | vptr cells p b o h1 h2 h3 => exact one _ _ (.vptr cells p b o h1 h2 h3) rfl rfl
  | fn f caps vs h1 h2 => exact one _ _ (.fn f caps vs h1 h2) rfl rfl
  | tup cells vs h1 h2 => exact one _ _ (.tup cells vs h1 h2) rfl rfl

theorem VR.oneCell {x : AV} {v : Value} (h : VR ρ I w x v) (hk : x.one = true) : v.oneCell' = true := by
  cases h <;> first | rfl | (simp [AV.one] at hk)

/-- A new block for an entry. -/
theorem s_new (r : SRel N ρ I w st a) (hd : dstOk N o) (hn : ρ id = none) (hid : id < st.nx) {e : Ent} {av : AV} {v : Value} {B0 : Base} {w' : World} {h0 : Heap}
    (hrun : (execOp a.eval o).run C.P w = .ok (.value v) w')
    (hh0 : ∀ i e, h0 i = some e → st.h i = some e)
    (hb : B0.blk = none ∨ B0.blk = some w.heap.size) (hwk : ∀ k, k < w.heap.size → w'.heap[k]? = w.heap[k]?)
    (hsize : w.heap.size ≤ w'.heap.size) (hos : w'.os = w.os) (htape : w'.tape = w.tape) (hout : w'.output = w.output)
    (hrel : EntR (upd ρ id (some B0)) I w' id e) (hv : VR (upd ρ id (some B0)) I w' av v)
    (hK : K ((({ st with h := h0 } : St).new id e).put o.dst av)) : o.wp C.P a w (After N st ρ I w id K) Q := by
  have hold : ∀ i e', i ≠ id → upd h0 id (some e) i = some e' → st.h i = some e' := fun i e' hne h => hh0 i e' (by rwa [upd_ne _ _ _ _ hne] at h)
  obtain ⟨H', E'⟩ := alloc_ext (h' := upd h0 id (some e)) r.hp hn hold (upd_same ..) hb hwk hsize hos htape hout hrel
  unfold Oper.wp
  rw [hrun]
  show After N st ρ I w id K (a.put o.dst v) w'
  refine ⟨_, upd ρ id (some B0), I, hK, ?_, by rw [put_h]; exact E', fun i B h => ?_, by simp [St.new]⟩
  · refine SRel.put (st := ({ st with h := h0 } : St).new id e) ⟨r.sz, r.df, fun n => E'.vr r.hp (r.tm n), H', fun i B h => ?_⟩ hv hd
    show i < st.nx
    by_cases hi : i = id
    · subst hi; exact hid
    · rw [upd_ne _ _ _ _ hi] at h; exact r.nm i B h
  · by_cases hi : i = id
    · exact .inr (.inl hi)
    · rw [upd_ne _ _ _ _ hi] at h; exact .inl h

theorem newObj_rel {cells : List AV} {vs : Array Value} {ty : TypeId} (H : HRel ρ I w st.h) (hn : ρ id = none) (hs : vs.size = cells.length)
    (hc : ∀ (i : Nat) y u, cells[i]? = some y → vs[i]? = some u → VR ρ I w y u) :
    EntR (upd ρ id (some ⟨some w.heap.size, 0, 0, 0⟩)) I (w.alloc (.cells vs ty)) id (.obj cells) := by
  refine ⟨_, w.heap.size, vs, ty, upd_same .., rfl, heap_alloc_new w _, hs, fun i x u hx hu => ?_⟩
  refine (hc i x u hx hu).mono (fun j B hB => ?_) (fun _ _ h => h) (fun p b hb => heap_alloc_old w _ _ (H.immlt p b hb))
  have : j ≠ id := fun e => by subst e; rw [hn] at hB; cases hB
  rw [upd_ne _ _ _ _ this]; exact hB

theorem s_newObj (r : SRel N ρ I w st a) (hd : dstOk N o) (hn : ρ id = none) (hid : id < st.nx) {cells : List AV} {vs : Array Value} {ty : TypeId}
    (hrun : (execOp a.eval o).run C.P w = .ok (.value (.pointer (some ⟨w.heap.size, 0, none⟩))) (w.alloc (.cells vs ty))) (hs : vs.size = cells.length)
    (hc : ∀ (i : Nat) y u, cells[i]? = some y → vs[i]? = some u → VR ρ I w y u)
    (hK : K ((st.new id (.obj cells)).put o.dst (.ptr id 0))) : o.wp C.P a w (After N st ρ I w id K) Q :=
  s_new (B0 := ⟨some w.heap.size, 0, 0, 0⟩) (h0 := st.h) r hd hn hid hrun (fun _ _ h => h) (.inr rfl) (fun k hk => heap_alloc_old w _ k hk) (by simp) rfl rfl rfl
    (newObj_rel r.hp hn hs hc) (.ptr id 0 _ _ (upd_same ..) rfl) hK

theorem s_alloc (ok : C.Ok) (r : SRel N ρ I w st a) (hd : dstOk N o) (hn : ρ id = none) (hid : id < st.nx) (e) (ho : o.op = .alloc e) {d : TyD} (he : C.ty e = some d)
    (hK : K ((st.new id (.obj d.zero)).put o.dst (.ptr id 0))) : o.wp C.P a w (After N st ρ I w id K) Q := by
  obtain ⟨i, u, z, F⟩ := ok.facts he
  refine s_newObj (vs := z.cells) (ty := e) r hd hn hid ?_ (by rw [F.zsize, F.zlen]) (fun i y u hy hu => F.zvr i y u hy hu ρ I w) hK
  simp [execOp, ho, Instr.alloc, zeroValue, typeInfo, F.info, F.zero, newVar, newRow]

theorem s_box (r : SRel N ρ I w st a) (hd : dstOk N o) (hn : ρ id = none) (hid : id < st.nx) (e x) (ho : o.op = .box e x) (hk : (st.ev x).known = true)
    (hK : K ((st.new id (.obj (st.ev x).cells)).put o.dst (.ptr id 0))) : o.wp C.P a w (After N st ρ I w id K) Q := by
  obtain ⟨h1, h2⟩ := (r.ev x).cellsOf hk
  refine s_newObj (vs := (a.eval x).cells) (ty := e) r hd hn hid ?_ h1 h2 hK
  simp [execOp, ho, Instr.box, newVar, newRow]

theorem splice_get {α : Type} (cs vs : List α) (off i : Nat) (h : off + vs.length ≤ cs.length) :
    (cs.take off ++ vs ++ cs.drop (off + vs.length))[i]? = if off ≤ i ∧ i < off + vs.length then vs[i - off]? else cs[i]? := by
  have h0 : (cs.take off).length = off := by simp; omega
  by_cases h1 : i < off
  · rw [if_neg (by omega), List.append_assoc, List.getElem?_append_left (by omega), List.getElem?_take, if_pos h1]
  · by_cases h2 : i < off + vs.length
    · rw [if_pos ⟨by omega, h2⟩, List.append_assoc, List.getElem?_append_right (by omega), List.getElem?_append_left (by omega), h0]
    · rw [if_neg (by omega), List.getElem?_append_right (by simp; omega), List.getElem?_drop]
      congr 1
      simp; omega

theorem splice_len {α : Type} (cs vs : List α) (off : Nat) (h : off + vs.length ≤ cs.length) : (cs.take off ++ vs ++ cs.drop (off + vs.length)).length = cs.length := by
  simp; omega

theorem foldl_set_get (vs : List Value) : ∀ (off k : Nat) (cs : Array Value), off + k + vs.length ≤ cs.size →
    ((vs.zipIdx k).foldl (fun cs (p : Value × Nat) => cs.setIfInBounds (off + p.2) p.1) cs).toList = cs.toList.take (off + k) ++ vs ++ cs.toList.drop (off + k + vs.length) := by
  induction vs with
  | nil => intro off k cs h; simp
  | cons v vs ih =>
    intro off k cs h
    simp only [List.length_cons] at h
    simp only [List.zipIdx_cons, List.foldl_cons]
    rw [ih off (k + 1) _ (by simp; omega)]
    apply List.ext_getElem?
    intro i
    have e1 := splice_get (cs.setIfInBounds (off + k) v).toList vs (off + (k + 1)) i (by simp; omega)
    have e2 := splice_get cs.toList (v :: vs) (off + k) i (by simp; omega)
    rw [e1, e2]
    simp only [List.length_cons]
    simp only [Array.getElem?_toList]
    by_cases h1 : i = off + k
    · subst h1
      rw [if_neg (by omega), if_pos (by omega)]
      have : off + k < cs.size := by omega
      simp [this]
    · by_cases h2 : off + k < i ∧ i < off + k + (vs.length + 1)
      · rw [if_pos (by omega), if_pos (by omega)]
        have : i - (off + k) = (i - (off + (k + 1))) + 1 := by omega
        rw [this, List.getElem?_cons_succ]
      · rw [if_neg (by omega), if_neg (by omega), Array.getElem?_setIfInBounds_ne (by omega)]

theorem fill_sound {fs : List (Nat × Nat)} {place : Nat → Option (Nat × Nat)} (hp : ∀ i, place i = fs[i]?) : ∀ (parts : List (Nat × AV)) (vparts : List (Nat × Value)) (cs cs' : List AV) (us : Array Value),
    parts.length = vparts.length → (∀ (j : Nat) i x i' v, parts[j]? = some (i, x) → vparts[j]? = some (i', v) → i = i' ∧ VR ρ I w x v ∧ x.known = true) →
    us.size = cs.length → (∀ (j : Nat) x u, cs[j]? = some x → us[j]? = some u → VR ρ I w x u) → fillA fs parts cs = some cs' →
    ∃ us', Instr.fill place us vparts = some us' ∧ us'.size = cs'.length ∧ ∀ (j : Nat) x u, cs'[j]? = some x → us'[j]? = some u → VR ρ I w x u := by
  intro parts
  induction parts with
  | nil =>
    intro vparts cs cs' us hl _ hs hr hf
    cases vparts with
    | nil => simp [fillA] at hf; subst hf; exact ⟨us, rfl, hs, hr⟩
    | cons => simp at hl
  | cons p parts ih =>
    intro vparts cs cs' us hl hrel hs hr hf
    cases vparts with
    | nil => simp at hl
    | cons q vparts =>
      obtain ⟨i, x⟩ := p
      obtain ⟨i', v⟩ := q
      obtain ⟨rfl, hx, hk⟩ := hrel 0 i x i' v rfl rfl
      simp only [fillA] at hf
      cases hfi : fs[i]? with
      | none => simp [hfi] at hf
      | some q =>
        obtain ⟨off, size⟩ := q
        simp only [hfi] at hf
        split at hf
        · rename_i hc
          obtain ⟨hc1, hc2⟩ := hc
          obtain ⟨g1, g2⟩ := hx.cellsOf hk
          have hfold := foldl_set_get v.cells.toList off 0 us (by simp; omega)
          simp only [Nat.add_zero, Array.length_toList] at hfold
          have hz : (v.cells.zipIdx.foldl (fun cs (c, j) => cs.setIfInBounds (off + j) c) us) = (us.toList.take off ++ v.cells.toList ++ us.toList.drop (off + v.cells.size)).toArray := by
            apply Array.ext'
            rw [← Array.foldl_toList, Array.toList_zipIdx]
            simpa using hfold
          have hl1 : (splice cs off x.cells).length = cs.length := splice_len _ _ _ (by omega)
          obtain ⟨us', h1, h2, h3⟩ := ih vparts (splice cs off x.cells) cs' (us.toList.take off ++ v.cells.toList ++ us.toList.drop (off + v.cells.size)).toArray (by simpa using hl)
            (fun j i y i' u h h' => hrel (j + 1) i y i' u h h') (by
              rw [hl1]
              have := splice_len us.toList v.cells.toList off (by simp; omega)
              simp only [Array.length_toList] at this
              simp only [List.size_toArray]
              omega) (fun j y u hy hu => by
              have e1 := splice_get cs x.cells off j (by omega)
              have e2 := splice_get us.toList v.cells.toList off j (by simp; omega)
              simp only [Array.length_toList, Array.getElem?_toList] at e2
              unfold splice at hy
              rw [e1] at hy
              rw [List.getElem?_toArray, e2] at hu
              by_cases hj : off ≤ j ∧ j < off + x.cells.length
              · rw [if_pos hj] at hy
                rw [if_pos (by omega)] at hu
                exact g2 _ y u hy hu
              · rw [if_neg hj] at hy
                rw [if_neg (by omega)] at hu
                exact hr j y u hy hu) hf
          refine ⟨us', ?_, h2, h3⟩
          have hn1 : ¬ (v.cells.size ≠ size ∨ off + v.cells.size > us.size) := by omega
          simp only [Instr.fill, hp, hfi]
          rw [hz]
          have : (decide (v.cells.size ≠ size) || decide (off + v.cells.size > us.size)) = false := by simp; omega
          rw [if_neg (by simpa using this)]
          exact h1
        · cases hf

end
end Go.AE
