/- Abstract machine: freezing rows; building structs and rows. -/
import Derived.Test.YtkfdpbhjklaecaaAeSound4
namespace Go.AE
set_option linter.unusedVariables false
set_option linter.unusedSimpArgs false

section
variable {C : Ctx} {N : Nat} {ρ : Names} {I : Imm} {w : World} {st : St} {a : Act} {id : Nat} {K : St → Prop} {o : Oper} {Q : Exit → Act → World → Prop}

theorem s_build (ok : C.Ok) (r : SRel N ρ I w st a) (hd : dstOk N o) (t parts) (ho : o.op = .build t parts) {d : TyD} {cs : List AV} (ht : C.ty t = some d) (ha : d.agg = true)
    (hk : ∀ p ∈ parts.toList, (st.ev p.2).known = true)
    (hf : fillA (d.fields.map fun f => (f.1, f.2.1)) (parts.toList.map fun (i, x) => (i, st.ev x)) d.zero = some cs) (h : K (st.put o.dst (.agg cs))) :
    o.wp C.P a w (After N st ρ I w id K) Q := by
  obtain ⟨i, u, z, F⟩ := ok.facts ht
  obtain ⟨fs, h1, h2, h3⟩ := ok.agg ht ha
  let place : Nat → Option (Nat × Nat) := fun i => (d.fields.map fun f => (f.1, f.2.1))[i]?
  obtain ⟨us', g1, g2, g3⟩ := fill_sound (ρ := ρ) (I := I) (w := w) (place := place) (fun _ => rfl) (parts.toList.map fun (i, x) => (i, st.ev x)) (parts.toList.map fun (i, x) => (i, a.eval x)) d.zero cs z.cells
    (by simp) (fun j i x i' v hx hv => by
      simp only [List.getElem?_map, Option.map_eq_some_iff] at hx hv
      obtain ⟨p, hp, hp'⟩ := hx
      obtain ⟨q, hq, hq'⟩ := hv
      rw [hp] at hq; cases hq
      obtain ⟨i0, x0⟩ := p
      simp at hp' hq'
      obtain ⟨rfl, rfl⟩ := hp'
      obtain ⟨rfl, rfl⟩ := hq'
      exact ⟨rfl, r.ev x0, hk _ (List.mem_of_getElem? hp)⟩) (by rw [F.zsize, F.zlen]) (fun j x u hx hu => F.zvr j x u hx hu ρ I w) hf
  refine step_pure (v := .agg us') r hd ?_ (.agg cs us' g2 g3) h
  have hpl : ∀ (l : List Field) (W : World), (∀ f ∈ l, ∃ s, (C.P.info? f.type).map (·.size) = some s) →
      (l.mapM (m := Sem) fun f => Prod.mk f.offset <$> sizeOf f.type).run C.P W = .ok (l.map fun f => (f.offset, ((C.P.info? f.type).map (·.size)).getD 0)) W := by
    intro l
    induction l with
    | nil => intro W _; simp
    | cons f l ih =>
      intro W hl
      obtain ⟨s, hs⟩ := hl f (by simp)
      simp only [Option.map_eq_some_iff] at hs
      obtain ⟨i, hi, rfl⟩ := hs
      have := ih W (fun f hf => hl f (by simp [hf]))
      simp [List.mapM_cons, run_sizeOf' hi, this, hi]
  have hsizes : ∀ f ∈ fs.toList, ∃ s, (C.P.info? f.type).map (·.size) = some s := by
    intro f hf
    have : (f.offset, f.type) ∈ d.fields.map (fun f => (f.1, f.2.2)) := by rw [← h2]; exact List.mem_map.2 ⟨f, hf, rfl⟩
    obtain ⟨g, hg, hge⟩ := List.mem_map.1 this
    simp at hge
    exact ⟨_, by rw [← hge.2]; exact h3 g hg⟩
  have hplaces := hpl fs.toList w hsizes
  have hplist : (fs.toList.map fun f => (f.offset, ((C.P.info? f.type).map (·.size)).getD 0)) = d.fields.map fun f => (f.1, f.2.1) := by
    have e1 : (fs.toList.map fun f => (f.offset, ((C.P.info? f.type).map (·.size)).getD 0)) = (fs.toList.map fun f => (f.offset, f.type)).map fun p => (p.1, ((C.P.info? p.2).map (·.size)).getD 0) := by simp
    rw [e1, h2, List.map_map]
    apply List.map_congr_left
    intro f hf
    simp [h3 f hf]
  rw [hplist] at hplaces
  have hm : (fs.mapM (m := Sem) fun f => Prod.mk f.offset <$> sizeOf f.type).run C.P w = .ok (d.fields.map fun f => (f.1, f.2.1)).toArray w := by
    rw [Array.mapM_eq_mapM_toList]
    simp [hplaces]
  have hplc : (fun i => ((d.fields.map fun f => (f.1, f.2.1)).toArray)[i]?) = place := by funext i; simp [place]
  simp only [execOp, ho]
  refine run_v (a := a) ?_
  simp only [Instr.build, Sem.run_bind, zeroValue, typeInfo, run_program, Result.andThen_ok, F.info, Sem.run_pure, F.zero, run_underlying h1, bind_pure_comp, hm, Array.toList_map]
  have : (fun x => (d.fields.map fun f => (f.1, f.2.1)).toArray[x]?) = place := hplc
  simp only [this]
  rw [g1]
  rfl

theorem freeze_one (H : HRel ρ I w st.h) {id sz s0 off len : Nat} {xs : List (List AV)} (hid : st.h id = some (.row sz xs)) (hle : off + len ≤ xs.length) :
    ∃ I', HRel ρ I' w (upd st.h id none) ∧ Ext st.h ρ I w (upd st.h id none) ρ I' w ∧
      ∀ u, VR ρ I w (.ref id s0 off len) u → VR ρ I' w (.view true sz ((xs.drop off).take len)) u := by
  obtain ⟨B, hB, hsz, hpos, hlim, hel, hrow⟩ := H.row id sz xs hid
  let I' : Imm := fun p b => I p b ∨ (p = true ∧ B.blk = some b)
  have hII : ∀ p b, I p b → I' p b := fun p b h => .inl h
  have hold : ∀ i e, upd st.h id none i = some e → i ≠ id ∧ st.h i = some e := by
    intro i e h
    by_cases hi : i = id
    · subst hi; simp at h
    · rw [upd_ne _ _ _ _ hi] at h; exact ⟨hi, h⟩
  refine ⟨I', ⟨fun i cells h => (H.obj i cells (hold _ _ h).2).mono (fun _ _ h => h) hII (fun _ _ _ => rfl) (fun _ _ _ _ => rfl), fun i s ys h => (H.row i s ys (hold _ _ h).2).mono (fun _ _ h => h) hII (fun _ _ _ => rfl) (fun _ _ _ _ => rfl),
    fun i j e e' B1 B2 b h h' => H.sep i j e e' B1 B2 b (hold _ _ h).2 (hold _ _ h').2, ?_, ?_⟩, ⟨fun _ _ h => h, hII, ?_, ?_, ?_, rfl, rfl, rfl, Nat.le_refl _, fun _ _ _ => rfl⟩, ?_⟩
  · intro i e B1 b p h hB1 hb hI
    rcases hI with hI | ⟨_, hI⟩
    · exact H.imm i e B1 b p (hold _ _ h).2 hB1 hb hI
    · exact H.sep i id e _ B1 B b (hold _ _ h).2 hid (hold _ _ h).1 hB1 hB hb hI
  · intro p b hI
    rcases hI with hI | ⟨_, hI⟩
    · exact H.immlt p b hI
    · exact (H.ent hid).lt hB hI
  · intro b hI
    rcases hI with hI | ⟨h, _⟩
    · exact hI
    · cases h
  · intro b hI
    rcases hI with hI | ⟨_, hI⟩
    · exact .inl hI
    · exact .inr (.inl ⟨id, _, B, hid, hB, hI⟩)
  · rintro b ⟨i, e, B1, h, hB1, hb⟩
    exact .inl ⟨i, e, B1, (hold _ _ h).2, hB1, hb⟩
  · intro u hu
    have hlen : ((xs.drop off).take len).length = len := by simp; omega
    cases hu with
    | ref0 _ _ _ a B' hB' => rw [List.take_zero]; exact .viewNil ..
    | ref _ _ _ _ b c B' hB' hb hs0 hc1 hc2 hc3 =>
      rw [hB] at hB'; cases hB'
      rcases hrow with ⟨h0, _⟩ | ⟨b', cur, ty, g1, g2, g3, g4, g5, g6⟩
      · rw [h0] at hb; cases hb
      · rw [hb] at g1; cases g1
        have hv : VR ρ I' w (.view true sz ((xs.drop off).take len)) (.slice (some ⟨b, B.off + off * B.sz, none⟩) ((xs.drop off).take len).length c) := by
          refine .view true sz _ b _ c (.inr ⟨rfl, hb⟩) (by omega) (by omega) (fun i x hx => ?_) (fun i j x hx => ?_) (fun i j x u hx hu => ?_)
          · rw [List.getElem?_take] at hx
            split at hx
            · rw [List.getElem?_drop] at hx; exact hel _ x hx
            · cases hx
          · obtain ⟨hg, hi⟩ := get2_drop_take hx
            obtain ⟨cells, q1, q2⟩ := get2_some hg
            have hj : j < sz := by rw [← hel _ _ q1]; exact (List.getElem?_eq_some_iff.1 q2).1
            rw [cell_of_row w b _ cur ty _ g2]
            have h1 : off + i + 1 ≤ B.cap := by have := (List.getElem?_eq_some_iff.1 q1).1; omega
            have h2 := Nat.mul_le_mul_right sz h1
            rw [Nat.add_mul, Nat.add_mul, Nat.one_mul] at h2
            have : B.off + off * B.sz + i * sz + j < cur.size := by rw [hsz]; omega
            exact ⟨_, Array.getElem?_eq_getElem this⟩
          · obtain ⟨hg, hi⟩ := get2_drop_take hx
            rw [cell_of_row w b _ cur ty _ g2] at hu
            refine (g6 (off + i) j x u hg ?_).mono (fun _ _ h => h) hII (fun _ _ _ => rfl)
            rw [← hu, hsz, Nat.add_mul, ← Nat.add_assoc]
        rw [hlen] at hv
        exact hv

theorem frz_sound : ∀ (cells : List AV) (h h' : Heap) (I : Imm) (cs' : List AV) (us : List Value), HRel ρ I w h → frz h cells = some (cs', h') → us.length = cells.length →
    (∀ (i : Nat) x u, cells[i]? = some x → us[i]? = some u → VR ρ I w x u) →
    ∃ I', HRel ρ I' w h' ∧ Ext h ρ I w h' ρ I' w ∧ cs'.length = cells.length ∧ ∀ (i : Nat) x u, cs'[i]? = some x → us[i]? = some u → VR ρ I' w x u := by
  intro cells
  induction cells with
  | nil =>
    intro h h' I cs' us H hf hl hr
    simp [frz] at hf
    obtain ⟨rfl, rfl⟩ := hf
    exact ⟨I, H, Ext.refl, rfl, hr⟩
  | cons c cells ih =>
    intro h h' I cs' us H hf hl hr
    cases us with
    | nil => simp at hl
    | cons u us =>
      have hc := hr 0 c u rfl rfl
      have hrest : ∀ (i : Nat) x u, cells[i]? = some x → us[i]? = some u → VR ρ I w x u := fun i x u hx hu => hr (i + 1) x u (by simpa using hx) (by simpa using hu)
      have plain : ∀ (r : Option (List AV × Heap)), r = frz h cells → (match r with | some (r, h') => some (c :: r, h') | none => none) = some (cs', h') →
          ∃ I', HRel ρ I' w h' ∧ Ext h ρ I w h' ρ I' w ∧ cs'.length = (c :: cells).length ∧ ∀ (i : Nat) x v, cs'[i]? = some x → (u :: us)[i]? = some v → VR ρ I' w x v := by
        intro r hr' hm
        subst hr'
        cases hf' : frz h cells with
        | none => rw [hf'] at hm; cases hm
        | some q =>
          obtain ⟨r, h''⟩ := q
          rw [hf'] at hm
          simp only [Option.some.injEq, Prod.mk.injEq] at hm
          obtain ⟨rfl, rfl⟩ := hm
          obtain ⟨I', H', E, hl', hr'⟩ := ih h h'' I r us H hf' (by simpa using hl) hrest
          refine ⟨I', H', E, by simp [hl'], fun i x v hx hv => ?_⟩
          cases i with
          | zero => simp at hx hv; subst hx; subst hv; exact E.vr H hc
          | succ i => exact hr' i x v (by simpa using hx) (by simpa using hv)
      unfold frz at hf
      split at hf
      · rename_i id s0 off len
        split at hf
        · rename_i sz xs hid
          split at hf
          · rename_i hle
            obtain ⟨I1, H1, E1, hv1⟩ := freeze_one (st := ⟨fun _ => .dead, h, 0⟩) (s0 := s0) H hid hle
            cases hf' : frz (upd h id none) cells with
            | none => rw [hf'] at hf; cases hf
            | some q =>
              obtain ⟨r, h''⟩ := q
              rw [hf'] at hf
              simp only [Option.some.injEq, Prod.mk.injEq] at hf
              obtain ⟨rfl, rfl⟩ := hf
              obtain ⟨I', H', E, hl', hr'⟩ := ih (upd h id none) h'' I1 r us H1 hf' (by simpa using hl) (fun i x u hx hu => E1.vr H (hrest i x u hx hu))
              refine ⟨I', H', E1.trans E, by simp [hl'], fun i x v hx hv => ?_⟩
              cases i with
              | zero => simp at hx hv; subst hx; subst hv; exact E.vr H1 (hv1 _ hc)
              | succ i => exact hr' i x v (by simpa using hx) (by simpa using hv)
          · cases hf
        · cases hf
      all_goals first | exact plain _ rfl hf | cases hf

end
end Go.AE
