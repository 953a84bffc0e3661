/- Abstract machine: whole functions; what a caller may forget; borrowed arguments. -/
import Derived.Test.YtkfdpbhjklaecaaAeCode
namespace Go.AE
set_option linter.unusedVariables false
set_option linter.unusedSimpArgs false

section
variable {C : Ctx} {N : Nat} {ρ : Names} {I : Imm} {w : World} {st : St} {a : Act} {id : Nat} {K : St → Prop} {o : Oper}

theorem resA_sound (ok : C.Ok) (r : SRel N ρ I w st a) {rv : ResultVar} {v : AV} (h : resA C st rv = some v) :
    ∃ u, ((match rv with | .tmp t => pure (a.tmps.getD t undef) | .cell p t => do loadVar t (← asAddr (a.tmps.getD p undef))) : Sem Value).run C.P w = .ok u w ∧ VR ρ I w v u := by
  cases rv with
  | tmp t => simp only [resA, Option.some.injEq] at h; subst h; exact ⟨_, rfl, r.tm t⟩
  | cell p t =>
    simp only [resA] at h
    split at h
    · rename_i q off hp
      split at h
      · rename_i d cells ht hq
        have hv := r.tm p
        rw [hp] at hv
        generalize hu : a.tmps.getD p undef = pv at hv
        cases hv with
        | ptr _ _ b B hB hb =>
          obtain ⟨c1, c2⟩ := objR_cells (r.hp.obj q cells hq) hB hb
          obtain ⟨v', hrun, hvr⟩ := load_run ok ht c1 c2 h
          rw [Nat.zero_add] at hrun
          exact ⟨v', by simp [hu, asAddr, hrun], hvr⟩
      · cases h
    · cases h

theorem mapM_sound {f : ResultVar → Sem Value} (hf : ∀ rv v, resA C st rv = some v → ∃ u, (f rv).run C.P w = .ok u w ∧ VR ρ I w v u) : ∀ (rs : List ResultVar) (vs : List AV), rs.mapM (resA C st) = some vs →
    ∃ us : List Value, us.length = vs.length ∧ rs.length = vs.length ∧ (rs.mapM f).run C.P w = .ok us w ∧ ∀ (i : Nat) x u, vs[i]? = some x → us[i]? = some u → VR ρ I w x u := by
  intro rs
  induction rs with
  | nil => intro vs h; simp at h; subst h; exact ⟨[], rfl, rfl, by simp, fun i x u h => by simp at h⟩
  | cons r1 rs ih =>
    intro vs h
    simp only [List.mapM_cons, Option.bind_eq_bind, Option.pure_def] at h
    cases h1 : resA C st r1 with
    | none => simp [h1] at h
    | some x =>
      cases h2 : rs.mapM (resA C st) with
      | none => simp [h1, h2] at h
      | some xs =>
        simp [h1, h2] at h
        subst h
        obtain ⟨u, hu, hv⟩ := hf _ _ h1
        obtain ⟨us, hl, hl2, hus, hvs⟩ := ih xs h2
        refine ⟨u :: us, by simp [hl], by simp [hl2], ?_, fun i x u hx hu' => ?_⟩
        · rw [List.mapM_cons, Sem.run_bind, hu, Result.andThen_ok, Sem.run_bind, hus]
          rfl
        · cases i with
          | zero => simp at hx hu'; subst hx; subst hu'; exact hv
          | succ i => exact hvs i x u (by simpa using hx) (by simpa using hu')

theorem results_sound (ok : C.Ok) (r : SRel N ρ I w st a) {fn : Func} {v : AV} (h : resultsA C st fn.results.toList = some v) :
    ∃ u, (results fn a.tmps).run C.P w = .ok u w ∧ VR ρ I w v u := by
  have : ∃ f : ResultVar → Sem Value, (∀ rv v, resA C st rv = some v → ∃ u, (f rv).run C.P w = .ok u w ∧ VR ρ I w v u) ∧
      results fn a.tmps = (do let vs ← fn.results.mapM f; pure (if h : vs.size = 1 then vs[0] else .tuple vs)) :=
    ⟨_, fun rv v hrv => by
      obtain ⟨u, hu, hv⟩ := resA_sound ok r hrv
      cases rv <;> exact ⟨u, hu, hv⟩, rfl⟩
  obtain ⟨f, hf, hres⟩ := this
  have hm : ∀ us : List Value, (fn.results.toList.mapM f).run C.P w = .ok us w → (results fn a.tmps).run C.P w = .ok (if h : us.length = 1 then us[0] else .tuple us.toArray) w := by
    intro us hus
    rw [hres, Array.mapM_eq_mapM_toList]
    simp only [Sem.run_bind, Sem.run_map, hus, Result.andThen_ok, Sem.run_pure]
    congr 1
  unfold resultsA at h
  split at h
  · rename_i r1 hr
    obtain ⟨us, hl, _, hus, hvs⟩ := mapM_sound hf [r1] [v] (by simp [h])
    rw [← hr] at hus
    have := hm us hus
    have hl1 : us.length = 1 := hl
    rw [dif_pos hl1] at this
    exact ⟨_, this, hvs 0 v _ rfl (List.getElem?_eq_getElem (by omega))⟩
  · rename_i hne
    simp only [Option.map_eq_some_iff] at h
    obtain ⟨vs, hvs', rfl⟩ := h
    obtain ⟨us, hl, hl2, hus, hvs⟩ := mapM_sound hf _ vs hvs'
    have := hm us hus
    have hl1 : us.length ≠ 1 := by
      intro hl1
      obtain ⟨r1, hr1⟩ := List.length_eq_one_iff.1 (show fn.results.toList.length = 1 by omega)
      exact hne r1 hr1
    rw [dif_neg hl1] at this
    exact ⟨_, this, .tup vs us.toArray (by simpa using hl) (fun i x u hx hu => hvs i x u hx (by simpa using hu))⟩

def argT (args : List AV) (n : Nat) : AV := args.getD n .dead

/-- How a function's way out is told. -/
def RetK (C : Ctx) (rs : List ResultVar) (Q : AV → Heap → Nat → Prop) : AX → St → Prop
  | .exit _, _ => False
  | _, s => ∃ r, resultsA C s rs = some r ∧ Q r s.h s.nx

theorem ACall.of_body (ok : C.Ok) {f : FuncId} {fn : Func} {c : Code} {args : List AV} {h : Heap} {nx : Nat} {Q : AV → Heap → Nat → Prop} (hf : C.P.funcs[f]? = some fn) (hb : fn.body = some c)
    (hname : (fn.name == "runtime.NumGoroutine") = false) (hc : codeOk fn.ntmps c = true) (hargs : args.length ≤ fn.ntmps)
    (hw : WpA C c (RetK C fn.results.toList Q) ⟨argT args, h, nx⟩) : ACall C.P f args h nx Q := by
  refine ⟨⟨fn, hf, hname, by simp [hb]⟩, fun ρ I w vs hnm H ⟨hsz, hvs⟩ => ?_⟩
  refine calls_of_wp hf hb (wp_mono (wpA_sound ok c _ ⟨argT args, h, nx⟩ ρ I w _ hc hw ⟨by simp; omega, rfl, fun n => ?_, H, hnm⟩) ?_)
  · show VR ρ I w (args.getD n .dead) ((vs ++ Array.replicate (fn.ntmps - vs.size) undef).getD n undef)
    by_cases hn : n < args.length
    · have hx := List.getElem?_eq_getElem hn
      have hu : vs[n]? = some (vs[n]'(by omega)) := Array.getElem?_eq_getElem (by omega)
      have := hvs n _ _ hx hu
      have e1 : args.getD n .dead = args[n] := by simp [List.getD, hx]
      have e2 : (vs ++ Array.replicate (fn.ntmps - vs.size) undef).getD n undef = vs[n]'(by omega) := by
        rw [Array.getD_eq_getD_getElem?, Array.getElem?_append_left (by omega), hu]; rfl
      rw [e1, e2]; exact this
    · have e1 : args.getD n .dead = .dead := by simp [List.getD, List.getElem?_eq_none (by omega : args.length ≤ n)]
      rw [e1]; exact .dead _
  · rintro e a' w' ⟨ax, st', ρ', I', hx, hK, S⟩
    have fin : ∀ r, resultsA C st' fn.results.toList = some r → Q r st'.h st'.nx → a'.defers = [] ∧ ∃ v, (results fn a'.tmps).run C.P w' = .ok v w' ∧
        ∃ v' r h' nx' ρ' I', Ending.returned v = .returned v' ∧ Q r h' nx' ∧ VR ρ' I' w' r v' ∧ HRel ρ' I' w' h' ∧ Ext h ρ I w h' ρ' I' w' ∧ Fresh nx ρ ρ' ∧ nx ≤ nx' ∧ ∀ id B, ρ' id = some B → id < nx' := by
      intro r hr hQ
      obtain ⟨u, hu, hvr⟩ := results_sound ok S.rel hr
      exact ⟨S.rel.df, u, hu, u, r, st'.h, st'.nx, ρ', I', rfl, hQ, hvr, S.rel.hp, S.ext, S.fresh, S.nx, S.rel.nm⟩
    cases ax with
    | normal =>
      cases e <;> simp only [exitIs] at hx <;> try exact hx.elim
      obtain ⟨r, hr, hQ⟩ := hK
      exact fin r hr hQ
    | exit i => exact hK.elim
    | ret =>
      cases e <;> simp only [exitIs] at hx <;> try exact hx.elim
      obtain ⟨r, hr, hQ⟩ := hK
      exact fin r hr hQ

theorem ACall.mono {P f args h nx} {Q Q' : AV → Heap → Nat → Prop} (hc : ACall P f args h nx Q) (hq : ∀ r h' nx', Q r h' nx' → Q' r h' nx') : ACall P f args h nx Q' :=
  ⟨hc.1, fun ρ I w vs h1 h2 h3 => (hc.2 ρ I w vs h1 h2 h3).mono fun e w' ⟨v, r, h', nx', ρ', I', g1, g2, g3⟩ => ⟨v, r, h', nx', ρ', I', g1, hq _ _ _ g2, g3⟩⟩

theorem HRel.sub {h h' : Heap} (H : HRel ρ I w h) (hs : ∀ id e, h' id = some e → h id = some e) : HRel ρ I w h' :=
  ⟨fun id c he => H.obj id c (hs _ _ he), fun id s x he => H.row id s x (hs _ _ he), fun i j e e' B B' b hi hj => H.sep i j e e' B B' b (hs _ _ hi) (hs _ _ hj), fun i e B b p hi => H.imm i e B b p (hs _ _ hi), H.immlt⟩

/-- A caller may forget what it does not want. -/
theorem ACall.drop {P f args h nx} {Q : AV → Heap → Nat → Prop} (hc : ACall P f args h nx fun r h1 nx1 => ∃ h', (∀ id e, h' id = some e → h1 id = some e) ∧ Q r h' nx1) : ACall P f args h nx Q :=
  ⟨hc.1, fun ρ I w vs h1 h2 h3 => (hc.2 ρ I w vs h1 h2 h3).mono fun e w' ⟨v, r, h', nx', ρ', I', g1, ⟨h'', hs, hQ⟩, g3, g4, g5, g6, g7, g8⟩ =>
    ⟨v, r, h'', nx', ρ', I', g1, hQ, g3, g4.sub hs, ⟨g5.rho, g5.imm, g5.bor, g5.immN, fun b ⟨i, e, B, a1, a2, a3⟩ => g5.own b ⟨i, e, B, hs _ _ a1, a2, a3⟩, g5.os, g5.tape, g5.output, g5.size, g5.frame⟩, g6, g7, g8⟩⟩

theorem VR.restrict {ρ ρ' : Names} {I I' : Imm} {w w' : World} {x : AV} {u : Value} (h2 : VR ρ' I' w' x u) (hr : ∀ id B, ρ id = some B → ρ' id = some B) : ∀ u0, VR ρ I w x u0 → VR ρ I' w' x u := by
  have nm : ∀ {id B B'}, ρ' id = some B → ρ id = some B' → ρ id = some B := by
    intro id B B' h1 h2
    have := hr _ _ h2
    rw [h1] at this; cases this; exact h2
  induction h2 with
  | bool b => intro _ _; exact .bool b
  | int k n => intro _ _; exact .int k n
  | str s => intro _ _; exact .str s
  | nil => intro _ _; exact .nil
  | viewNil p sz a c => intro _ _; exact .viewNil p sz a c
  | dead v => intro _ _; exact .dead v
  | view p sz xs b off c h1 h2 h3 h4 h5 h6 ih =>
    intro u0 h0
    refine .view p sz xs b off c h1 h2 h3 h4 h5 fun i j x u hx hu => ?_
    generalize hxv : AV.view p sz xs = xv at h0
    cases h0 <;> simp at hxv
    · obtain ⟨_, _, rfl⟩ := hxv
      simp [get2] at hx
    · obtain ⟨rfl, rfl, rfl⟩ := hxv
      rename_i q1 q2 q3 q4 q5 q6
      obtain ⟨u1, hu1⟩ := q5 i j x hx
      exact ih i j x u hx hu u1 (q6 i j x u1 hx hu1)
  | ref0 id sz off a B h1 =>
    intro u0 h0
    generalize hxv : AV.ref id sz off 0 = xv at h0
    cases h0 <;> simp at hxv
    · obtain ⟨rfl, rfl, rfl⟩ := hxv; exact .ref0 _ _ _ _ B (nm h1 (by assumption))
    · obtain ⟨rfl, rfl, rfl, rfl⟩ := hxv; exact .ref0 _ _ _ _ B (nm h1 (by assumption))
  | ref id sz off len b c B h1 h2 h3 h4 h5 h6 =>
    intro u0 h0
    generalize hxv : AV.ref id sz off len = xv at h0
    cases h0 <;> simp at hxv
    · obtain ⟨rfl, rfl, rfl, rfl⟩ := hxv; exact .ref _ _ _ _ b c B (nm h1 (by assumption)) h2 h3 h4 h5 h6
    · obtain ⟨rfl, rfl, rfl, rfl⟩ := hxv; exact .ref _ _ _ _ b c B (nm h1 (by assumption)) h2 h3 h4 h5 h6
  | ptr id off b B h1 h2 =>
    intro u0 h0
    cases h0
    exact .ptr id off b B (nm h1 (by assumption)) h2
  | ep id idx off b B h1 h2 =>
    intro u0 h0
    cases h0
    exact .ep id idx off b B (nm h1 (by assumption)) h2
  | vptr cells p b o h1 h2 h3 ih =>
    intro u0 h0
    refine .vptr cells p b o h1 h2 fun i x u hx hu => ?_
    cases h0 with
    | vptr _ p' b' o' q1 q2 q3 =>
      obtain ⟨u1, hu1⟩ := q2 i x hx
      exact ih i x u hx hu u1 (q3 i x u1 hx hu1)
  | fn f caps vs h1 h2 ih =>
    intro u0 h0
    cases h0 with
    | fn _ _ vs' q1 q2 =>
      refine .fn f caps vs h1 fun i x u hx hu => ?_
      have hi : i < vs'.size := by rw [q1]; exact (List.getElem?_eq_some_iff.1 hx).1
      exact ih i x u hx hu _ (q2 i x _ hx (Array.getElem?_eq_getElem hi))
  | agg cells vs h1 h2 ih =>
    intro u0 h0
    cases h0 with
    | agg _ vs' q1 q2 =>
      refine .agg cells vs h1 fun i x u hx hu => ?_
      have hi : i < vs'.size := by rw [q1]; exact (List.getElem?_eq_some_iff.1 hx).1
      exact ih i x u hx hu _ (q2 i x _ hx (Array.getElem?_eq_getElem hi))
  | tup cells vs h1 h2 ih =>
    intro u0 h0
    cases h0 with
    | tup _ vs' q1 q2 =>
      refine .tup cells vs h1 fun i x u hx hu => ?_
      have hi : i < vs'.size := by rw [q1]; exact (List.getElem?_eq_some_iff.1 hx).1
      exact ih i x u hx hu _ (q2 i x _ hx (Array.getElem?_eq_getElem hi))

/-- A value that names no memory. -/
inductive Plain : AV → Prop
  | bool (b) : Plain (.bool b)
  | int (k n) : Plain (.int k n)
  | str (s) : Plain (.str s)
  | nil : Plain .nil
  | agg (cells : List AV) : (∀ x ∈ cells, Plain x) → Plain (.agg cells)
  | tup (cells : List AV) : (∀ x ∈ cells, Plain x) → Plain (.tup cells)

theorem Plain.vr {x : AV} {u : Value} (h : VR ρ I w x u) (hp : Plain x) : ∀ ρ' I' w', VR ρ' I' w' x u := by
  intro ρ' I' w'
  induction h with
  | bool b => exact .bool b
  | int k n => exact .int k n
  | str s => exact .str s
  | nil => exact .nil
  | agg cells vs h1 h2 ih => cases hp with | agg _ hp => exact .agg cells vs h1 fun i x u hx hu => ih i x u hx hu (hp x (List.mem_of_getElem? hx))
  | tup cells vs h1 h2 ih => cases hp with | tup _ hp => exact .tup cells vs h1 fun i x u hx hu => ih i x u hx hu (hp x (List.mem_of_getElem? hx))
  | _ => cases hp

/-- A call that leaves abstract memory as it was, and tells a value that names none. -/
theorem ACall.pure {P f args h nx} {R : AV → Prop} (hc : ACall P f args h nx fun r h1 nx1 => (∀ id e, h id = some e → h1 id = some e) ∧ Plain r ∧ R r) {Q : AV → Heap → Nat → Prop}
    (hQ : ∀ r, R r → Q r h nx) : ACall P f args h nx Q :=
  ⟨hc.1, fun ρ I w vs h1 h2 h3 => (hc.2 ρ I w vs h1 h2 h3).mono fun e w' ⟨v, r, h', nx', ρ', I', g1, ⟨hs, hp, hR⟩, g3, g4, g5, g6, g7, g8⟩ => by
    have H' := g4.sub hs
    refine ⟨v, r, h, nx, ρ, I', g1, hQ r hR, hp.vr g3 _ _ _, ⟨fun id cells he => ?_, fun id sz xs he => ?_, fun i j e e' B B' b hi hj => h2.sep i j e e' B B' b hi hj, fun i e B b p hi hB hb => H'.imm i e B b p hi (g5.rho _ _ hB) hb, g4.immlt⟩,
      ⟨fun _ _ h => h, g5.imm, g5.bor, g5.immN, fun b hb => .inl hb, g5.os, g5.tape, g5.output, g5.size, g5.frame⟩, fun id B hB => .inl hB, Nat.le_refl _, h1⟩
    · obtain ⟨B, b, cur, ty, a1, a2, a3, a4, a5⟩ := h2.obj id cells he
      obtain ⟨B', b', cur', ty', b1, b2, b3, b4, b5⟩ := H'.obj id cells he
      have e1 := g5.rho _ _ a1
      rw [b1] at e1; cases e1
      refine ⟨B, b', cur', ty', a1, b2, b3, b4, fun i x u hx hu => ?_⟩
      have hi : i < cur.size := by rw [a4]; exact (List.getElem?_eq_some_iff.1 hx).1
      exact (b5 i x u hx hu).restrict g5.rho _ (a5 i x _ hx (Array.getElem?_eq_getElem hi))
    · obtain ⟨B, a1, a2, a3, a4, a5, a6⟩ := h2.row id sz xs he
      obtain ⟨B', b1, b2, b3, b4, b5, b6⟩ := H'.row id sz xs he
      have e1 := g5.rho _ _ a1
      rw [b1] at e1; cases e1
      refine ⟨B, a1, b2, b3, b4, b5, ?_⟩
      rcases b6 with b6 | ⟨b, cur, ty, k1, k2, k3, k4, k5, k6⟩
      · exact .inl b6
      · refine .inr ⟨b, cur, ty, k1, k2, k3, k4, k5, fun i j x u hx hu => ?_⟩
        rcases a6 with ⟨a6, a7, _⟩ | ⟨b0, cur0, ty0, l1, l2, l3, l4, l5, l6⟩
        · subst a7; simp [get2] at hx
        · obtain ⟨cs, q1, q2⟩ := get2_some hx
          have hj : j < sz := by rw [← a5 _ _ q1]; exact (List.getElem?_eq_some_iff.1 q2).1
          have hk1 := Nat.mul_le_mul_right sz (show i + 1 ≤ B.cap by have := (List.getElem?_eq_some_iff.1 q1).1; omega)
          rw [Nat.add_mul, Nat.one_mul] at hk1
          have hk : B.off + i * sz + j < cur0.size := by omega
          exact (k6 i j x u hx hu).restrict g5.rho _ (l6 i j x _ hx (Array.getElem?_eq_getElem hk))⟩

end
end Go.AE
