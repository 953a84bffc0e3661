/- Abstract machine: results that name no entry. -/
import Derived.Test.YtkfdpbhjklaecaaAeRun
namespace Go.AE
set_option linter.unusedVariables false
section
variable {C : Ctx} {ρ : Names} {I : Imm} {w : World}

/-- A value that names no entry of abstract memory. -/
inductive Fz : AV → Prop
  | bool (b) : Fz (.bool b)
  | int (k n) : Fz (.int k n)
  | str (s) : Fz (.str s)
  | nil : Fz .nil
  | dead : Fz .dead
  | view (p sz) (xs : List (List AV)) : (∀ i j x, get2 xs i j = some x → Fz x) → Fz (.view p sz xs)
  | vptr (cells : List AV) : (∀ x ∈ cells, Fz x) → Fz (.vptr cells)
  | fn (f) (cells : List AV) : (∀ x ∈ cells, Fz x) → Fz (.fn f cells)
  | agg (cells : List AV) : (∀ x ∈ cells, Fz x) → Fz (.agg cells)
  | tup (cells : List AV) : (∀ x ∈ cells, Fz x) → Fz (.tup cells)

theorem Fz.vr {ρ' : Names} {x : AV} {u : Value} (h : VR ρ I w x u) (hp : Fz x) : VR ρ' I w x u := by
  induction h with
  | bool b => exact .bool b
  | int k n => exact .int k n
  | str s => exact .str s
  | nil => exact .nil
  | dead v => exact .dead v
  | viewNil p sz a c => exact .viewNil p sz a c
  | view p sz xs b off c h1 h2 h3 h4 h5 h6 ih =>
    cases hp with | view _ _ _ hp => exact .view p sz xs b off c h1 h2 h3 h4 h5 fun i j x u hx hu => ih i j x u hx hu (hp i j x hx)
  | vptr cells p b o h1 h2 h3 ih =>
    cases hp with | vptr _ hp => exact .vptr cells p b o h1 h2 fun i x u hx hu => ih i x u hx hu (hp x (List.mem_of_getElem? hx))
  | fn f caps vs h1 h2 ih => cases hp with | fn _ _ hp => exact .fn f caps vs h1 fun i x u hx hu => ih i x u hx hu (hp x (List.mem_of_getElem? hx))
  | agg cells vs h1 h2 ih => cases hp with | agg _ hp => exact .agg cells vs h1 fun i x u hx hu => ih i x u hx hu (hp x (List.mem_of_getElem? hx))
  | tup cells vs h1 h2 ih => cases hp with | tup _ hp => exact .tup cells vs h1 fun i x u hx hu => ih i x u hx hu (hp x (List.mem_of_getElem? hx))
  | _ => cases hp

def frzRef1 (h : Heap) (id off len : Nat) : Option Ent → Option (AV × Heap)
  | some (.row sz xs) => if off + len ≤ xs.length then some (.view true sz ((xs.drop off).take len), upd h id none) else none
  | _ => none
def frz1 (h : Heap) : AV → Option (AV × Heap)
  | .ref id _ off len => frzRef1 h id off len (h id)
  | .ptr .. | .ep .. | .agg _ | .tup _ => none
  | v => some (v, h)
def seqF (F : Heap → AV → Option (AV × Heap)) : Heap → List AV → Option (List AV × Heap)
  | h, [] => some ([], h)
  | h, v :: vs => (F h v).bind fun p => (seqF F p.2 vs).map fun q => (p.1 :: q.1, q.2)
def frzV (h : Heap) : AV → Option (AV × Heap)
  | .agg cs => (seqF frz1 h cs).map fun p => (.agg p.1, p.2)
  | v => frz1 h v
/-- A result, its own rows made immutable. -/
def frzR (h : Heap) : AV → Option (AV × Heap)
  | .tup cs => (seqF frzV h cs).map fun p => (.tup p.1, p.2)
  | v => frzV h v

@[simp] theorem frz1_bool (h b) : frz1 h (.bool b) = some (.bool b, h) := rfl
@[simp] theorem frz1_int (h k b) : frz1 h (.int k b) = some (.int k b, h) := rfl
@[simp] theorem frz1_str (h b) : frz1 h (.str b) = some (.str b, h) := rfl
@[simp] theorem frz1_nil (h) : frz1 h .nil = some (.nil, h) := rfl
@[simp] theorem frz1_view (h p s x) : frz1 h (.view p s x) = some (.view p s x, h) := rfl
@[simp] theorem frz1_ref (h id s off len) : frz1 h (.ref id s off len) = frzRef1 h id off len (h id) := rfl
@[simp] theorem frz1_dead (h) : frz1 h .dead = some (.dead, h) := rfl
@[simp] theorem frzRef1_row (h id off len sz xs) : frzRef1 h id off len (some (.row sz xs)) = if off + len ≤ xs.length then some (.view true sz ((xs.drop off).take len), upd h id none) else none := rfl
@[simp] theorem seqF_nil (F h) : seqF F h [] = some ([], h) := rfl
@[simp] theorem seqF_cons (F h v vs) : seqF F h (v :: vs) = (F h v).bind fun p => (seqF F p.2 vs).map fun q => (p.1 :: q.1, q.2) := rfl
@[simp] theorem frzV_agg (h cs) : frzV h (.agg cs) = (seqF frz1 h cs).map fun p => (.agg p.1, p.2) := rfl
@[simp] theorem frzV_bool (h b) : frzV h (.bool b) = some (.bool b, h) := rfl
@[simp] theorem frzV_int (h k b) : frzV h (.int k b) = some (.int k b, h) := rfl
@[simp] theorem frzV_str (h b) : frzV h (.str b) = some (.str b, h) := rfl
@[simp] theorem frzV_nil (h) : frzV h .nil = some (.nil, h) := rfl
@[simp] theorem frzV_view (h p s x) : frzV h (.view p s x) = some (.view p s x, h) := rfl
@[simp] theorem frzV_ref (h id s off len) : frzV h (.ref id s off len) = frzRef1 h id off len (h id) := rfl
@[simp] theorem frzR_tup (h cs) : frzR h (.tup cs) = (seqF frzV h cs).map fun p => (.tup p.1, p.2) := rfl
@[simp] theorem frzR_agg (h cs) : frzR h (.agg cs) = (seqF frz1 h cs).map fun p => (.agg p.1, p.2) := rfl
@[simp] theorem frzR_bool (h b) : frzR h (.bool b) = some (.bool b, h) := rfl
@[simp] theorem frzR_int (h k b) : frzR h (.int k b) = some (.int k b, h) := rfl
@[simp] theorem frzR_str (h b) : frzR h (.str b) = some (.str b, h) := rfl
@[simp] theorem frzR_nil (h) : frzR h .nil = some (.nil, h) := rfl
@[simp] theorem frzR_view (h p s x) : frzR h (.view p s x) = some (.view p s x, h) := rfl
@[simp] theorem frzR_ref (h id s off len) : frzR h (.ref id s off len) = frzRef1 h id off len (h id) := rfl

def FSound (F : Heap → AV → Option (AV × Heap)) : Prop :=
  ∀ (h : Heap) (v v' : AV) (h' : Heap) (ρ : Names) (I : Imm) (w : World) (u : Value), HRel ρ I w h → F h v = some (v', h') → VR ρ I w v u →
    ∃ I', HRel ρ I' w h' ∧ Ext h ρ I w h' ρ I' w ∧ VR ρ I' w v' u

theorem frz1_sound : FSound frz1 := by
  intro h v v' h' ρ I w u H hf hv
  have same : some (v, h) = some (v', h') → ∃ I', HRel ρ I' w h' ∧ Ext h ρ I w h' ρ I' w ∧ VR ρ I' w v' u := by
    intro he; cases he; exact ⟨I, H, Ext.refl, hv⟩
  cases v with
  | ref id s off len =>
    simp only [frz1_ref] at hf
    cases hid : h id with
    | none => rw [hid] at hf; cases hf
    | some e =>
      cases e with
      | obj => rw [hid] at hf; cases hf
      | row sz xs =>
        rw [hid, frzRef1_row] at hf
        split at hf
        · rename_i hle
          cases hf
          obtain ⟨I1, H1, E1, hv1⟩ := freeze_one (st := ⟨fun _ => .dead, h, 0⟩) (s0 := s) H hid hle
          exact ⟨I1, H1, E1, hv1 _ hv⟩
        · cases hf
  | ptr => cases hf
  | ep => cases hf
  | agg => cases hf
  | tup => cases hf
  | _ => exact same hf

theorem seqF_sound {F} (hF : FSound F) : ∀ (cs : List AV) (h h' : Heap) (I : Imm) (cs' : List AV) (us : List Value), HRel ρ I w h → seqF F h cs = some (cs', h') → us.length = cs.length →
    (∀ (i : Nat) x u, cs[i]? = some x → us[i]? = some u → VR ρ I w x u) →
    ∃ I', HRel ρ I' w h' ∧ Ext h ρ I w h' ρ I' w ∧ cs'.length = cs.length ∧ ∀ (i : Nat) x u, cs'[i]? = some x → us[i]? = some u → VR ρ I' w x u := by
  intro cs
  induction cs with
  | nil =>
    intro h h' I cs' us H hf hl hr
    cases hf
    exact ⟨I, H, Ext.refl, rfl, hr⟩
  | cons c cs ih =>
    intro h h' I cs' us H hf hl hr
    cases us with
    | nil => simp at hl
    | cons u us =>
      simp only [seqF_cons, Option.bind_eq_some_iff, Option.map_eq_some_iff] at hf
      obtain ⟨⟨c', h1⟩, g1, ⟨⟨cs1, h2⟩, g2, g3⟩⟩ := hf
      cases g3
      obtain ⟨I1, H1, E1, hv1⟩ := hF h c c' h1 ρ I w u H g1 (hr 0 c u rfl rfl)
      obtain ⟨I2, H2, E2, hl2, hv2⟩ := ih h1 _ I1 cs1 us H1 g2 (by simpa using hl) fun i x u hx hu => E1.vr H (hr (i + 1) x u (by simpa using hx) (by simpa using hu))
      refine ⟨I2, H2, E1.trans E2, by simp [hl2], fun i x v hx hv => ?_⟩
      cases i with
      | zero => simp at hx hv; subst hx; subst hv; exact E2.vr H1 hv1
      | succ i => exact hv2 i x v (by simpa using hx) (by simpa using hv)

theorem frzV_sound : FSound frzV := by
  intro h v v' h' ρ I w u H hf hv
  cases v with
  | agg cs =>
    simp only [frzV_agg, Option.map_eq_some_iff] at hf
    obtain ⟨⟨cs1, h1⟩, g1, g2⟩ := hf
    cases g2
    cases hv with
    | agg _ vs q1 q2 =>
      obtain ⟨I2, H2, E2, hl2, hv2⟩ := seqF_sound frz1_sound cs h _ I cs1 vs.toList H g1 (by simpa using q1) fun i x u hx hu => q2 i x u hx (by simpa using hu)
      exact ⟨I2, H2, E2, .agg _ _ (by rw [hl2]; exact q1) fun i x u hx hu => hv2 i x u hx (by simpa using hu)⟩
  | tup cs => cases hf
  | ptr => cases hf
  | ep => cases hf
  | _ =>
    refine frz1_sound h _ v' h' ρ I w u H ?_ hv
    exact hf

theorem frzR_sound : FSound frzR := by
  intro h v v' h' ρ I w u H hf hv
  cases v with
  | tup cs =>
    simp only [frzR_tup, Option.map_eq_some_iff] at hf
    obtain ⟨⟨cs1, h1⟩, g1, g2⟩ := hf
    cases g2
    cases hv with
    | tup _ vs q1 q2 =>
      obtain ⟨I2, H2, E2, hl2, hv2⟩ := seqF_sound frzV_sound cs h _ I cs1 vs.toList H g1 (by simpa using q1) fun i x u hx hu => q2 i x u hx (by simpa using hu)
      exact ⟨I2, H2, E2, .tup _ _ (by rw [hl2]; exact q1) fun i x u hx hu => hv2 i x u hx (by simpa using hu)⟩
  | _ =>
    refine frzV_sound h _ v' h' ρ I w u H ?_ hv
    exact hf

/-- A caller may freeze what it is handed back. -/
theorem ACall.freeze {P f args h nx} {Q : AV → Heap → Nat → Prop} (hc : ACall P f args h nx fun r h1 nx1 => ∃ r' h', frzR h1 r = some (r', h') ∧ Q r' h' nx1) : ACall P f args h nx Q :=
  ⟨hc.1, fun ρ I w vs h1 h2 h3 => (hc.2 ρ I w vs h1 h2 h3).mono fun e w' ⟨v, r, h', nx', ρ', I', g1, ⟨r', h'', hz, hQ⟩, g3, g4, g5, g6, g7, g8⟩ => by
    obtain ⟨I2, H2, E2, hv2⟩ := frzR_sound h' r r' h'' ρ' I' w' v g4 hz g3
    exact ⟨v, r', h'', nx', ρ', I2, g1, hQ, hv2, H2, g5.trans E2, g6, g7, g8⟩⟩

/-- Below nx, memory stands as it stood. -/
def KeepB (nx : Nat) (h' h : Heap) : Prop := ∀ j, j < nx → h' j = h j
@[simp] theorem keep_refl (nx h) : KeepB nx h h = True := by simp [KeepB]
@[simp] theorem keep_upd {nx id : Nat} (f h : Heap) (e) (hle : nx ≤ id) : KeepB nx (upd f id e) h = KeepB nx f h := by
  apply propext
  constructor
  · intro hk j hj
    have := hk j hj
    rw [upd_at, if_neg (by omega)] at this; exact this
  · intro hk j hj
    rw [upd_at, if_neg (by omega)]; exact hk j hj

/-- A call that leaves abstract memory as it was, and tells a value that names none of it. -/
theorem ACall.pureF {P f args h nx} {R : AV → Prop} (hc : ACall P f args h nx fun r h1 nx1 => (∀ id e, h id = some e → h1 id = some e) ∧ Fz r ∧ R r) {Q : AV → Heap → Nat → Prop}
    (hQ : ∀ r, R r → Q r h nx) : ACall P f args h nx Q :=
  ⟨hc.1, fun ρ I w vs h1 h2 h3 => (hc.2 ρ I w vs h1 h2 h3).mono fun e w' ⟨v, r, h', nx', ρ', I', g1, ⟨hs, hp, hR⟩, g3, g4, g5, g6, g7, g8⟩ => by
    have H' := g4.sub hs
    refine ⟨v, r, h, nx, ρ, I', g1, hQ r hR, hp.vr g3, ⟨fun id cells he => ?_, fun id sz xs he => ?_, fun i j e e' B B' b hi hj => h2.sep i j e e' B B' b hi hj, fun i e B b p hi hB hb => H'.imm i e B b p hi (g5.rho _ _ hB) hb, g4.immlt⟩,
      ⟨fun _ _ h => h, g5.imm, g5.bor, g5.immN, fun b hb => .inl hb, g5.os, g5.tape, g5.output, g5.size, g5.frame⟩, fun id B hB => .inl hB, Nat.le_refl _, h1⟩
    · obtain ⟨B, b, cur, ty, a1, a2, a3, a4, a5⟩ := h2.obj id cells he
      obtain ⟨B', b', cur', ty', b1, b2, b3, b4, b5⟩ := H'.obj id cells he
      have e1 := g5.rho _ _ a1
      rw [b1] at e1; cases e1
      refine ⟨B, b', cur', ty', a1, b2, b3, b4, fun i x u hx hu => ?_⟩
      have hi : i < cur.size := by rw [a4]; exact (List.getElem?_eq_some_iff.1 hx).1
      exact (b5 i x u hx hu).restrict g5.rho _ (a5 i x _ hx (Array.getElem?_eq_getElem hi))
    · obtain ⟨B, a1, a2, a3, a4, a5, a6⟩ := h2.row id sz xs he
      obtain ⟨B', b1, b2, b3, b4, b5, b6⟩ := H'.row id sz xs he
      have e1 := g5.rho _ _ a1
      rw [b1] at e1; cases e1
      refine ⟨B, a1, b2, b3, b4, b5, ?_⟩
      rcases b6 with b6 | ⟨b, cur, ty, k1, k2, k3, k4, k5, k6⟩
      · exact .inl b6
      · refine .inr ⟨b, cur, ty, k1, k2, k3, k4, k5, fun i j x u hx hu => ?_⟩
        rcases a6 with ⟨a6, a7, _⟩ | ⟨b0, cur0, ty0, l1, l2, l3, l4, l5, l6⟩
        · subst a7; simp [get2] at hx
        · obtain ⟨cs, q1, q2⟩ := get2_some hx
          have hj : j < sz := by rw [← a5 _ _ q1]; exact (List.getElem?_eq_some_iff.1 q2).1
          have hk1 := Nat.mul_le_mul_right sz (show i + 1 ≤ B.cap by have := (List.getElem?_eq_some_iff.1 q1).1; omega)
          rw [Nat.add_mul, Nat.one_mul] at hk1
          have hk : B.off + i * sz + j < cur0.size := by omega
          exact (k6 i j x u hx hu).restrict g5.rho _ (l6 i j x _ hx (Array.getElem?_eq_getElem hk))⟩

/-- How a pure function's way out is told. -/
def RetP (C : Ctx) (rs : List ResultVar) (nx : Nat) (h0 : Heap) (r : AV) : AX → St → Prop :=
  RetK C rs fun r' h' _ => ∃ h2, frzR h' r' = some (r, h2) ∧ KeepB nx h2 h0

theorem PC.of (ok : C.Ok) {f : FuncId} {fn : Func} {c : Code} {args : List AV} {r : AV} (hf : C.P.funcs[f]? = some fn) (hb : fn.body = some c)
    (hname : (fn.name == "runtime.NumGoroutine") = false) (hc : codeOk fn.ntmps c = true) (hargs : args.length ≤ fn.ntmps) (hp : Fz r)
    (hw : ∀ (h : Heap) (nx : Nat), (∀ j, h j ≠ none → j < nx) → goC C c ⟨argT args, h, nx⟩ (.fin (RetP C fn.results.toList nx h r))) : PC C.P f args r := by
  intro h nx Q hQ
  refine ⟨⟨fn, hf, hname, by simp [hb]⟩, fun ρ I w vs hnm H hv => ?_⟩
  have hlt : ∀ j, h j ≠ none → j < nx := by
    intro j hj
    cases he : h j with
    | none => exact absurd he hj
    | some e => obtain ⟨B, hB⟩ := (H.ent he).base; exact hnm j B hB
  have hcall := ACall.freeze (Q := fun r' h2 _ => r' = r ∧ KeepB nx h2 h) ((ACall.of_body (Q := fun r' h' _ => ∃ h2, frzR h' r' = some (r, h2) ∧ KeepB nx h2 h) ok hf hb hname hc hargs (hw h nx hlt)).mono
    fun r' h' nx' ⟨h2, g1, g2⟩ => ⟨r, h2, g1, rfl, g2⟩)
  have := ACall.pureF (R := fun r' => r' = r) (Q := Q) (hcall.mono (Q' := fun r' h1 _ => (∀ id e, h id = some e → h1 id = some e) ∧ Fz r' ∧ r' = r) fun r' h' nx' ⟨h1, h2⟩ =>
    ⟨fun id e he => by rw [h2 id (hlt id (by rw [he]; simp))]; exact he, h1 ▸ hp, h1⟩) (fun r' hr => hr ▸ hQ)
  exact this.2 ρ I w vs hnm H hv
end

theorem retP_mk {C rs nx h0 r r' h2} {e : AX} {s : St} (he : ∀ i, e ≠ .exit i) (hr : resultsA C s rs = some r') (hz : frzR s.h r' = some (r, h2)) (hk : KeepB nx h2 h0) : RetP C rs nx h0 r e s := by
  cases e with
  | exit i => exact absurd rfl (he i)
  | _ => exact ⟨r', hr, h2, hz, hk⟩
def finP (nx : Nat) (h0 : Heap) (r : AV) (v : Option (AV × Heap)) : Prop := ∃ h2, v = some (r, h2) ∧ KeepB nx h2 h0
@[simp] theorem finP_some (nx h0 r r' h2) : finP nx h0 r (some (r', h2)) = (r' = r ∧ KeepB nx h2 h0) := by
  apply propext
  constructor
  · rintro ⟨h3, h4, h5⟩; cases h4; exact ⟨rfl, h5⟩
  · rintro ⟨rfl, h5⟩; exact ⟨_, rfl, h5⟩
def finS (C : Ctx) (nx : Nat) (h0 : Heap) (r : AV) (v : Option AV) (s : St) : Prop := ∃ r', v = some r' ∧ finP nx h0 r (frzR s.h r')
@[simp] theorem finS_some (C nx h0 r r') (s : St) : finS C nx h0 r (some r') s = finP nx h0 r (frzR s.h r') := by simp [finS]
@[simp] theorem retP_normal (C rs nx h0 r) (s : St) : RetP C rs nx h0 r .normal s = finS C nx h0 r (resultsA C s rs) s := propext Iff.rfl
@[simp] theorem retP_ret (C rs nx h0 r) (s : St) : RetP C rs nx h0 r .ret s = finS C nx h0 r (resultsA C s rs) s := propext Iff.rfl

theorem least_of {p : Nat → Prop} (h : ∃ n, p n) : ∃ n, p n ∧ ∀ m, p m → n ≤ m := by
  obtain ⟨n, hn⟩ := h
  induction n using Nat.strongRecOn with
  | ind n ih =>
    by_cases hl : ∃ m, m < n ∧ p m
    · obtain ⟨m, h1, h2⟩ := hl
      exact ih m h1 h2
    · exact ⟨n, hn, fun m hm => Nat.le_of_not_lt fun hlt => hl ⟨m, hlt, hm⟩⟩

open Classical in
/-- A loop with a number that falls. -/
theorem go_loop_m {C : Ctx} {c : Code} {st : St} {k : Kont} (Inv : Nat → St → Prop) (m0 : Nat) (h0 : Inv m0 st)
    (hr : ∀ m s, Inv m s → ∀ next : St → Prop, (∀ s' m', m' < m → Inv m' s' → next s') → goC C c s (.loop next k)) : goC C (.loop c) st k := by
  have hμ : ∃ μ : St → Nat, ∀ s, (∃ m, Inv m s) → Inv (μ s) s ∧ ∀ m, Inv m s → μ s ≤ m :=
    ⟨fun s => if h : ∃ m, Inv m s then Classical.choose (least_of h) else 0, fun s hs => by
      simp only [dif_pos hs]; exact Classical.choose_spec (least_of hs)⟩
  obtain ⟨μ, hμ⟩ := hμ
  refine go_loop (fun s => ∃ m, Inv m s) μ ⟨m0, h0⟩ fun s hs => ?_
  obtain ⟨h1, _⟩ := hμ s hs
  exact hr _ s h1 _ fun s' m' hlt hi => ⟨⟨m', hi⟩, Nat.lt_of_le_of_lt ((hμ s' ⟨m', hi⟩).2 m' hi) hlt⟩

/-- A loop that counts up to n. -/
theorem go_loop_up {C : Ctx} {c : Code} {st : St} {k : Kont} (n : Nat) (Inv : Nat → St → Prop) (h0 : Inv 0 st)
    (hr : ∀ i s, i ≤ n → Inv i s → ∀ next : St → Prop, (∀ s', i + 1 ≤ n → Inv (i + 1) s' → next s') → goC C c s (.loop next k)) : goC C (.loop c) st k := by
  refine go_loop_m (fun m s => ∃ i, i ≤ n ∧ m = n - i ∧ Inv i s) n ⟨0, by omega, by omega, h0⟩ ?_
  rintro m s ⟨i, h1, rfl, h2⟩ next hn
  exact hr i s h1 h2 next fun s' h3 h4 => hn s' (n - (i + 1)) (by omega) ⟨i + 1, h3, rfl, h4⟩

theorem Fz.view' {p sz} {xs : List (List AV)} (h : ∀ c ∈ xs, ∀ x ∈ c, Fz x) : Fz (.view p sz xs) :=
  .view _ _ _ fun i j x hx => by
    obtain ⟨cs, h1, h2⟩ := get2_some hx
    exact h cs (List.mem_of_getElem? h1) x (List.mem_of_getElem? h2)
end Go.AE
