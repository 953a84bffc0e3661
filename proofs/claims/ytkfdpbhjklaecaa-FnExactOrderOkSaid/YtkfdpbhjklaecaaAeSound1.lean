/- Abstract machine: soundness of single operations, first part. -/
import Derived.Test.YtkfdpbhjklaecaaAeStep
namespace Go.AE
set_option linter.unusedVariables false

structure SRel (N : Nat) (ρ : Names) (I : Imm) (w : World) (st : St) (a : Act) : Prop where
  sz : a.tmps.size = N
  df : a.defers = []
  tm : ∀ n, VR ρ I w (st.t n) (a.tmps.getD n undef)
  hp : HRel ρ I w st.h
  nm : ∀ id B, ρ id = some B → id < st.nx

def zrB : AV → Value → Bool
  | .int k n, .int k' n' => k = k' && n = n'
  | .bool a, .bool b => a = b
  | .str s, .string s' => s.data.toList = s'.data.toList
  | .nil, .slice none 0 0 => true
  | .dead, _ => true
  | _, _ => false

theorem zrB_vr {x u} (h : zrB x u = true) (ρ I w) : VR ρ I w x u := by
  unfold zrB at h
  split at h
  · simp at h; obtain ⟨rfl, rfl⟩ := h; exact .int _ _
  · simp at h; subst h; exact .bool _
  · simp at h; rename_i s s'; have : s = s' := by cases s; cases s'; simp_all
    subst this; exact .str _
  · exact .nil
  · exact .dead _
  · cases h

def tyOk (P : Program) (t : TypeId) (d : TyD) : Bool :=
  match P.info? t, P.underlying t with
  | some i, some u =>
    i.size == d.size && i.bytes == d.bytes && d.zero.length == d.size &&
    (match i.zero with
     | some z => z.cells.size == d.size && (List.range d.size).all fun j =>
        match d.zero[j]?, z.cells[j]? with
        | some x, some u => zrB x u
        | _, _ => false
     | none => false) &&
    (match u with
     | .struct fs => d.agg && d.elem.isNone && d.ik.isNone && !d.isStr && fs.toList.map (fun f => (f.offset, f.type)) == d.fields.map (fun f => (f.1, f.2.2)) &&
        d.fields.all fun f => (P.info? f.2.2).map (·.size) == some f.2.1
     | .array .. => false
     | .slice e => !d.agg && d.elem == some e && d.ik.isNone && !d.isStr && d.fields.isEmpty
     | .int k => !d.agg && d.elem.isNone && d.ik == some k && !d.isStr && d.fields.isEmpty
     | .string => !d.agg && d.elem.isNone && d.ik.isNone && d.isStr && d.fields.isEmpty
     | _ => !d.agg && d.elem.isNone && d.ik.isNone && !d.isStr && d.fields.isEmpty)
  | _, _ => false

structure Ctx.Ok (C : Ctx) : Prop where
  tys : ∀ t d, C.ty t = some d → tyOk C.P t d = true
  eqs : ∀ t x y b, C.eqA t x y = some b → ∀ ρ I w xv yv, VR ρ I w x xv → VR ρ I w y yv → ∀ (xo yo : Operand) (W : World),
    (do eqGuard .eql t xo yo xv yv; Go.binOp .eql t xv yv : Sem Value).run C.P W = .ok (.bool b) W ∧
    (do eqGuard .neq t xo yo xv yv; Go.binOp .neq t xv yv : Sem Value).run C.P W = .ok (.bool (!b)) W

structure TyFacts (P : Program) (t : TypeId) (d : TyD) (i : TypeInfo) (u : TypeDesc) (z : Value) : Prop where
  info : P.info? t = some i
  und : P.underlying t = some u
  size : i.size = d.size
  bytes : i.bytes = d.bytes
  zlen : d.zero.length = d.size
  zero : i.zero = some z
  zsize : z.cells.size = d.size
  zvr : ∀ (j : Nat) x u, d.zero[j]? = some x → z.cells[j]? = some u → ∀ ρ I w, VR ρ I w x u

theorem Ctx.Ok.facts {C : Ctx} (ok : C.Ok) {t d} (h : C.ty t = some d) : ∃ i u z, TyFacts C.P t d i u z := by
  have h0 := ok.tys t d h
  unfold tyOk at h0
  cases hi : C.P.info? t with
  | none => simp [hi] at h0
  | some i =>
    cases hu : C.P.underlying t with
    | none => simp [hi, hu] at h0
    | some u =>
      simp only [hi, hu, Bool.and_eq_true] at h0
      obtain ⟨⟨⟨⟨h1, h2⟩, h3⟩, h4⟩, h5⟩ := h0
      cases hz : i.zero with
      | none => simp [hz] at h4
      | some z =>
        simp only [hz, Bool.and_eq_true, List.all_eq_true, List.mem_range] at h4
        refine ⟨i, u, z, by first | rfl | assumption, by first | rfl | assumption, by simpa using h1, by simpa using h2, by simpa using h3, hz, by simpa using h4.1, fun j x v hx hv ρ I w => ?_⟩
        have hj : j < d.size := by
          have := (List.getElem?_eq_some_iff.1 hx).1
          have h3' : d.zero.length = d.size := by simpa using h3
          omega
        have := h4.2 j hj
        rw [hx, hv] at this
        exact zrB_vr this ρ I w

theorem Ctx.Ok.agg {C : Ctx} (ok : C.Ok) {t d} (h : C.ty t = some d) (ha : d.agg = true) :
    ∃ fs, C.P.underlying t = some (.struct fs) ∧ fs.toList.map (fun f => (f.offset, f.type)) = d.fields.map (fun f => (f.1, f.2.2)) ∧
      ∀ f ∈ d.fields, (C.P.info? f.2.2).map (·.size) = some f.2.1 := by
  have h0 := ok.tys t d h
  unfold tyOk at h0
  cases hi : C.P.info? t with
  | none => simp [hi] at h0
  | some i =>
    cases hu : C.P.underlying t with
    | none => simp [hi, hu] at h0
    | some u =>
      simp only [hi, hu, Bool.and_eq_true] at h0
      obtain ⟨_, h5⟩ := h0
      cases u <;> simp [ha] at h5
      rename_i fs
      exact ⟨fs, rfl, h5.1.2, fun f hf => by have := h5.2 f.1 f.2.1 f.2.2 hf; simpa using this⟩

theorem Ctx.Ok.notAgg {C : Ctx} (ok : C.Ok) {t d} (h : C.ty t = some d) (ha : d.agg = false) (w : World) : (isAgg t).run C.P w = .ok false w := by
  have h0 := ok.tys t d h
  unfold tyOk at h0
  cases hi : C.P.info? t with
  | none => simp [hi] at h0
  | some i =>
    cases hu : C.P.underlying t with
    | none => simp [hi, hu] at h0
    | some u =>
      simp only [hi, hu, Bool.and_eq_true] at h0
      obtain ⟨_, h5⟩ := h0
      cases u <;> simp [ha] at h5 <;> simp [isAgg, run_underlying hu]

theorem Ctx.Ok.isAggT {C : Ctx} (ok : C.Ok) {t d} (h : C.ty t = some d) (ha : d.agg = true) (w : World) : (isAgg t).run C.P w = .ok true w := by
  obtain ⟨fs, hu, _⟩ := ok.agg h ha
  simp [isAgg, run_underlying hu]

theorem Ctx.Ok.slice {C : Ctx} (ok : C.Ok) {t d e} (h : C.ty t = some d) (he : d.elem = some e) : C.P.underlying t = some (.slice e) := by
  have h0 := ok.tys t d h
  unfold tyOk at h0
  cases hi : C.P.info? t with
  | none => simp [hi] at h0
  | some i =>
    cases hu : C.P.underlying t with
    | none => simp [hi, hu] at h0
    | some u =>
      simp only [hi, hu, Bool.and_eq_true] at h0
      obtain ⟨_, h5⟩ := h0
      cases u <;> simp [he] at h5
      rw [h5.1.1.1.2]

theorem Ctx.Ok.int {C : Ctx} (ok : C.Ok) {t d k} (h : C.ty t = some d) (he : d.ik = some k) : C.P.underlying t = some (.int k) := by
  have h0 := ok.tys t d h
  unfold tyOk at h0
  cases hi : C.P.info? t with
  | none => simp [hi] at h0
  | some i =>
    cases hu : C.P.underlying t with
    | none => simp [hi, hu] at h0
    | some u =>
      simp only [hi, hu, Bool.and_eq_true] at h0
      obtain ⟨_, h5⟩ := h0
      cases u <;> simp [he] at h5
      rw [h5.1.1.2]

theorem Ctx.Ok.str {C : Ctx} (ok : C.Ok) {t d} (h : C.ty t = some d) (he : d.isStr = true) : C.P.underlying t = some .string := by
  have h0 := ok.tys t d h
  unfold tyOk at h0
  cases hi : C.P.info? t with
  | none => simp [hi] at h0
  | some i =>
    cases hu : C.P.underlying t with
    | none => simp [hi, hu] at h0
    | some u =>
      simp only [hi, hu, Bool.and_eq_true] at h0
      obtain ⟨_, h5⟩ := h0
      cases u <;> simp [he] at h5
      rfl

theorem run_sizeOf' {P : Program} {t i} (h : P.info? t = some i) (w : World) : (sizeOf t).run P w = .ok i.size w := by simp [sizeOf, typeInfo, h]

theorem constA_vr (ρ I w) (v : Value) : VR ρ I w (constA v) v := by
  unfold constA
  split
  · exact .bool _
  · exact .int _ _
  · exact .str _
  · exact .nil
  · exact .dead _

section
variable {N : Nat} {ρ : Names} {I : Imm} {w : World} {st : St} {a : Act}

theorem SRel.ev (r : SRel N ρ I w st a) (x : Operand) : VR ρ I w (st.ev x) (a.eval x) := by
  cases x with
  | tmp t => exact r.tm t
  | const v => exact constA_vr ..
  | global g => exact .dead _
  | func f => exact .fn f [] #[] rfl (fun i x u h => by simp at h)

theorem getD_set {α : Type} (xs : Array α) (d n : Nat) (v u : α) (hd : d < xs.size) : (xs.setIfInBounds d v).getD n u = if n = d then v else xs.getD n u := by
  by_cases h : n = d
  · subst h; simp [hd]
  · have : d ≠ n := fun e => h e.symm
    simp [h, Array.getElem?_setIfInBounds_ne this]

theorem SRel.put (r : SRel N ρ I w st a) {dst : Option Tmp} {av : AV} {v : Value} (hv : VR ρ I w av v) (hd : ∀ d, dst = some d → d < N) :
    SRel N ρ I w (st.put dst av) (a.put dst v) := by
  cases dst with
  | none => exact r
  | some d =>
    have hdN := hd d rfl
    refine ⟨by simp [Act.put, r.sz], r.df, fun n => ?_, r.hp, r.nm⟩
    show VR ρ I w (upd st.t d av n) ((a.tmps.setIfInBounds d v).getD n undef)
    rw [getD_set _ _ _ _ _ (by rw [r.sz]; exact hdN)]
    by_cases h : n = d
    · subst h; simp [hv]
    · rw [upd_ne _ _ _ _ h, if_neg h]; exact r.tm n
end

/-- What an operation leaves. -/
def After (N : Nat) (st : St) (ρ : Names) (I : Imm) (w : World) (id : Nat) (K : St → Prop) (a' : Act) (w' : World) : Prop :=
  ∃ st' ρ' I', K st' ∧ SRel N ρ' I' w' st' a' ∧ Ext st.h ρ I w st'.h ρ' I' w' ∧
    (∀ i B, ρ' i = some B → ρ i = some B ∨ i = id ∨ st.nx ≤ i) ∧ st.nx ≤ st'.nx

def dstOk (N : Nat) (o : Oper) : Prop := ∀ d, o.dst = some d → d < N

theorem step_pure {C : Ctx} {N ρ I w st a id K} {o : Oper} {Q : Exit → Act → World → Prop} (r : SRel N ρ I w st a) (hd : dstOk N o) {av : AV} {v : Value}
    (hr : (execOp a.eval o).run C.P w = .ok (.value v) w) (hv : VR ρ I w av v) (hK : K (st.put o.dst av)) : o.wp C.P a w (After N st ρ I w id K) Q := by
  unfold Oper.wp
  rw [hr]
  show After N st ρ I w id K (a.put o.dst v) w
  refine ⟨st.put o.dst av, ρ, I, hK, r.put hv hd, ?_, fun i B h => .inl h, ?_⟩
  · have : (st.put o.dst av).h = st.h := by cases o.dst <;> rfl
    rw [this]; exact Ext.refl
  · have : (st.put o.dst av).nx = st.nx := by cases o.dst <;> rfl
    rw [this]; exact Nat.le_refl _

end Go.AE
