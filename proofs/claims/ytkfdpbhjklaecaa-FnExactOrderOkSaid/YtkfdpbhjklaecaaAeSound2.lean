/- Abstract machine: soundness of the operations that only read. -/
import Derived.Test.YtkfdpbhjklaecaaAeHeap
namespace Go.AE
set_option linter.unusedVariables false
set_option linter.unusedSimpArgs false

section
variable {C : Ctx} {N : Nat} {ρ : Names} {I : Imm} {w : World} {st : St} {a : Act} {id : Nat} {K : St → Prop} {o : Oper} {Q : Exit → Act → World → Prop}

theorem run_v {a : Act} {w w' : World} {v : Value} {P : Program} {s : Sem Value} (h : s.run P w = .ok v w') :
    (do pure (Next.value (← s)) : Sem Next).run P w = .ok (.value v) w' := by simp [h]

theorem s_move (r : SRel N ρ I w st a) (hd : dstOk N o) (x : Operand) (ho : o.op = .move x ∨ o.op = .assign x) (h : K (st.put o.dst (st.ev x))) :
    o.wp C.P a w (After N st ρ I w id K) Q := by
  refine step_pure r hd ?_ (r.ev x) h
  rcases ho with ho | ho <;> simp [execOp, ho]

theorem VR.bool_inv {b v} (h : VR ρ I w (.bool b) v) : v = .bool b := by cases h; rfl
theorem VR.int_inv {k n v} (h : VR ρ I w (.int k n) v) : v = .int k n := by cases h; rfl
theorem VR.str_inv {s v} (h : VR ρ I w (.str s) v) : v = .string s := by cases h; rfl
theorem VR.nil_inv {v} (h : VR ρ I w .nil v) : v = .slice none 0 0 := by cases h; rfl

theorem s_pick (r : SRel N ρ I w st a) (hd : dstOk N o) (c x y : Operand) (ho : o.op = .pick c x y) {b : Bool} (hc : st.ev c = .bool b)
    (h : K (st.put o.dst (if b then st.ev x else st.ev y))) : o.wp C.P a w (After N st ρ I w id K) Q := by
  have h1 := r.ev c
  rw [hc] at h1
  refine step_pure (v := if b then a.eval x else a.eval y) r hd ?_ ?_ h
  · simp [execOp, ho, h1.bool_inv, asBool]
  · cases b
    · exact r.ev y
    · exact r.ev x

theorem s_nilCheck (r : SRel N ρ I w st a) (hd : dstOk N o) (x : Operand) (ho : o.op = .nilCheck x)
    (hx : match st.ev x with | .ptr .. | .ep .. | .vptr _ => True | _ => False) (h : K (st.put o.dst (st.ev x))) : o.wp C.P a w (After N st ρ I w id K) Q := by
  have h1 := r.ev x
  refine step_pure r hd ?_ h1 h
  simp only [execOp, ho]
  generalize a.eval x = u at h1 ⊢
  generalize st.ev x = v at h1 hx
  cases h1 <;> first | (simp at hx; done) | rfl

theorem binA_sound (ok : C.Ok) {op : BinOp} {x y v : AV} {xv yv : Value} {t : TypeId} (h : binA (C.eqA t x y) op x y = some v) (hx : VR ρ I w x xv) (hy : VR ρ I w y yv) (xo yo : Operand) :
    ∃ u, (do eqGuard op t xo yo xv yv; Go.binOp op t xv yv : Sem Value).run C.P w = .ok u w ∧ VR ρ I w v u := by
  unfold binA at h
  split at h
  · cases hx; cases hy
    split at h
    · rename_i k a k' b hk
      subst hk
      cases op
      case quo =>
        simp only [] at h
        split at h
        · cases h
        · rename_i hb
          cases h
          exact ⟨.int k (k.wrap (a.tdiv b)), by simp [eqGuard, Go.binOp, Op.intDiv, hb], .int _ _⟩
      case rem =>
        simp only [] at h
        split at h
        · cases h
        · rename_i hb
          cases h
          exact ⟨.int k (a.tmod b), by simp [eqGuard, Go.binOp, Op.intDiv, hb], .int _ _⟩
      all_goals
        first
          | (cases h; done)
          | (simp only [Option.some.injEq] at h; subst h
             refine ⟨_, by simp [eqGuard, Go.binOp, Op.intArith, Op.intCmp]; rfl, ?_⟩
             first | exact .int _ _ | exact .bool _)
    · cases h
  · cases hx; cases hy
    cases op <;> first
      | (cases h; done)
      | (simp only [Option.some.injEq] at h; subst h
         exact ⟨_, rfl, .bool _⟩)
  · cases op <;> simp only [Option.map_eq_some_iff] at h <;> first
      | (cases h; done)
      | (obtain ⟨b, hb, rfl⟩ := h
         first
           | exact ⟨_, (ok.eqs t x y b hb ρ I w xv yv hx hy xo yo w).1, .bool _⟩
           | exact ⟨_, (ok.eqs t x y b hb ρ I w xv yv hx hy xo yo w).2, .bool _⟩)

theorem s_binOp (ok : C.Ok) (r : SRel N ρ I w st a) (hd : dstOk N o) (op t x y ty) (ho : o.op = .binOp op t x y ty) {v : AV}
    (hv : binA (C.eqA t (st.ev x) (st.ev y)) op (st.ev x) (st.ev y) = some v) (h : K (st.put o.dst v)) : o.wp C.P a w (After N st ρ I w id K) Q := by
  obtain ⟨u, hu, hvr⟩ := binA_sound ok hv (r.ev x) (r.ev y) x y
  refine step_pure r hd ?_ hvr h
  simp only [execOp, ho]
  exact run_v (a := a) hu

theorem s_not (r : SRel N ρ I w st a) (hd : dstOk N o) (t x) (ho : o.op = .unOp .not t x) {b : Bool} (hx : st.ev x = .bool b) (h : K (st.put o.dst (.bool !b))) :
    o.wp C.P a w (After N st ρ I w id K) Q := by
  have h1 := r.ev x
  rw [hx] at h1
  refine step_pure (v := .bool !b) r hd ?_ (.bool _) h
  simp [execOp, ho, h1.bool_inv, Op.unary]

theorem s_neg (r : SRel N ρ I w st a) (hd : dstOk N o) (t x) (ho : o.op = .unOp .neg t x) {k : IntKind} {n : Int} (hx : st.ev x = .int k n) (h : K (st.put o.dst (.int k (k.wrap (0 - n))))) :
    o.wp C.P a w (After N st ρ I w id K) Q := by
  have h1 := r.ev x
  rw [hx] at h1
  refine step_pure (v := .int k (k.wrap (0 - n))) r hd ?_ (.int _ _) h
  simp [execOp, ho, h1.int_inv, Op.unary, Op.intArith]

theorem s_convert (ok : C.Ok) (r : SRel N ρ I w st a) (hd : dstOk N o) (s t x) (ho : o.op = .convert s t x) {k0 k : IntKind} {n : Int} {d : TyD} (hx : st.ev x = .int k0 n)
    (ht : C.ty t = some d) (hk : d.ik = some k) (hs : ∃ u, C.P.underlying s = some u) (h : K (st.put o.dst (.int k (k.wrap n)))) :
    o.wp C.P a w (After N st ρ I w id K) Q := by
  have h1 := r.ev x
  rw [hx] at h1
  obtain ⟨u, hu⟩ := hs
  refine step_pure (v := .int k (k.wrap n)) r hd ?_ (.int _ _) h
  have ht' := ok.int ht hk
  cases u <;> simp [execOp, ho, h1.int_inv, Go.convert, run_underlying hu, run_underlying ht', Conv.intToInt]

theorem s_makeFunc (r : SRel N ρ I w st a) (hd : dstOk N o) (f caps) (ho : o.op = .makeFunc (.func f) #[] caps) (h : K (st.put o.dst (.fn f (caps.toList.map st.ev)))) :
    o.wp C.P a w (After N st ρ I w id K) Q := by
  refine step_pure (v := .func (.func f) #[] (caps.map a.eval)) r hd ?_ ?_ h
  · simp [execOp, ho, Instr.makeFunc]
  · refine .fn _ _ _ (by simp) fun i x u hx hu => ?_
    simp only [List.getElem?_map, Array.getElem?_toList, Option.map_eq_some_iff, Array.getElem?_map] at hx hu
    obtain ⟨y, hy, rfl⟩ := hx
    obtain ⟨z, hz, rfl⟩ := hu
    rw [hy] at hz; cases hz
    exact r.ev y

theorem s_extract (r : SRel N ρ I w st a) (hd : dstOk N o) (x i) (ho : o.op = .extract x i) {vs : List AV} {v : AV} (hx : st.ev x = .tup vs) (hv : vs[i]? = some v) (h : K (st.put o.dst v)) :
    o.wp C.P a w (After N st ρ I w id K) Q := by
  have h1 := r.ev x
  rw [hx] at h1
  generalize hu : a.eval x = u at h1
  cases h1 with
  | tup cells us hs hc =>
    have hi : i < us.size := by rw [hs]; exact (List.getElem?_eq_some_iff.1 hv).1
    refine step_pure (v := us[i]) r hd ?_ (hc i v _ hv (Array.getElem?_eq_getElem hi)) h
    simp [execOp, ho, hu, Instr.extract, hi]

theorem s_len (ok : C.Ok) (r : SRel N ρ I w st a) (hd : dstOk N o) (x t) (ho : o.op = .call { callee := .builtin .len, args := #[x], argTypes := #[t] }) {d : TyD} {n : Nat} {b : Bool}
    (ht : C.ty t = some d) (hl : lenA (st.ev x) = some (n, b)) (hb : if b then d.elem.isSome = true else d.isStr = true) (h : (b = true → n ≤ LIM) → K (st.put o.dst (.int .i64 n))) :
    o.wp C.P a w (After N st ρ I w id K) Q := by
  have h1 := r.ev x
  have key : (b = true → n ≤ LIM) ∧ (execOp a.eval o).run C.P w = .ok (.value (.int .i64 n)) w := by
    generalize hu : a.eval x = u at h1
    generalize st.ev x = v at h1 hl
    have hrun : ∀ u, a.eval x = u → (Builtin.len_ #[t] o.type #[u]).run C.P w = .ok (.int .i64 n) w → (execOp a.eval o).run C.P w = .ok (.value (.int .i64 n)) w := by
      intro u hu hr
      simp [execOp, ho, resolve, invoke, builtin, hu, hr]
    cases b with
    | true =>
      simp at hb
      obtain ⟨e, he⟩ := Option.isSome_iff_exists.1 hb
      have hs := ok.slice ht he
      cases h1 <;> simp [lenA] at hl <;> subst hl
      case nil => exact ⟨fun _ => by simp [LIM], hrun _ hu (by simp [Builtin.len_, run_underlying hs, goInt])⟩
      case viewNil => exact ⟨fun _ => by simp [LIM], hrun _ hu (by simp [Builtin.len_, run_underlying hs, goInt])⟩
      case view => exact ⟨fun _ => by assumption, hrun _ hu (by simp [Builtin.len_, run_underlying hs, goInt])⟩
      case ref0 => exact ⟨fun _ => by simp [LIM], hrun _ hu (by simp [Builtin.len_, run_underlying hs, goInt])⟩
      case ref => exact ⟨fun _ => by assumption, hrun _ hu (by simp [Builtin.len_, run_underlying hs, goInt])⟩
    | false =>
      simp at hb
      have hs := ok.str ht hb
      cases h1 <;> simp [lenA] at hl <;> subst hl
      exact ⟨(fun h => by cases h), hrun _ hu (by simp [Builtin.len_, run_underlying hs, goInt])⟩
  exact step_pure r hd key.2 (.int _ _) (h key.1)

end
end Go.AE
