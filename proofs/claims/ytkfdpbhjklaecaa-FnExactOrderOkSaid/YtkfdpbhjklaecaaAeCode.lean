/- Abstract machine: runs of operations, code, whole functions. -/
import Derived.Test.YtkfdpbhjklaecaaAeSound9
namespace Go.AE
set_option linter.unusedVariables false
set_option linter.unusedSimpArgs false

section
variable {C : Ctx} {N : Nat} {ρ : Names} {I : Imm} {w : World} {st : St} {a : Act} {id : Nat} {K : St → Prop} {o : Oper} {Q : Exit → Act → World → Prop}

/-- Where a run has come to, seen from its beginning (h0 ρ0 I0 w0, names from n0 on). -/
structure Since (N : Nat) (n0 : Nat) (h0 : Heap) (ρ0 : Names) (I0 : Imm) (w0 : World) (st : St) (ρ : Names) (I : Imm) (w : World) (a : Act) : Prop where
  rel : SRel N ρ I w st a
  ext : Ext h0 ρ0 I0 w0 st.h ρ I w
  fresh : Fresh n0 ρ0 ρ
  nx : n0 ≤ st.nx

def Fin (N : Nat) (n0 : Nat) (h0 : Heap) (ρ0 : Names) (I0 : Imm) (w0 : World) (K : St → Prop) (a' : Act) (w' : World) : Prop :=
  ∃ st' ρ' I', K st' ∧ Since N n0 h0 ρ0 I0 w0 st' ρ' I' w' a'

theorem yielded_of (r : SRel N ρ I w st a) {ops : Array Oper} {j d : Nat} {b : Bool} (hg : gdOf ops j = some d) (ht : st.t d = .bool b) : yielded ops a.tmps j = some b := by
  have hv := r.tm d
  rw [ht] at hv
  have hb := hv.bool_inv
  unfold yielded
  unfold gdOf at hg
  rw [hg]
  have hd : d < a.tmps.size := by
    rcases Nat.lt_or_ge d a.tmps.size with h | h
    · exact h
    · simp [Array.getD, Nat.not_lt.2 h, undef] at hb
  simp [Array.getD, hd] at hb
  simp [hd, hb]

theorem yielded_none (r : SRel N ρ I w st a) {ops : Array Oper} {j d : Nat} (hg : gdOf ops j = some d) (ht : st.t d = .tup []) : yielded ops a.tmps j = none := by
  have hv := r.tm d
  rw [ht] at hv
  unfold yielded
  unfold gdOf at hg
  rw [hg]
  generalize hx : a.tmps.getD d undef = x at hv
  cases hv with
  | tup _ vs h1 h2 =>
    have : vs = #[] := Array.eq_empty_of_size_eq_zero (by simpa using h1)
    subst this
    by_cases hd : d < a.tmps.size
    · simp [Array.getD, hd] at hx
      simp [hd, hx]
    · simp [hd]

theorem runA_sound (ok : C.Ok) {ops : Array Oper} (hd : ∀ o ∈ ops.toList, dstOk N o) {n0 : Nat} {h0 ρ0 I0 w0} (hQ : ∀ a' w', Fin N n0 h0 ρ0 I0 w0 K a' w' → Q .normal a' w') :
    ∀ (os : List Oper) (i : Nat) (s : St) (ρ : Names) (I : Imm) (w : World) (a : Act), os = ops.toList.drop i → Since N n0 h0 ρ0 I0 w0 s ρ I w a →
      (∀ j, i ≤ j → j < ops.size → ρ (n0 + j) = none) → n0 + ops.size ≤ s.nx → runA C n0 (gdOf ops) i os s K → wpOps C.P ops Q (List.range' i os.length) a w := by
  intro os
  induction os with
  | nil =>
    intro i s ρ I w a _ S _ _ h
    simp only [List.length_nil, List.range'_zero, wpOps]
    exact hQ _ _ ⟨s, ρ, I, h, S⟩
  | cons o os ih =>
    intro i s ρ I w a hos S hfree hnx h
    have hoi : ops[i]? = some o := by
      have : (ops.toList.drop i)[0]? = some o := by rw [← hos]; rfl
      rw [List.getElem?_drop] at this
      simpa using this
    have hi : i < ops.size := (Array.getElem?_eq_some_iff.1 hoi).1
    have hos' : os = ops.toList.drop (i + 1) := by
      have : (ops.toList.drop i).tail = os := by rw [← hos]; rfl
      rw [← this, List.tail_drop]
    have hdo : dstOk N o := hd o (List.mem_of_getElem? (by simpa using hoi))
    simp only [List.length_cons, List.range'_succ, wpOps, hoi]
    have go : stepA C (n0 + i) o s (fun s' => runA C n0 (gdOf ops) (i + 1) os s' K) → o.wp C.P a w (wpOps C.P ops Q (List.range' (i + 1) os.length)) Q := by
      intro hstep
      refine Oper.wp_mono ?_ (step_sound ok S.rel hdo (hfree i (Nat.le_refl _) hi) (by omega) hstep)
      rintro a' w' ⟨st', ρ', I', hK, hrel, hext, hnm, hnx'⟩
      refine ih (i + 1) st' ρ' I' w' a' hos' ⟨hrel, S.ext.trans hext, fun id B hB => ?_, Nat.le_trans S.nx hnx'⟩ (fun j hj hjs => ?_) (by omega) hK
      · rcases hnm id B hB with h | h | h
        · exact S.fresh id B h
        · exact .inr (by omega)
        · exact .inr (by omega)
      · cases hρ : ρ' (n0 + j) with
        | none => rfl
        | some B =>
          rcases hnm _ B hρ with h | h | h
          · rw [hfree j (by omega) hjs] at h; cases h
          · omega
          · omega
    have skip : runA C n0 (gdOf ops) (i + 1) os (s.put o.dst (.tup [])) K → wpOps C.P ops Q (List.range' (i + 1) os.length) (a.put o.dst undef) w := by
      intro hr
      exact ih (i + 1) (s.put o.dst (.tup [])) ρ I w (a.put o.dst undef) hos' ⟨S.rel.put (.tup [] #[] rfl (fun i x u hx => by simp at hx)) hdo, by rw [put_h]; exact S.ext, S.fresh, by rw [put_nx]; exact S.nx⟩ (fun j hj hjs => hfree j (by omega) hjs) (by rw [put_nx]; exact hnx) hr
    unfold runA at h
    cases hg : o.guard with
    | none =>
      rw [hg] at h
      simp only [Region.wanted, hg, if_true]
      exact .inl (go h)
    | some p =>
      obtain ⟨j, want⟩ := p
      rw [hg] at h
      obtain ⟨d, hgd, h⟩ := h
      cases htd : s.t d with
      | bool b =>
        rw [htd] at h
        obtain ⟨h1, h2⟩ := h
        have hy := yielded_of S.rel hgd htd
        simp only [Region.wanted, hg, hy]
        by_cases hb : b = want
        · subst hb
          simp only [beq_self_eq_true, if_true]
          exact .inl (go (h1 rfl))
        · have : (some b == some want) = false := by simpa using hb
          simp only [this, Bool.false_eq_true, if_false]
          exact skip (h2 hb)
      | tup cs =>
        rw [htd] at h
        cases cs with
        | nil =>
          have hy := yielded_none S.rel hgd htd
          simp only [Region.wanted, hg, hy]
          have : ((none : Option Bool) == some want) = false := rfl
          simp only [this, Bool.false_eq_true, if_false]
          exact skip h
        | cons => exact h.elim
      | _ => rw [htd] at h; exact h.elim

def exitIs : AX → Exit → Prop
  | .normal, .normal => True
  | .exit i, .exit j => i = j
  | .ret, .ret => True
  | _, _ => False

def FinC (N : Nat) (n0 : Nat) (h0 : Heap) (ρ0 : Names) (I0 : Imm) (w0 : World) (K : AX → St → Prop) (e : Exit) (a' : Act) (w' : World) : Prop :=
  ∃ ax st' ρ' I', exitIs ax e ∧ K ax st' ∧ Since N n0 h0 ρ0 I0 w0 st' ρ' I' w' a'

/-- Every destination lies in the frame; no region draws its order (for now). -/
def codeOk (N : Nat) : Code → Bool
  | .region _ ops draw => ops.toList.all (fun o => match o.dst with | some d => d < N | none => true) && !draw
  | .seq a b => codeOk N a && codeOk N b
  | .cond _ a b => codeOk N a && codeOk N b
  | .block _ c => codeOk N c
  | .loop c => codeOk N c
  | _ => true

theorem dstOk_of {N : Nat} {ops : Array Oper} (h : (ops.toList.all fun o => match o.dst with | some d => decide (d < N) | none => true) = true) : ∀ o ∈ ops.toList, dstOk N o := by
  intro o ho d hd
  rw [List.all_eq_true] at h
  have := h o ho
  rw [hd] at this
  simpa using this

theorem FinC.of_since {n0 n1 h0 ρ0 I0 w0} {K : AX → St → Prop} {s ρ1 I1 w1 a1} (S : Since N n0 h0 ρ0 I0 w0 s ρ1 I1 w1 a1) (hn : n1 = s.nx) {e a' w'} (h : FinC N n1 s.h ρ1 I1 w1 K e a' w') : FinC N n0 h0 ρ0 I0 w0 K e a' w' := by
  obtain ⟨ax, st', ρ', I', h1, h2, h3⟩ := h
  subst hn
  refine ⟨ax, st', ρ', I', h1, h2, h3.rel, S.ext.trans h3.ext, fun id B hB => ?_, Nat.le_trans S.nx h3.nx⟩
  rcases h3.fresh id B hB with h | h
  · exact S.fresh id B h
  · exact .inr (Nat.le_trans S.nx h)

theorem Since.refl (r : SRel N ρ I w st a) : Since N st.nx st.h ρ I w st ρ I w a := ⟨r, Ext.refl, fun id B h => .inl h, Nat.le_refl _⟩

theorem wpA_sound (ok : C.Ok) : ∀ (c : Code) (K : AX → St → Prop) (st : St) (ρ : Names) (I : Imm) (w : World) (a : Act), codeOk N c = true → WpA C c K st → SRel N ρ I w st a →
    c.wp C.P (FinC N st.nx st.h ρ I w K) a w := by
  intro c
  induction c with
  | skip => intro K st ρ I w a _ h r; exact wp_skip ⟨.normal, st, ρ, I, trivial, h, Since.refl r⟩
  | label l => intro K st ρ I w a _ h r; exact wp_label ⟨.normal, st, ρ, I, trivial, h, Since.refl r⟩
  | exit id => intro K st ρ I w a _ h r; exact wp_exit ⟨.exit id, st, ρ, I, rfl, h, Since.refl r⟩
  | ret => intro K st ρ I w a _ h r; exact wp_ret ⟨.ret, st, ρ, I, trivial, h, Since.refl r⟩
  | region id ops draw =>
    intro K st ρ I w a hc h r
    simp only [codeOk, Bool.and_eq_true] at hc
    obtain ⟨hd, hdraw⟩ := hc
    have hdr : draw = false := by simpa using hdraw
    subst hdr
    refine wp_region ?_
    have := runA_sound (Q := FinC N st.nx st.h ρ I w K) (K := fun s => K .normal s) ok (dstOk_of hd) (n0 := st.nx) (h0 := st.h) (ρ0 := ρ) (I0 := I) (w0 := w)
      (fun a' w' ⟨st', ρ', I', hK, S⟩ => ⟨.normal, st', ρ', I', trivial, hK, S⟩) ops.toList 0 { st with nx := st.nx + ops.size } ρ I w a (by simp)
      ⟨⟨r.sz, r.df, r.tm, r.hp, fun i B h => by have := r.nm i B h; show i < st.nx + ops.size; omega⟩, Ext.refl, fun id B h => .inl h, Nat.le_add_right _ _⟩
      (fun j _ _ => by
        cases hρ : ρ (st.nx + j) with
        | none => rfl
        | some B => have := r.nm _ B hρ; omega) (Nat.le_refl _) h
    rw [List.range_eq_range']
    simpa using this
  | seq x y ihx ihy =>
    intro K st ρ I w a hc h r
    simp only [codeOk, Bool.and_eq_true] at hc
    refine wp_seq (wp_mono (ihx _ st ρ I w a hc.1 h r) ?_)
    rintro e a' w' ⟨ax, st', ρ', I', hx, hK, S⟩
    cases ax with
    | normal =>
      cases e <;> simp only [exitIs] at hx <;> try exact hx.elim
      exact wp_mono (ihy K st' ρ' I' w' a' hc.2 hK S.rel) fun e a w hf => FinC.of_since S rfl hf
    | exit i => cases e <;> simp only [exitIs] at hx <;> try exact hx.elim
                exact ⟨.exit i, st', ρ', I', hx, hK, S⟩
    | ret => cases e <;> simp only [exitIs] at hx <;> try exact hx.elim
             exact ⟨.ret, st', ρ', I', hx, hK, S⟩
  | cond c x y ihx ihy =>
    intro K st ρ I w a hc h r
    simp only [codeOk, Bool.and_eq_true] at hc
    obtain ⟨b, hb, h1, h2⟩ := h
    have hv := r.ev c
    rw [hb] at hv
    refine wp_cond hv.bool_inv ?_
    cases b
    · exact ihy K st ρ I w a hc.2 (h2 rfl) r
    · exact ihx K st ρ I w a hc.1 (h1 rfl) r
  | block id c ih =>
    intro K st ρ I w a hc h r
    refine wp_block (wp_mono (ih _ st ρ I w a hc h r) ?_)
    rintro e a' w' ⟨ax, st', ρ', I', hx, hK, S⟩
    cases ax with
    | normal => cases e <;> simp only [exitIs] at hx <;> try exact hx.elim
                exact ⟨.normal, st', ρ', I', trivial, hK, S⟩
    | exit i =>
      cases e <;> simp only [exitIs] at hx <;> try exact hx.elim
      subst hx
      simp only [AX.inBlock] at hK
      simp only [Exit.inBlock]
      by_cases hi : i = id
      · rw [if_pos hi] at hK ⊢; exact ⟨.normal, st', ρ', I', trivial, hK, S⟩
      · rw [if_neg hi] at hK ⊢; exact ⟨.exit i, st', ρ', I', rfl, hK, S⟩
    | ret => cases e <;> simp only [exitIs] at hx <;> try exact hx.elim
             exact ⟨.ret, st', ρ', I', trivial, hK, S⟩
  | loop c ih =>
    intro K st ρ I w a hc h r
    obtain ⟨Inv, μ, h0, hround⟩ := h
    simp only [codeOk] at hc
    intro b k cs
    have key : ∀ n (s : St) ρ1 I1 w1 a1, μ s = n → Inv s → Since N st.nx st.h ρ I w s ρ1 I1 w1 a1 →
        ∃ e a' w', FinC N st.nx st.h ρ I w K e a' w' ∧ Arrives C.P (lone (b.at a1 (.code c :: .inLoop c :: k)) cs w1) b k cs e a' w' := by
      intro n
      induction n using Nat.strongRecOn with
      | _ n ihn =>
        intro s ρ1 I1 w1 a1 hn hI S
        obtain ⟨e, a2, w2, ⟨ax, st2, ρ2, I2, hx, hK, S2⟩, harr⟩ := ih _ s ρ1 I1 w1 a1 hc (hround s hI) S.rel b (.inLoop c :: k) cs
        have S3 : Since N st.nx st.h ρ I w st2 ρ2 I2 w2 a2 := ⟨S2.rel, S.ext.trans S2.ext, fun id B hB => by
          rcases S2.fresh id B hB with h | h
          · exact S.fresh id B h
          · exact .inr (Nat.le_trans S.nx h), Nat.le_trans S.nx S2.nx⟩
        cases ax with
        | normal =>
          cases e <;> simp only [exitIs] at hx <;> try exact hx.elim
          obtain ⟨hI2, hlt⟩ := hK
          obtain ⟨e3, a3, w3, hf, harr3⟩ := ihn (μ st2) (hn ▸ hlt) st2 ρ2 I2 w2 a2 rfl hI2 S3
          exact ⟨e3, a3, w3, hf, .of_steps (Steps.trans harr (.one step_inLoop)) harr3⟩
        | exit i =>
          cases e <;> simp only [exitIs] at hx <;> try exact hx.elim
          subst hx
          exact ⟨.exit i, a2, w2, ⟨.exit i, st2, ρ2, I2, rfl, hK, S3⟩, .pass (x := .inLoop c) rfl (fun _ _ => .inl (by simp)) harr⟩
        | ret =>
          cases e <;> simp only [exitIs] at hx <;> try exact hx.elim
          exact ⟨.ret, a2, w2, ⟨.ret, st2, ρ2, I2, trivial, hK, S3⟩, .pass (x := .inLoop c) rfl (fun _ _ => .inl (by simp)) harr⟩
    obtain ⟨e, a', w', hq, harr⟩ := key _ st ρ I w a rfl h0 (Since.refl r)
    exact ⟨e, a', w', hq, .of_steps (.one step_loop) harr⟩
  | _ => intro K st ρ I w a _ h r; exact h.elim

end
end Go.AE
