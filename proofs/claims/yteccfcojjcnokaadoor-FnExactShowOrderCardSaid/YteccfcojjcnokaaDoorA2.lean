/- An abstract machine over the model: its states, its steps, and that what it shows holds of the model. -/
import Derived.Test.YteccfcojjcnokaaDoorA1
import Derived.Orders
import Derived.IntWalk
import Derived.KernelRfl
import Derived.ChangeShapes
import Derived.Deep.Slices
import Derived.DataReads
import Derived.Below
import Derived.WideShapes
set_option linter.unusedVariables false
set_option linter.unusedSimpArgs false
set_option linter.deprecated false
section
/- Abstract machine: calls; every operation; a run of operations; code. -/
namespace Go.AE

section
variable {C : Ctx} {N : Nat} {ρ : Names} {I : Imm} {w : World} {st : St} {a : Act} {id : Nat} {K : St → Prop} {o : Oper} {Q : Exit → Act → World → Prop}

theorem s_call (r : SRel N ρ I w st a) (hd : dstOk N o) (f args ats) (ho : o.op = .call { callee := .value f, args := args, argTypes := ats }) {g : FuncId} {caps : List AV} (hf : st.ev f = .fn g caps)
    (h : ACall C.P g (args.toList.map st.ev ++ caps) st.h st.nx fun r h' nx' => K (({ st with h := h', nx := nx' } : St).put o.dst r)) : o.wp C.P a w (After N st ρ I w id K) Q := by
  have hv := r.ev f
  rw [hf] at hv
  generalize hfe : a.eval f = fv at hv
  cases hv with
  | fn _ _ vs hsz hc =>
    obtain ⟨⟨fn, e1, e2, e3⟩, hcall⟩ := h
    have hrun : (execOp a.eval o).run C.P w = .ok (.enter g (args.map a.eval ++ vs)) w := by
      have e2' : ¬ fn.name = "runtime.NumGoroutine" := by simpa using e2
      have e3' : ¬ fn.body = none := by intro h; simp [h] at e3
      simp [execOp, ho, resolve, hfe, Deferred.ofValue, invoke, callFunc, e1, e2', e3']
    unfold Oper.wp
    rw [hrun]
    refine (hcall ρ I w (args.map a.eval ++ vs) r.nm r.hp ⟨by simp [hsz], fun i x u hx hu => ?_⟩).mono ?_
    · by_cases hi : i < args.size
      · rw [List.getElem?_append_left (by simpa using hi)] at hx
        rw [Array.getElem?_append_left (by simpa using hi)] at hu
        simp only [List.getElem?_map, Array.getElem?_toList, Option.map_eq_some_iff, Array.getElem?_map] at hx hu
        obtain ⟨y, hy, rfl⟩ := hx
        obtain ⟨z, hz, rfl⟩ := hu
        rw [hy] at hz; cases hz
        exact r.ev y
      · rw [List.getElem?_append_right (by simp; omega)] at hx
        rw [Array.getElem?_append_right (by simp; omega)] at hu
        exact hc _ x u (by simpa using hx) (by simpa using hu)
    · rintro e w' ⟨v, rv, h', nx', ρ', I', rfl, hK, hvr, H', E, hfr, hnx, hnm⟩
      show After N st ρ I w id K (a.put o.dst v) w'
      refine ⟨_, ρ', I', hK, SRel.put (st := { st with h := h', nx := nx' }) ⟨r.sz, r.df, fun n => E.vr r.hp (r.tm n), H', hnm⟩ hvr hd, by rw [put_h]; exact E, fun i B h => ?_, by simpa using hnx⟩
      rcases hfr i B h with h | h
      · exact .inl h
      · exact .inr (.inr h)

theorem s_callB (r : SRel N ρ I w st a) (hd : dstOk N o) (f args ats) (ho : o.op = .call { callee := .value f, args := args, argTypes := ats }) {g : FuncId} {firsts : List AV} (hf : st.ev f = .bnd g firsts)
    (h : ACall C.P g (firsts ++ args.toList.map st.ev) st.h st.nx fun r h' nx' => K (({ st with h := h', nx := nx' } : St).put o.dst r)) : o.wp C.P a w (After N st ρ I w id K) Q := by
  have hv := r.ev f
  rw [hf] at hv
  generalize hfe : a.eval f = fv at hv
  cases hv with
  | bnd _ _ vs hsz hc =>
    obtain ⟨⟨fn, e1, e2, e3⟩, hcall⟩ := h
    have hrun : (execOp a.eval o).run C.P w = .ok (.enter g (vs ++ args.map a.eval)) w := by
      have e2' : ¬ fn.name = "runtime.NumGoroutine" := by simpa using e2
      have e3' : ¬ fn.body = none := by intro h; simp [h] at e3
      simp [execOp, ho, resolve, hfe, Deferred.ofValue, invoke, callFunc, e1, e2', e3']
    unfold Oper.wp
    rw [hrun]
    refine (hcall ρ I w (vs ++ args.map a.eval) r.nm r.hp ⟨by simp [hsz], fun i x u hx hu => ?_⟩).mono ?_
    · by_cases hi : i < vs.size
      · rw [List.getElem?_append_left (by omega)] at hx
        rw [Array.getElem?_append_left (by simpa using hi)] at hu
        exact hc _ x u hx hu
      · rw [List.getElem?_append_right (by omega)] at hx
        rw [Array.getElem?_append_right (by omega)] at hu
        rw [← hsz] at hx
        simp only [List.getElem?_map, Array.getElem?_toList, Option.map_eq_some_iff, Array.getElem?_map] at hx hu
        obtain ⟨y, hy, rfl⟩ := hx
        obtain ⟨z, hz, rfl⟩ := hu
        rw [hy] at hz; cases hz
        exact r.ev y
    · rintro e w' ⟨v, rv, h', nx', ρ', I', rfl, hK, hvr, H', E, hfr, hnx, hnm⟩
      show After N st ρ I w id K (a.put o.dst v) w'
      refine ⟨_, ρ', I', hK, SRel.put (st := { st with h := h', nx := nx' }) ⟨r.sz, r.df, fun n => E.vr r.hp (r.tm n), H', hnm⟩ hvr hd, by rw [put_h]; exact E, fun i B h => ?_, by simpa using hnx⟩
      rcases hfr i B h with h | h
      · exact .inl h
      · exact .inr (.inr h)

theorem arr1 {α : Type} {xs : Array α} {x : α} (h : xs.toList = [x]) : xs = #[x] := by cases xs; simp_all
theorem arr2 {α : Type} {xs : Array α} {x y : α} (h : xs.toList = [x, y]) : xs = #[x, y] := by cases xs; simp_all

theorem step_sound (ok : C.Ok) (r : SRel N ρ I w st a) (hd : dstOk N o) (hn : ρ id = none) (hid : id < st.nx) (h : stepA C id o st K) : o.wp C.P a w (After N st ρ I w id K) Q := by
  unfold stepA at h
  split at h
  case h_1 x ho => exact s_move r hd x (.inl ho) h
  case h_2 x ho => exact s_move r hd x (.inr ho) h
  case h_3 c x y ho => obtain ⟨b, hc, hK⟩ := h; exact s_pick r hd c x y ho hc hK
  case h_4 e ho => obtain ⟨d, he, hK⟩ := h; exact s_alloc ok r hd hn hid e ho he hK
  case h_5 e x ho => exact s_box r hd hn hid e x ho h.1 h.2
  case h_6 t parts ho =>
    obtain ⟨d, cs, ht, ha, hk, hf, hK⟩ := h
    exact s_build ok r hd t parts ho ht ha (fun p hp => by rw [List.all_eq_true] at hk; exact hk p hp) hf hK
  case h_7 t len parts ho =>
    obtain ⟨d, e, de, xs, h', ht, he, hde, hpos, hlen, hz, hrow, hK⟩ := h
    exact s_buildSlice ok r hd hn hid t len parts ho ht he hde hpos hlen hrow hK
  case h_8 t x ho =>
    split at h
    · rename_i p off hx
      obtain ⟨d, cells, v, ht, hp, hl, hK⟩ := h
      exact s_load_ptr ok r hd t x ho hx ht hp hl hK
    · rename_i p idx off hx
      obtain ⟨d, sz, xs, ht, hp, hlt, hK⟩ := h
      exact s_load_ep ok r hd t x ho hx ht hp hlt hK
    · rename_i cells hx
      obtain ⟨d, v, ht, hl, hK⟩ := h
      exact s_load_vptr ok r hd t x ho hx ht hl hK
    · exact h.elim
  case h_9 t p x ho =>
    obtain ⟨hone, h⟩ := h
    split at h
    · rename_i q off hp
      obtain ⟨d, cells, ht, hq, hl, hle, hK⟩ := h
      exact s_store_ptr ok r hd t p x ho hone hp ht hq hl hle hK
    · rename_i q idx off hp
      obtain ⟨d, sz, xs, vs, h', ht, hf, hq, hl, hle, hlt, hK⟩ := h
      exact s_store_ep ok r hd t p x ho hone hp ht hf hq hl hle hlt hK
    · exact h.elim
  case h_10 x ho => exact s_nilCheck r hd x ho h.1 h.2
  case h_11 op t x y ty ho =>
    split at h
    · rename_i v hv; exact s_binOp ok r hd op t x y ty ho hv h
    · obtain ⟨⟨d, ht, he⟩, h⟩ := h
      exact s_nilCmp ok r hd op t x y ty ho ht he h
  case h_12 op t x ho =>
    split at h
    · rename_i b hx; exact s_not r hd t x ho hx h
    · rename_i k n hx; exact s_neg r hd t x ho hx h
    · exact h.elim
  case h_13 src dst x ho =>
    split at h
    · rename_i k0 n hx
      obtain ⟨ds, d, k, hs, ht, hk, hK⟩ := h
      obtain ⟨i, u, z, F⟩ := ok.facts hs
      exact s_convert ok r hd src dst x ho hx ht hk ⟨u, F.und⟩ hK
    · exact h.elim
  case h_14 fn first captured ho =>
    split at h
    · rename_i f
      split at h
      · rename_i hem
        obtain rfl : first = #[] := by simpa using hem
        exact s_makeFunc r hd f captured ho h
      · obtain ⟨rfl, hK⟩ := h
        exact s_makeBnd r hd f first ho hK
    · exact h.elim
  case h_15 t l c ho =>
    split at h
    · rename_i k n k' m hl hc
      obtain ⟨d, e, de, ht, he, hde, hpos, hby, rfl, h0, hlim, hK⟩ := h
      exact s_makeSlice ok r hd hn hid t l c ho ht he hde hpos hby hl hc h0 hlim hK
    · exact h.elim
  case h_16 t x lo hi mx ho =>
    rcases h with ⟨rfl, h⟩ | ⟨rfl, h⟩ | ⟨m, rfl, h⟩
    · exact s_sliceA ok r hd t x lo hi ho h
    · exact s_sliceFar ok r hd t x lo hi ho h
    · exact s_sliceMax ok r hd t x lo hi m ho h
  case h_17 s x f ho =>
    obtain ⟨d, off, sz, ft, hs, ha, hf, hsz, hK⟩ := h
    exact s_fieldAddr ok r hd s x f ho hs ha hf hsz hK
  case h_18 t x f ho =>
    obtain ⟨d, off, sz, ft, dt, v, ht, ha, hf, hft, hK⟩ := h
    split at hK
    · rename_i cells hx
      exact s_field ok r hd t x f ho ht ha hf hft hx hK.1 hK.2
    · exact hK.elim
  case h_19 t x i ho =>
    obtain ⟨d, e, de, k, z, ht, he, hde, hi, hK⟩ := h
    exact s_indexAddr ok r hd t x i ho ht he hde hi hK
  case h_20 t x i ho =>
    split at h
    · rename_i s k z hx hi
      obtain ⟨⟨d, ht, hs⟩, ⟨h0, h1⟩, hK⟩ := h
      exact s_index r hd t x i ho (ok.str ht hs) hx hi h0 h1 hK
    · exact h.elim
  case h_21 x i ho =>
    split at h
    · rename_i vs hx
      obtain ⟨v, hv, hK⟩ := h
      exact s_extract r hd x i ho hx hv hK
    · exact h.elim
  case h_22 c ho =>
    obtain ⟨callee, args, ats⟩ := c
    split at h
    · rename_i f hc
      subst hc
      split at h
      · rename_i g caps hf
        exact s_call r hd f args ats ho hf h
      · rename_i g fs hf
        exact s_callB r hd f args ats ho hf h
      · exact h.elim
    · rename_i hc
      subst hc
      split at h
      · rename_i x t hx ht
        obtain ⟨d, n, b, htd, hl, hb, hK⟩ := h
        have e1 := arr1 hx
        have e2 := arr1 ht
        simp only at e1 e2
        subst e1; subst e2
        exact s_len ok r hd x t ho htd hl hb hK
      · exact h.elim
    · rename_i hc
      subst hc
      split at h
      · rename_i x t hx ht
        obtain ⟨d, e, de, htd, he, hde, h⟩ := h
        have e1 := arr1 hx
        have e2 := arr1 ht
        simp only at e1 e2
        subst e1; subst e2
        split at h
        · rename_i r0 s off len hxv
          obtain ⟨ws, hrow, hs, hend, hone, hK⟩ := h
          exact s_clear ok r hd x t ho htd he hde hxv hrow hs hend hone hK
        · exact h.elim
      · exact h.elim
    · rename_i hc
      subst hc
      split at h
      · rename_i x t hx ht
        obtain ⟨d, e, htd, he, hxv, hK⟩ := h
        have e1 := arr1 hx
        have e2 := arr1 ht
        simp only at e1 e2
        subst e1; subst e2
        exact s_cap ok r hd x t ho htd he hxv hK
      · exact h.elim
    · rename_i hc
      subst hc
      split at h
      · rename_i s x t t' hx ht
        have e1 := arr2 hx
        have e2 := arr2 ht
        simp only at e1 e2
        subst e1; subst e2
        split at h
        · rename_i htt
          subst htt
          exact s_append ok r hd hn hid s x _ ho h
        · exact s_appZ ok r hd hn hid s x _ _ ho h
      · exact h.elim
    · rename_i hc
      subst hc
      split at h
      · rename_i x y hx
        have e1 := arr2 hx
        simp only at e1
        subst e1
        split at h
        · rename_i k m k' n hxv hyv
          exact s_min r hd x y ats ho hxv hyv h
        · exact h.elim
      · exact h.elim
    · exact h.elim
  case h_23 => exact h.elim

end
end Go.AE
end

section
/- Abstract machine: runs of operations, code, whole functions. -/
namespace Go.AE

section
variable {C : Ctx} {N : Nat} {ρ : Names} {I : Imm} {w : World} {st : St} {a : Act} {id : Nat} {K : St → Prop} {o : Oper} {Q : Exit → Act → World → Prop}

structure Since (N : Nat) (n0 : Nat) (h0 : Heap) (ρ0 : Names) (I0 : Imm) (w0 : World) (st : St) (ρ : Names) (I : Imm) (w : World) (a : Act) : Prop where
  rel : SRel N ρ I w st a
  ext : Ext h0 ρ0 I0 w0 st.h ρ I w
  fresh : Fresh n0 ρ0 ρ
  nx : n0 ≤ st.nx

def Fin (N : Nat) (n0 : Nat) (h0 : Heap) (ρ0 : Names) (I0 : Imm) (w0 : World) (K : St → Prop) (a' : Act) (w' : World) : Prop :=
  ∃ st' ρ' I', K st' ∧ Since N n0 h0 ρ0 I0 w0 st' ρ' I' w' a'

theorem yielded_of (r : SRel N ρ I w st a) {ops : Array Oper} {j d : Nat} {b : Bool} (hg : gdOf ops j = some d) (ht : st.t d = .bool b) : yielded ops a.tmps j = some b := by
  have hv := r.tm d
  rw [ht] at hv
  have hb := hv.bool_inv
  unfold yielded
  unfold gdOf at hg
  rw [hg]
  have hd : d < a.tmps.size := by
    rcases Nat.lt_or_ge d a.tmps.size with h | h
    · exact h
    · simp [Array.getD, Nat.not_lt.2 h, undef] at hb
  simp [Array.getD, hd] at hb
  simp [hd, hb]

theorem yielded_none (r : SRel N ρ I w st a) {ops : Array Oper} {j d : Nat} (hg : gdOf ops j = some d) (ht : st.t d = .tup []) : yielded ops a.tmps j = none := by
  have hv := r.tm d
  rw [ht] at hv
  unfold yielded
  unfold gdOf at hg
  rw [hg]
  generalize hx : a.tmps.getD d undef = x at hv
  cases hv with
  | tup _ vs h1 h2 =>
    have : vs = #[] := Array.eq_empty_of_size_eq_zero (by simpa using h1)
    subst this
    by_cases hd : d < a.tmps.size
    · simp [Array.getD, hd] at hx
      simp [hd, hx]
    · simp [hd]

theorem runA_sound (ok : C.Ok) {ops : Array Oper} (hd : ∀ o ∈ ops.toList, dstOk N o) {n0 : Nat} {h0 ρ0 I0 w0} (hQ : ∀ a' w', Fin N n0 h0 ρ0 I0 w0 K a' w' → Q .normal a' w') :
    ∀ (os : List Oper) (i : Nat) (s : St) (ρ : Names) (I : Imm) (w : World) (a : Act), os = ops.toList.drop i → Since N n0 h0 ρ0 I0 w0 s ρ I w a →
      (∀ j, i ≤ j → j < ops.size → ρ (n0 + j) = none) → n0 + ops.size ≤ s.nx → runA C n0 (gdOf ops) i os s K → wpOps C.P ops Q (List.range' i os.length) a w := by
  intro os
  induction os with
  | nil =>
    intro i s ρ I w a _ S _ _ h
    simp only [List.length_nil, List.range'_zero, wpOps]
    exact hQ _ _ ⟨s, ρ, I, h, S⟩
  | cons o os ih =>
    intro i s ρ I w a hos S hfree hnx h
    have hoi : ops[i]? = some o := by
      have : (ops.toList.drop i)[0]? = some o := by rw [← hos]; rfl
      rw [List.getElem?_drop] at this
      simpa using this
    have hi : i < ops.size := (Array.getElem?_eq_some_iff.1 hoi).1
    have hos' : os = ops.toList.drop (i + 1) := by
      have : (ops.toList.drop i).tail = os := by rw [← hos]; rfl
      rw [← this, List.tail_drop]
    have hdo : dstOk N o := hd o (List.mem_of_getElem? (by simpa using hoi))
    simp only [List.length_cons, List.range'_succ, wpOps, hoi]
    have go : stepA C (n0 + i) o s (fun s' => runA C n0 (gdOf ops) (i + 1) os s' K) → o.wp C.P a w (wpOps C.P ops Q (List.range' (i + 1) os.length)) Q := by
      intro hstep
      refine Oper.wp_mono ?_ (step_sound ok S.rel hdo (hfree i (Nat.le_refl _) hi) (by omega) hstep)
      rintro a' w' ⟨st', ρ', I', hK, hrel, hext, hnm, hnx'⟩
      refine ih (i + 1) st' ρ' I' w' a' hos' ⟨hrel, S.ext.trans hext, fun id B hB => ?_, Nat.le_trans S.nx hnx'⟩ (fun j hj hjs => ?_) (by omega) hK
      · rcases hnm id B hB with h | h | h
        · exact S.fresh id B h
        · exact .inr (by omega)
        · exact .inr (by omega)
      · cases hρ : ρ' (n0 + j) with
        | none => rfl
        | some B =>
          rcases hnm _ B hρ with h | h | h
          · rw [hfree j (by omega) hjs] at h; cases h
          · omega
          · omega
    have skip : runA C n0 (gdOf ops) (i + 1) os (s.put o.dst (.tup [])) K → wpOps C.P ops Q (List.range' (i + 1) os.length) (a.put o.dst undef) w := by
      intro hr
      exact ih (i + 1) (s.put o.dst (.tup [])) ρ I w (a.put o.dst undef) hos' ⟨S.rel.put (.tup [] #[] rfl (fun i x u hx => by simp at hx)) hdo, by rw [put_h]; exact S.ext, S.fresh, by rw [put_nx]; exact S.nx⟩ (fun j hj hjs => hfree j (by omega) hjs) (by rw [put_nx]; exact hnx) hr
    unfold runA at h
    cases hg : o.guard with
    | none =>
      rw [hg] at h
      simp only [Region.wanted, hg, if_true]
      exact .inl (go h)
    | some p =>
      obtain ⟨j, want⟩ := p
      rw [hg] at h
      obtain ⟨d, hgd, h⟩ := h
      cases htd : s.t d with
      | bool b =>
        rw [htd] at h
        obtain ⟨h1, h2⟩ := h
        have hy := yielded_of S.rel hgd htd
        simp only [Region.wanted, hg, hy]
        by_cases hb : b = want
        · subst hb
          simp only [beq_self_eq_true, if_true]
          exact .inl (go (h1 rfl))
        · have : (some b == some want) = false := by simpa using hb
          simp only [this, Bool.false_eq_true, if_false]
          exact skip (h2 hb)
      | tup cs =>
        rw [htd] at h
        cases cs with
        | nil =>
          have hy := yielded_none S.rel hgd htd
          simp only [Region.wanted, hg, hy]
          have : ((none : Option Bool) == some want) = false := rfl
          simp only [this, Bool.false_eq_true, if_false]
          exact skip h
        | cons => exact h.elim
      | _ => rw [htd] at h; exact h.elim

end
end Go.AE
end

section
/- Abstract machine: every order of a drawn region is as the canonical one. -/
namespace Go.AE
section
variable {C : Ctx} {N : Nat} {ρ : Names} {I : Imm} {w : World} {st : St} {a : Act} {K : St → Prop} {o : Oper} {Q : Exit → Act → World → Prop} {n0 : Nat} {gd : Nat → Option Tmp}

theorem frz_free {cs r : List AV} {h0 h' : Heap} (hf : frz (fun _ => none) cs = some (r, h')) : h' = (fun _ => none) ∧ frz h0 cs = some (r, h0) := by
  induction cs generalizing r h' with
  | nil => rw [frz] at hf; cases hf; exact ⟨rfl, by rw [frz]⟩
  | cons c cs ih =>
    have key : (match frz (fun _ => none) cs with | some (r, h') => some (c :: r, h') | none => none) = some (r, h') → (h' = fun _ => none) ∧ (match frz h0 cs with | some (r, h') => some (c :: r, h') | none => none) = some (r, h0) := by
      intro h
      cases hz : frz (fun _ => none) cs with
      | none => rw [hz] at h; cases h
      | some q =>
        obtain ⟨r1, h1⟩ := q
        rw [hz] at h
        simp only [Option.some.injEq, Prod.mk.injEq] at h
        obtain ⟨rfl, rfl⟩ := h
        obtain ⟨g1, g2⟩ := ih hz
        exact ⟨g1, by rw [g2]⟩
    unfold frz at hf ⊢
    cases c <;> first | exact key hf | (simp at hf; done)

theorem rowA_free {n : Nat} : ∀ (ps : List (Nat × AV)) (xs ys : List (List AV)) (h0 h' : Heap), rowA n (fun _ => none) ps xs = some (ys, h') → rowA n h0 ps xs = some (ys, h0)
  | [], xs, ys, h0, h', h => by rw [rowA] at h ⊢; cases h; rfl
  | (i, v) :: r, xs, ys, h0, h', h => by
    rw [rowA] at h ⊢
    split at h
    · rename_i hc
      rw [if_pos hc]
      cases hz : frz (fun _ => none) v.cells with
      | none => rw [hz] at h; cases h
      | some q =>
        obtain ⟨cs, h1⟩ := q
        rw [hz] at h
        obtain ⟨rfl, g2⟩ := frz_free (h0 := h0) hz
        rw [g2]
        exact rowA_free r _ ys h0 h' h
    · cases h

theorem lenD_A {id : Nat} {c : Call} (hc : c.callee = .builtin .len) (ho : o.op = .call c) (h : lenD C o c st K) : stepA C id o st K := by
  obtain ⟨callee, args, ats⟩ := c
  simp only at hc
  subst hc
  simp only [stepA, ho]
  unfold lenD at h
  split at h
  · rename_i x t hx ht
    obtain ⟨d, n, b, h1, h2, h3, h4⟩ := h
    have hx : args.toList = [x] := hx
    have ht : ats.toList = [t] := ht
    simp only [hx, ht]
    exact ⟨d, n, b, h1, h2, h3, fun _ => h4⟩
  · exact h.elim

theorem stepD_A {id : Nat} (h : stepD C id o st K) : stepA C id o st K := by
  obtain ⟨dst, op, ty, pos, after, guard⟩ := o
  unfold stepD at h
  cases hc : clsOp op with
  | X => simp only [hc] at h
  | N =>
    simp only [hc] at h
    obtain ⟨v, e, h1, h2⟩ := h
    cases op <;> simp only [clsOp] at hc <;> try (cases hc; done)
    case alloc t =>
      simp only [newA, Option.map_eq_some_iff] at h1
      obtain ⟨d, h3, h4⟩ := h1
      cases h4
      exact ⟨d, h3, h2⟩
    case box t x =>
      simp only [newA] at h1
      split at h1
      · cases h1; exact ⟨by assumption, h2⟩
      · cases h1
    case buildSlice t len parts =>
      simp only [newA] at h1
      split at h1
      · rename_i de hde
        simp only [Option.bind_eq_some_iff] at hde
        obtain ⟨te, ⟨dT, g1, g2⟩, g3⟩ := hde
        split at h1
        · rename_i hcond
          split at h1
          · rename_i xs h' hrow
            cases h1
            exact ⟨dT, te, de, xs, st.h, g1, g2, g3, hcond.1, hcond.2.1, hcond.2.2, rowA_free _ _ _ st.h _ hrow, h2⟩
          · cases h1
        · cases h1
      · cases h1
    case makeSlice t l c =>
      simp only [newA] at h1
      split at h1
      · rename_i de k n k' m hde hl hcc
        simp only [Option.bind_eq_some_iff] at hde
        obtain ⟨te, ⟨dT, g1, g2⟩, g3⟩ := hde
        split at h1
        · rename_i hcond
          cases h1
          simp only [stepA, hl, hcc]
          exact ⟨dT, te, de, g1, g2, g3, hcond.1, hcond.2.1, hcond.2.2.1, hcond.2.2.2.1, hcond.2.2.2.2, h2⟩
        · cases h1
      · cases h1
    case call c =>
      split at hc <;> cases hc
  | _ =>
    simp only [hc] at h
    split at h
    · rename_i t x lo hi mx
      exact .inl h
    · rename_i op' t x y _
      obtain ⟨v, h1, h2⟩ := h
      simp only [stepA, h1]
      exact h2
    cases hl : asLen op with
    | none => rw [hl] at h; exact h
    | some c =>
      rw [hl] at h
      cases op <;> simp only [asLen] at hl <;> try (cases hl; done)
      rename_i c'
      split at hl
      · rename_i hcal
        cases hl
        exact lenD_A hcal rfl h
      · cases hl

theorem anc_listed {ops : Array Oper} {A : List (List Nat)} (hA : ancOk ops.toList A = true) {listed : Array Bool}
    (hdown : ∀ (i : Nat) (o : Oper), ops[i]? = some o → listed.getD i false = true → ∀ p ∈ predsO o, listed.getD p false = true) :
    ∀ (n i : Nat) (o : Oper), i < n → ops[i]? = some o → (∀ p ∈ predsO o, listed.getD p false = true) → ∀ j ∈ A.getD i [], listed.getD j false = true := by
  intro n
  induction n with
  | zero => intro i o h; omega
  | succ n ih =>
    intro i o hi ho hp j hj
    have hlt : i < A.length := by
      rcases Nat.lt_or_ge i A.length with h | h
      · exact h
      · simp [List.getD, List.getElem?_eq_none h] at hj
    unfold ancOk at hA
    rw [List.all_eq_true] at hA
    have h1 := hA i (List.mem_range.2 hlt)
    rw [List.all_eq_true] at h1
    have h2 := h1 j hj
    rw [show ops.toList[i]? = some o by simpa using ho] at h2
    simp only [List.any_eq_true, Bool.or_eq_true, beq_iff_eq, Bool.and_eq_true, decide_eq_true_eq] at h2
    obtain ⟨p, hp1, h2⟩ := h2
    rcases h2 with rfl | ⟨h3, h4⟩
    · exact hp p hp1
    · have hl := hp p hp1
      have hpo : ∃ op, ops[p]? = some op := by
        have : i < ops.size := (Array.getElem?_eq_some_iff.1 ho).1
        exact ⟨_, Array.getElem?_eq_getElem (by omega)⟩
      obtain ⟨op, hop⟩ := hpo
      exact ih p op (by omega) hop (hdown p op hop hl) j (by simpa using h4)

theorem mem_preds {o : Oper} {e : Edge} (he : e ∈ o.after) (hb : Region.binds .any e = true) : e.on ∈ predsO o := by
  unfold predsO
  rw [List.mem_filterMap]
  exact ⟨e, by simpa using he, by simp [hb]⟩
theorem of_preds {o : Oper} {p : Nat} (h : p ∈ predsO o) : ∃ e ∈ o.after, Region.binds .any e = true ∧ e.on = p := by
  unfold predsO at h
  rw [List.mem_filterMap] at h
  obtain ⟨e, he, h⟩ := h
  split at h
  · rename_i hb
    cases h
    exact ⟨e, by simpa using he, hb, rfl⟩
  · cases h

theorem stepG_sound (ok : C.Ok) {ops : Array Oper} {i : Nat} (hoi : ops[i]? = some o) (hdo : dstOk N o) (r : SRel N ρ I w st a) (hfree : ρ (n0 + i) = none) (hnx : n0 + i < st.nx)
    {K' : Act → World → Prop} (hK : ∀ a' w', After N st ρ I w (n0 + i) K a' w' → K' a' w') (h : stepG C n0 (gdOf ops) i o st K) : wpOp C.P ops Q i K' a w := by
  unfold wpOp
  rw [hoi]
  simp only
  rcases h with ⟨h1, h2⟩ | ⟨h1, h2⟩
  · have hw : Region.wanted o (yielded ops a.tmps) = true := by
      unfold gOn at h1
      cases hg : o.guard with
      | none => simp [Region.wanted, hg]
      | some p =>
        obtain ⟨j, want⟩ := p
        rw [hg] at h1
        simp only at h1
        split at h1
        · cases h1
        · rename_i d hd
          split at h1
          · rename_i b hb
            simp only [Option.some.injEq] at h1
            have := yielded_of r hd hb
            simp only [Region.wanted, hg, this]
            simpa using h1
          · cases h1
          · cases h1
    rw [if_pos hw]
    exact .inl (Oper.wp_mono hK (step_sound ok r hdo hfree hnx (stepD_A h2)))
  · have hw : Region.wanted o (yielded ops a.tmps) = false := by
      unfold gOn at h1
      cases hg : o.guard with
      | none => rw [hg] at h1; cases h1
      | some p =>
        obtain ⟨j, want⟩ := p
        rw [hg] at h1
        simp only at h1
        split at h1
        · cases h1
        · rename_i d hd
          split at h1
          · rename_i b hb
            simp only [Option.some.injEq] at h1
            have := yielded_of r hd hb
            simp only [Region.wanted, hg, this]
            simpa using h1
          · rename_i hb
            have := yielded_none r hd hb
            simp only [Region.wanted, hg, this]
            rfl
          · cases h1
    rw [hw]
    simp only [Bool.false_eq_true, if_false]
    refine hK _ _ ⟨_, ρ, I, h2, r.put (.tup [] #[] rfl (fun i x u hx => by simp at hx)) hdo, ?_, fun i B h => .inl h, by rw [put_nx]; exact Nat.le_refl _⟩
    rw [put_h]; exact Ext.refl

theorem okList_head {gd : Nat → Option Tmp} {A : List (List Nat)} : ∀ {l : List It} {x : List It} {j : It} {y : List It}, okList gd A l = true → l = x ++ j :: y →
    Head gd j y ∧ ∀ i ∈ y, (j.i ∈ A.getD i.i [] ∨ okPair gd j i = true) ∧ i.i ∉ predsO j.o
  | [], x, j, y, _, h => by simp at h
  | k :: l, [], j, y, hok, h => by
    simp at h
    obtain ⟨rfl, rfl⟩ := h
    simp only [okList, Bool.and_eq_true, List.all_eq_true] at hok
    refine ⟨Head.of hok.1.1, fun i hi => ?_⟩
    have := hok.1.2 i hi
    simp only [Bool.or_eq_true, Bool.not_eq_true'] at this
    exact ⟨this.1.imp (by simp) id, by simpa using this.2⟩
  | k :: l, z :: x, j, y, hok, h => by
    simp at h
    obtain ⟨rfl, rfl⟩ := h
    simp only [okList, Bool.and_eq_true] at hok
    exact okList_head hok.2 rfl

structure OkL (gd : Nat → Option Tmp) (A : List (List Nat)) (l : List It) : Prop where
  head : ∀ x j y, l = x ++ j :: y → Head gd j y ∧ ∀ i ∈ y, (j.i ∈ A.getD i.i [] ∨ okPair gd j i = true) ∧ i.i ∉ predsO j.o

theorem split_out {α : Type} {x y p q : List α} {i j : α} (h : p ++ q = x ++ j :: y) : ∃ x' y', p ++ i :: q = x' ++ j :: y' ∧ ∀ z ∈ y, z ∈ y' := by
  rw [List.append_eq_append_iff] at h
  rcases h with ⟨a, rfl, rfl⟩ | ⟨c, rfl, hc⟩
  · exact ⟨p ++ i :: a, y, by simp, fun z hz => hz⟩
  · cases c with
    | nil =>
      simp only [List.nil_append] at hc
      subst hc
      exact ⟨x ++ [i], y, by simp, fun z hz => hz⟩
    | cons c0 c =>
      simp only [List.cons_append, List.cons.injEq] at hc
      obtain ⟨rfl, rfl⟩ := hc
      refine ⟨x, c ++ i :: q, by simp, fun z hz => ?_⟩
      rw [List.mem_append] at hz ⊢
      rcases hz with hz | hz
      · exact .inl hz
      · exact .inr (List.mem_cons_of_mem _ hz)

theorem OkL.out {gd : Nat → Option Tmp} {A : List (List Nat)} {p q : List It} {i : It} (h : OkL gd A (p ++ i :: q)) : OkL gd A (p ++ q) :=
  ⟨fun x j y hxy => by
    obtain ⟨x', y', h1, h2⟩ := split_out (i := i) hxy
    obtain ⟨h3, h4⟩ := h.head x' j y' h1
    exact ⟨h3.sub h2, fun z hz => h4 z (h2 z hz)⟩⟩

theorem stepG_some (ok : C.Ok) {ops : Array Oper} {i : Nat} (hoi : ops[i]? = some o) (hdo : dstOk N o) (r : SRel N ρ I w st a) (hfree : ρ (n0 + i) = none) (hnx : n0 + i < st.nx) (h : stepG C n0 (gdOf ops) i o st K) :
    ∃ a' w', After N st ρ I w (n0 + i) K a' w' := by
  have hw := stepG_sound (Q := fun _ _ _ => False) ok hoi hdo r hfree hnx (fun a' w' h => h) h
  unfold wpOp at hw
  rw [hoi] at hw
  simp only at hw
  have noLet : ¬ LetsOut (fun (_ : Exit) (_ : Act) (_ : World) => False) := fun ⟨_, _, h⟩ => h
  split at hw
  · rcases hw with hw | ⟨_, hl⟩
    · unfold Oper.wp at hw
      generalize (execOp a.eval o).run C.P w = r at hw
      cases r with
      | ok n w' =>
        cases n <;> simp only [Oper.upon] at hw
        case value => exact ⟨_, _, hw⟩
        case skip => exact ⟨_, _, hw⟩
        case defer => exact ⟨_, _, hw⟩
        case enter f args =>
          obtain ⟨e, w2, fr, hr, _⟩ := hw []
          cases e with
          | returned v => exact ⟨_, _, hr⟩
          | panicked c => exact hr.elim
          | outgrown => exact (noLet hr).elim
        case row rw_ args =>
          obtain ⟨v, w2, hr, _⟩ := hw (Frame.enter C.P 0 #[] .normal) []
          exact ⟨_, _, hr⟩
        all_goals exact hw.elim
      | halt x w' => cases x <;> simp only [Oper.upon] at hw <;> exact hw.elim
    · exact (noLet hl).elim
  · exact ⟨_, _, hw⟩
theorem reach (ok : C.Ok) {ops : Array Oper} (hd : ∀ o ∈ ops.toList, dstOk N o) {i : It} {post : List It} : ∀ (pre : List It) (st : St) (ρ : Names) (I : Imm) (w : World) (a : Act), SRel N ρ I w st a →
    (∀ j ∈ pre, ops[j.i]? = some j.o) → (∀ j ∈ pre, ρ (n0 + j.i) = none) → n0 + ops.size ≤ st.nx →
    (∀ x y j, pre = x ++ j :: y → Head (gdOf ops) j (y ++ i :: post) ∧ okPair (gdOf ops) j i = true ∧ clsOp j.o.op ≠ .X) →
    runD C n0 (gdOf ops) (pre ++ i :: post) st K → ∃ s, AgrG (gdOf ops) i.o st s ∧ ∃ K', stepG C n0 (gdOf ops) i.i i.o s K' := by
  intro pre
  induction pre with
  | nil => intro st ρ I w a _ _ _ _ _ h; exact ⟨st, .refl, _, h.2⟩
  | cons j pre ih =>
    intro st ρ I w a r hops hfree hnx hok h
    obtain ⟨hj, hp, hjx⟩ := hok [] pre j rfl
    have hap := hp
    unfold okPair at hap
    simp only [Bool.and_eq_true] at hap
    obtain ⟨ap1, _, _⟩ := apart_spec hap.1
    have hoj := hops j (by simp)
    have hlt : j.i < ops.size := (Array.getElem?_eq_some_iff.1 hoj).1
    obtain ⟨a', w', st', ρ', I', ⟨⟨_, hR⟩, hf⟩, hrel, hext, hnm, hnx'⟩ := stepG_some ok hoj (hd j.o (List.mem_of_getElem? (by simpa using hoj))) r (hfree j (by simp)) (by omega) (stepG_tmp hjx h.2)
    have hfr : ∀ k ∈ pre, ρ' (n0 + k.i) = none := fun k hk => by
      cases hρ : ρ' (n0 + k.i) with
      | none => rfl
      | some B =>
        have hklt : k.i < ops.size := (Array.getElem?_eq_some_iff.1 (hops k (by simp [hk]))).1
        rcases hnm _ B hρ with h | h | h
        · rw [hfree k (by simp [hk])] at h; cases h
        · exact absurd (by omega) (hj.idx k (by simp [hk]))
        · omega
    obtain ⟨s, hs, hK⟩ := ih st' ρ' I' w' a' hrel (fun k hk => hops k (by simp [hk])) hfr (by omega) (fun x y k hxy => hok (j :: x) y k (by rw [hxy]; rfl)) hR
    exact ⟨s, (AgrG.of j.o.dst ap1 hf).trans hs, hK⟩
theorem draw_any (ok : C.Ok) {ops : Array Oper} {A : List (List Nat)} (hA : ancOk ops.toList A = true) (hd : ∀ o ∈ ops.toList, dstOk N o) {n0 : Nat} {h0 ρ0 I0 w0} (hQ : ∀ a' w', Fin N n0 h0 ρ0 I0 w0 K a' w' → Q .normal a' w') :
    ∀ (fuel : Nat) (rem : List It) (listed : Array Bool) (s : St) (ρ : Names) (I : Imm) (w : World) (a : Act), rem.length ≤ fuel → OkL (gdOf ops) A rem → (∀ it ∈ rem, ops[it.i]? = some it.o) →
      (∀ i, i < ops.size → (listed.getD i true = false ↔ ∃ it ∈ rem, it.i = i)) → listed.size = ops.size →
      (∀ (i : Nat) (o : Oper), ops[i]? = some o → listed.getD i false = true → ∀ p ∈ predsO o, listed.getD p false = true) →
      Since N n0 h0 ρ0 I0 w0 s ρ I w a → (∀ it ∈ rem, ρ (n0 + it.i) = none) → n0 + ops.size ≤ s.nx → runD C n0 (gdOf ops) rem s K → wpAny C.P .any ops Q fuel listed a w := by
  intro fuel
  have getD2 : ∀ {l : Array Bool} {i : Nat}, l.size = ops.size → i < ops.size → l.getD i true = l.getD i false := by
    intro l i hl hi; simp [Array.getD, hl, hi]
  have done : ∀ (rem : List It) (listed : Array Bool) (s : St) (ρ : Names) (I : Imm) (w : World) (a : Act), OkL (gdOf ops) A rem → (∀ it ∈ rem, ops[it.i]? = some it.o) →
      (∀ i, i < ops.size → (listed.getD i true = false ↔ ∃ it ∈ rem, it.i = i)) → listed.size = ops.size →
      Since N n0 h0 ρ0 I0 w0 s ρ I w a → runD C n0 (gdOf ops) rem s K → Region.ready .any ops listed = [] → Q .normal a w := by
    intro rem listed s ρ I w a hok hops hl hls S hr hready
    cases rem with
    | nil => exact hQ _ _ ⟨s, ρ, I, hr, S⟩
    | cons it r =>
      exfalso
      have hoi := hops it (by simp)
      have hlt : it.i < ops.size := (Array.getElem?_eq_some_iff.1 hoi).1
      obtain ⟨hh, hp⟩ := hok.head [] it r rfl
      have hmem : it.i ∈ Region.ready .any ops listed := by
        rw [mem_ready]
        refine ⟨(hl it.i hlt).2 ⟨it, by simp, rfl⟩, it.o, hoi, fun e he hb => ?_⟩
        have hpe := mem_preds he hb
        have hplt := hh.pr _ hpe
        have hps : e.on < ops.size := by omega
        cases hg : listed.getD e.on true with
        | true => rw [← getD2 hls hps]; exact hg
        | false =>
          obtain ⟨x, hx, hxe⟩ := (hl e.on hps).1 hg
          rcases List.mem_cons.1 hx with rfl | hx
          · omega
          · exact absurd (hxe ▸ hpe) (hp x hx).2
      rw [hready] at hmem
      simp at hmem
  induction fuel with
  | zero =>
    intro rem listed s ρ I w a hlen hok hops hl hls hdown S hfree hnx hr
    have : rem = [] := List.length_eq_zero_iff.1 (by omega)
    subst this
    refine ⟨?_, hQ _ _ ⟨s, ρ, I, hr, S⟩⟩
    rw [List.eq_nil_iff_forall_not_mem]
    intro j hj
    rw [mem_ready] at hj
    obtain ⟨h1, o, h2, _⟩ := hj
    have hlt : j < ops.size := (Array.getElem?_eq_some_iff.1 h2).1
    obtain ⟨it, hit, _⟩ := (hl j hlt).1 h1
    simp at hit
  | succ fuel ih =>
    intro rem listed s ρ I w a hlen hok hops hl hls hdown S hfree hnx hr
    refine ⟨done rem listed s ρ I w a hok hops hl hls S hr, fun i hi => ?_⟩
    rw [mem_ready] at hi
    obtain ⟨h1, o, hoi, hpre⟩ := hi
    have hlt : i < ops.size := (Array.getElem?_eq_some_iff.1 hoi).1
    obtain ⟨it, hit, rfl⟩ := (hl i hlt).1 h1
    have ho : it.o = o := by have := hops it hit; rw [hoi] at this; cases this; rfl
    subst ho
    obtain ⟨pre, post, rfl⟩ := List.append_of_mem hit
    have hanc := anc_listed hA hdown (it.i + 1) it.i it.o (by omega) hoi (fun p hp => by
      obtain ⟨e, he, hb, rfl⟩ := of_preds hp
      exact hpre e he hb)
    have hpairs : ∀ x b j, pre = x ++ j :: b → Head (gdOf ops) j (b ++ it :: post) ∧ okPair (gdOf ops) j it = true ∧ clsOp j.o.op ≠ .X := by
      intro x b j hx
      obtain ⟨g1, g2⟩ := hok.head x j (b ++ it :: post) (by rw [hx]; simp)
      refine ⟨g1, ?_, g1.cx⟩
      rcases (g2 it (by simp)).1 with h | h
      · exfalso
        have hlj := hanc j.i h
        have hjm : j ∈ pre ++ it :: post := by rw [hx]; simp
        have hjo := hops j hjm
        have hjlt : j.i < ops.size := (Array.getElem?_eq_some_iff.1 hjo).1
        have := (hl j.i hjlt).2 ⟨j, hjm, rfl⟩
        rw [getD2 hls hjlt, hlj] at this
        cases this
      · exact h
    obtain ⟨hhi, _⟩ := hok.head pre it post rfl
    have hdist : ∀ x ∈ pre ++ post, x.i ≠ it.i := by
      intro x hx
      rw [List.mem_append] at hx
      rcases hx with hx | hx
      · obtain ⟨p1, p2, rfl⟩ := List.append_of_mem hx
        obtain ⟨g1, _⟩ := hok.head p1 x (p2 ++ it :: post) (by simp)
        exact fun e => g1.idx it (by simp) e.symm
      · exact hhi.idx x hx
    have hstep : stepG C n0 (gdOf ops) it.i it.o s fun s' => OB it pre s s' ∧ runD C n0 (gdOf ops) (pre ++ post) s' K := by
      by_cases hEA : ∃ j ∈ pre, clsOp j.o.op = .E ∧ clsOp it.o.op = .A
      · obtain ⟨j, hj, hjE, hiA⟩ := hEA
        obtain ⟨x, y, rfl⟩ := List.append_of_mem hj
        have hpl : plainA it.o = true := by
          have := (hpairs x y j rfl).2.1
          unfold okPair at this
          rw [hjE, hiA, Bool.and_eq_true] at this
          exact this.2
        obtain ⟨s1, hs1, K1, hst1⟩ := reach ok hd (x ++ j :: y) s ρ I w a S.rel (fun k hk => hops k (by simp only [List.mem_append] at hk ⊢; exact .inl hk)) (fun k hk => hfree k (by simp only [List.mem_append] at hk ⊢; exact .inl hk)) hnx (fun x' y' k hxy => hpairs x' y' k hxy) hr
        obtain ⟨v, hv⟩ := bA hpl hst1
        have hv2 : ∀ z, AgrG (gdOf ops) it.o s z → ∀ K' : St → Prop, stepG C n0 (gdOf ops) it.i it.o z K' ↔ K' (z.put it.o.dst v) := fun z hz => hv z (hs1.symm.trans hz)
        refine (hv2 s .refl _).2 ⟨fun a ha => by rw [hhi.as0 (by rw [hiA]; decide)] at ha; simp at ha, pullA hv2 _ s .refl hpairs hdist hr⟩
      · exact pull hhi.as0 hhi.cx pre s hpairs (fun j hj hh => hEA ⟨j, hj, hh⟩) hdist hr
    refine stepG_sound ok hoi (hd it.o (List.mem_of_getElem? (by simpa using hoi))) S.rel (hfree it hit) (by omega) ?_ hstep
    rintro a' w' ⟨st', ρ', I', ⟨_, hR⟩, hrel, hext, hnm, hnx'⟩
    refine ih (pre ++ post) (listed.setIfInBounds it.i true) st' ρ' I' w' a' (by simp at hlen ⊢; omega) hok.out (fun x hx => hops x (by rw [List.mem_append] at hx ⊢; exact hx.imp id (List.mem_cons_of_mem _)))
      (fun k hk => ?_) (by simpa using hls) (fun k ok' hk hlk p hp => ?_) ⟨hrel, S.ext.trans hext, fun id B hB => ?_, Nat.le_trans S.nx hnx'⟩ (fun x hx => ?_) (by omega) hR
    · by_cases hki : it.i = k
      · subst hki
        constructor
        · intro h
          have : (listed.setIfInBounds it.i true).getD it.i true = true := by simp [Array.getD, hls, hlt]
          rw [this] at h; cases h
        · rintro ⟨x, hx, hxe⟩
          exact absurd hxe (hdist x hx)
      · rw [getD_set_ne true hki, hl k hk]
        constructor
        · rintro ⟨x, hx, rfl⟩
          refine ⟨x, ?_, rfl⟩
          rw [List.mem_append, List.mem_cons] at hx
          rw [List.mem_append]
          rcases hx with hx | rfl | hx
          · exact .inl hx
          · exact absurd rfl hki
          · exact .inr hx
        · rintro ⟨x, hx, rfl⟩
          exact ⟨x, by rw [List.mem_append] at hx ⊢; exact hx.imp id (List.mem_cons_of_mem _), rfl⟩
    · by_cases hki : it.i = k
      · subst hki
        rw [hoi] at hk; cases hk
        obtain ⟨e, he, hb, rfl⟩ := of_preds hp
        exact getD_set_true (hpre e he hb)
      · rw [getD_set_ne false hki] at hlk
        exact getD_set_true (hdown k ok' hk hlk p hp)
    · rcases hnm id B hB with h | h | h
      · exact S.fresh id B h
      · exact .inr (by omega)
      · exact .inr (by have := S.nx; omega)
    · cases hρ : ρ' (n0 + x.i) with
      | none => rfl
      | some B =>
        have hxm : x ∈ pre ++ it :: post := by rw [List.mem_append] at hx ⊢; exact hx.imp id (List.mem_cons_of_mem _)
        have hxlt : x.i < ops.size := (Array.getElem?_eq_some_iff.1 (hops x hxm)).1
        rcases hnm _ B hρ with h | h | h
        · rw [hfree x hxm] at h; cases h
        · exact absurd (by omega) (hdist x hx)
        · omega
end
end Go.AE
end

section
/- Abstract machine: runs of code. -/
namespace Go.AE

section
variable {C : Ctx} {N : Nat} {ρ : Names} {I : Imm} {w : World} {st : St} {a : Act} {id : Nat} {K : St → Prop} {o : Oper} {Q : Exit → Act → World → Prop}

def exitIs : AX → Exit → Prop
  | .normal, .normal => True
  | .exit i, .exit j => i = j
  | .ret, .ret => True
  | _, _ => False

def FinC (N : Nat) (n0 : Nat) (h0 : Heap) (ρ0 : Names) (I0 : Imm) (w0 : World) (K : AX → St → Prop) (e : Exit) (a' : Act) (w' : World) : Prop :=
  ∃ ax st' ρ' I', exitIs ax e ∧ K ax st' ∧ Since N n0 h0 ρ0 I0 w0 st' ρ' I' w' a'

def codeOk (N : Nat) : Code → Bool
  | .region _ ops _ => ops.toList.all (fun o => match o.dst with | some d => d < N | none => true)
  | .seq a b => codeOk N a && codeOk N b
  | .cond _ a b => codeOk N a && codeOk N b
  | .block _ c => codeOk N c
  | .loop c => codeOk N c
  | _ => true

theorem dstOk_of {N : Nat} {ops : Array Oper} (h : (ops.toList.all fun o => match o.dst with | some d => decide (d < N) | none => true) = true) : ∀ o ∈ ops.toList, dstOk N o := by
  intro o ho d hd
  rw [List.all_eq_true] at h
  have := h o ho
  rw [hd] at this
  simpa using this

theorem FinC.of_since {n0 n1 h0 ρ0 I0 w0} {K : AX → St → Prop} {s ρ1 I1 w1 a1} (S : Since N n0 h0 ρ0 I0 w0 s ρ1 I1 w1 a1) (hn : n1 = s.nx) {e a' w'} (h : FinC N n1 s.h ρ1 I1 w1 K e a' w') : FinC N n0 h0 ρ0 I0 w0 K e a' w' := by
  obtain ⟨ax, st', ρ', I', h1, h2, h3⟩ := h
  subst hn
  refine ⟨ax, st', ρ', I', h1, h2, h3.rel, S.ext.trans h3.ext, fun id B hB => ?_, Nat.le_trans S.nx h3.nx⟩
  rcases h3.fresh id B hB with h | h
  · exact S.fresh id B h
  · exact .inr (Nat.le_trans S.nx h)

theorem Since.refl (r : SRel N ρ I w st a) : Since N st.nx st.h ρ I w st ρ I w a := ⟨r, Ext.refl, fun id B h => .inl h, Nat.le_refl _⟩

theorem SRel.drawn {n : Nat} (r : SRel N ρ I w st a) : SRel N ρ I { w with drawn := n } st a :=
  ⟨r.sz, r.df, fun k => (r.tm k).mono (fun _ _ h => h) (fun _ _ h => h) fun _ _ _ => rfl,
    ⟨fun id c h => (r.hp.obj id c h).mono (fun _ _ h => h) (fun _ _ h => h) (fun _ _ _ => rfl) fun _ _ _ _ => rfl,
      fun id s x h => (r.hp.row id s x h).mono (fun _ _ h => h) (fun _ _ h => h) (fun _ _ _ => rfl) fun _ _ _ _ => rfl, r.hp.sep, r.hp.imm, r.hp.immlt⟩, r.nm⟩
theorem Ext.drawn {n : Nat} {h : Heap} : Ext h ρ I w h ρ I { w with drawn := n } :=
  ⟨fun _ _ h => h, fun _ _ h => h, fun _ h => h, fun _ h => .inl h, fun _ h => .inl h, rfl, rfl, rfl, Nat.le_refl _, fun _ _ _ => rfl⟩

theorem wpA_sound (ok : C.Ok) : ∀ (c : Code) (K : AX → St → Prop) (st : St) (ρ : Names) (I : Imm) (w : World) (a : Act), codeOk N c = true → WpA C c K st → SRel N ρ I w st a →
    c.wp C.P (FinC N st.nx st.h ρ I w K) a w := by
  intro c
  induction c with
  | skip => intro K st ρ I w a _ h r; exact wp_skip ⟨.normal, st, ρ, I, trivial, h, Since.refl r⟩
  | label l => intro K st ρ I w a _ h r; exact wp_label ⟨.normal, st, ρ, I, trivial, h, Since.refl r⟩
  | exit id => intro K st ρ I w a _ h r; exact wp_exit ⟨.exit id, st, ρ, I, rfl, h, Since.refl r⟩
  | ret => intro K st ρ I w a _ h r; exact wp_ret ⟨.ret, st, ρ, I, trivial, h, Since.refl r⟩
  | region id ops draw =>
    intro K st ρ I w a hc h r
    have hd := hc
    simp only [codeOk] at hd
    cases draw with
    | true =>
      obtain ⟨its, A, hok, hits, hr⟩ := h
      unfold drawOk at hok
      simp only [Bool.and_eq_true, decide_eq_true_eq] at hok
      obtain ⟨⟨⟨hA, hl⟩, hlen⟩, hall⟩ := hok
      have r' := r.drawn (n := w.drawn + 1)
      refine wp_region_any ok.mix ?_
      refine draw_any (Q := FinC N st.nx st.h ρ I w K) (K := fun s => K .normal s) ok hA (dstOk_of hd) (n0 := st.nx) (h0 := st.h) (ρ0 := ρ) (I0 := I) (w0 := w)
        (fun a' w' ⟨st', ρ', I', hK, S⟩ => ⟨.normal, st', ρ', I', trivial, hK, S⟩) ops.size its _ { st with nx := st.nx + ops.size } ρ I _ a hlen ⟨fun x j y hx => okList_head hl hx⟩ hits (fun i hi => ?_) (by simp) (fun i o _ hli => ?_)
        ⟨⟨r'.sz, r'.df, r'.tm, r'.hp, fun i B h => by have := r.nm i B h; show i < st.nx + ops.size; omega⟩, Ext.drawn, fun id B h => .inl h, Nat.le_add_right _ _⟩
        (fun it _ => by
          cases hρ : ρ (st.nx + it.i) with
          | none => rfl
          | some B => have := r.nm _ B hρ; omega) (Nat.le_refl _) hr
      · rw [List.all_eq_true] at hall
        have := hall i (List.mem_range.2 hi)
        simp only [List.any_eq_true, beq_iff_eq] at this
        constructor
        · intro _; exact this
        · intro _; simp [Array.getD, hi]
      · exfalso
        by_cases h' : i < ops.size
        · simp [Array.getD, h'] at hli
        · simp [Array.getD, h'] at hli
    | false =>
      refine wp_region ?_
      have := runA_sound (Q := FinC N st.nx st.h ρ I w K) (K := fun s => K .normal s) ok (dstOk_of hd) (n0 := st.nx) (h0 := st.h) (ρ0 := ρ) (I0 := I) (w0 := w)
        (fun a' w' ⟨st', ρ', I', hK, S⟩ => ⟨.normal, st', ρ', I', trivial, hK, S⟩) ops.toList 0 { st with nx := st.nx + ops.size } ρ I w a (by simp)
        ⟨⟨r.sz, r.df, r.tm, r.hp, fun i B h => by have := r.nm i B h; show i < st.nx + ops.size; omega⟩, Ext.refl, fun id B h => .inl h, Nat.le_add_right _ _⟩
        (fun j _ _ => by
          cases hρ : ρ (st.nx + j) with
          | none => rfl
          | some B => have := r.nm _ B hρ; omega) (Nat.le_refl _) h
      rw [List.range_eq_range']
      simpa using this
  | seq x y ihx ihy =>
    intro K st ρ I w a hc h r
    simp only [codeOk, Bool.and_eq_true] at hc
    refine wp_seq (wp_mono (ihx _ st ρ I w a hc.1 h r) ?_)
    rintro e a' w' ⟨ax, st', ρ', I', hx, hK, S⟩
    cases ax with
    | normal =>
      cases e <;> simp only [exitIs] at hx <;> try exact hx.elim
      exact wp_mono (ihy K st' ρ' I' w' a' hc.2 hK S.rel) fun e a w hf => FinC.of_since S rfl hf
    | exit i => cases e <;> simp only [exitIs] at hx <;> try exact hx.elim
                exact ⟨.exit i, st', ρ', I', hx, hK, S⟩
    | ret => cases e <;> simp only [exitIs] at hx <;> try exact hx.elim
             exact ⟨.ret, st', ρ', I', hx, hK, S⟩
  | cond c x y ihx ihy =>
    intro K st ρ I w a hc h r
    simp only [codeOk, Bool.and_eq_true] at hc
    obtain ⟨b, hb, h1, h2⟩ := h
    have hv := r.ev c
    rw [hb] at hv
    refine wp_cond hv.bool_inv ?_
    cases b
    · exact ihy K st ρ I w a hc.2 (h2 rfl) r
    · exact ihx K st ρ I w a hc.1 (h1 rfl) r
  | block id c ih =>
    intro K st ρ I w a hc h r
    refine wp_block (wp_mono (ih _ st ρ I w a hc h r) ?_)
    rintro e a' w' ⟨ax, st', ρ', I', hx, hK, S⟩
    cases ax with
    | normal => cases e <;> simp only [exitIs] at hx <;> try exact hx.elim
                exact ⟨.normal, st', ρ', I', trivial, hK, S⟩
    | exit i =>
      cases e <;> simp only [exitIs] at hx <;> try exact hx.elim
      subst hx
      simp only [AX.inBlock] at hK
      simp only [Exit.inBlock]
      by_cases hi : i = id
      · rw [if_pos hi] at hK ⊢; exact ⟨.normal, st', ρ', I', trivial, hK, S⟩
      · rw [if_neg hi] at hK ⊢; exact ⟨.exit i, st', ρ', I', rfl, hK, S⟩
    | ret => cases e <;> simp only [exitIs] at hx <;> try exact hx.elim
             exact ⟨.ret, st', ρ', I', trivial, hK, S⟩
  | loop c ih =>
    intro K st ρ I w a hc h r
    obtain ⟨Inv, μ, h0, hround⟩ := h
    simp only [codeOk] at hc
    intro b k cs
    have key : ∀ n (s : St) ρ1 I1 w1 a1, μ s = n → Inv s → Since N st.nx st.h ρ I w s ρ1 I1 w1 a1 →
        ∃ e a' w', FinC N st.nx st.h ρ I w K e a' w' ∧ Arrives C.P (lone (b.at a1 (.code c :: .inLoop c :: k)) cs w1) b k cs e a' w' := by
      intro n
      induction n using Nat.strongRecOn with
      | _ n ihn =>
        intro s ρ1 I1 w1 a1 hn hI S
        obtain ⟨e, a2, w2, ⟨ax, st2, ρ2, I2, hx, hK, S2⟩, harr⟩ := ih _ s ρ1 I1 w1 a1 hc (hround s hI) S.rel b (.inLoop c :: k) cs
        have S3 : Since N st.nx st.h ρ I w st2 ρ2 I2 w2 a2 := ⟨S2.rel, S.ext.trans S2.ext, fun id B hB => by
          rcases S2.fresh id B hB with h | h
          · exact S.fresh id B h
          · exact .inr (Nat.le_trans S.nx h), Nat.le_trans S.nx S2.nx⟩
        cases ax with
        | normal =>
          cases e <;> simp only [exitIs] at hx <;> try exact hx.elim
          obtain ⟨hI2, hlt⟩ := hK
          obtain ⟨e3, a3, w3, hf, harr3⟩ := ihn (μ st2) (hn ▸ hlt) st2 ρ2 I2 w2 a2 rfl hI2 S3
          exact ⟨e3, a3, w3, hf, .of_steps (Steps.trans harr (.one step_inLoop)) harr3⟩
        | exit i =>
          cases e <;> simp only [exitIs] at hx <;> try exact hx.elim
          subst hx
          exact ⟨.exit i, a2, w2, ⟨.exit i, st2, ρ2, I2, rfl, hK, S3⟩, .pass (x := .inLoop c) rfl (fun _ _ => .inl (by simp)) harr⟩
        | ret =>
          cases e <;> simp only [exitIs] at hx <;> try exact hx.elim
          exact ⟨.ret, a2, w2, ⟨.ret, st2, ρ2, I2, trivial, hK, S3⟩, .pass (x := .inLoop c) rfl (fun _ _ => .inl (by simp)) harr⟩
    obtain ⟨e, a', w', hq, harr⟩ := key _ st ρ I w a rfl h0 (Since.refl r)
    exact ⟨e, a', w', hq, .of_steps (.one step_loop) harr⟩
  | _ => intro K st ρ I w a _ h r; exact h.elim

end
end Go.AE
end

section
/- Abstract machine: whole functions; what a caller may forget; borrowed arguments. -/
namespace Go.AE

section
variable {C : Ctx} {N : Nat} {ρ : Names} {I : Imm} {w : World} {st : St} {a : Act} {id : Nat} {K : St → Prop} {o : Oper}

theorem resA_sound (ok : C.Ok) (r : SRel N ρ I w st a) {rv : ResultVar} {v : AV} (h : resA C st rv = some v) :
    ∃ u, ((match rv with | .tmp t => pure (a.tmps.getD t undef) | .cell p t => do loadVar t (← asAddr (a.tmps.getD p undef))) : Sem Value).run C.P w = .ok u w ∧ VR ρ I w v u := by
  cases rv with
  | tmp t => simp only [resA, Option.some.injEq] at h; subst h; exact ⟨_, rfl, r.tm t⟩
  | cell p t =>
    simp only [resA] at h
    split at h
    · rename_i q off hp
      split at h
      · rename_i d cells ht hq
        have hv := r.tm p
        rw [hp] at hv
        generalize hu : a.tmps.getD p undef = pv at hv
        cases hv with
        | ptr _ _ b B hB hb =>
          obtain ⟨c1, c2⟩ := objR_cells (r.hp.obj q cells hq) hB hb
          obtain ⟨v', hrun, hvr⟩ := load_run ok ht c1 c2 h
          rw [Nat.zero_add] at hrun
          exact ⟨v', by simp [hu, asAddr, hrun], hvr⟩
      · cases h
    · cases h

theorem mapM_sound {f : ResultVar → Sem Value} (hf : ∀ rv v, resA C st rv = some v → ∃ u, (f rv).run C.P w = .ok u w ∧ VR ρ I w v u) : ∀ (rs : List ResultVar) (vs : List AV), rs.mapM (resA C st) = some vs →
    ∃ us : List Value, us.length = vs.length ∧ rs.length = vs.length ∧ (rs.mapM f).run C.P w = .ok us w ∧ ∀ (i : Nat) x u, vs[i]? = some x → us[i]? = some u → VR ρ I w x u := by
  intro rs
  induction rs with
  | nil => intro vs h; simp at h; subst h; exact ⟨[], rfl, rfl, by simp, fun i x u h => by simp at h⟩
  | cons r1 rs ih =>
    intro vs h
    simp only [List.mapM_cons, Option.bind_eq_bind, Option.pure_def] at h
    cases h1 : resA C st r1 with
    | none => simp [h1] at h
    | some x =>
      cases h2 : rs.mapM (resA C st) with
      | none => simp [h1, h2] at h
      | some xs =>
        simp [h1, h2] at h
        subst h
        obtain ⟨u, hu, hv⟩ := hf _ _ h1
        obtain ⟨us, hl, hl2, hus, hvs⟩ := ih xs h2
        refine ⟨u :: us, by simp [hl], by simp [hl2], ?_, fun i x u hx hu' => ?_⟩
        · rw [List.mapM_cons, Sem.run_bind, hu, Result.andThen_ok, Sem.run_bind, hus]
          rfl
        · cases i with
          | zero => simp at hx hu'; subst hx; subst hu'; exact hv
          | succ i => exact hvs i x u (by simpa using hx) (by simpa using hu')

theorem results_sound (ok : C.Ok) (r : SRel N ρ I w st a) {fn : Func} {v : AV} (h : resultsA C st fn.results.toList = some v) :
    ∃ u, (results fn a.tmps).run C.P w = .ok u w ∧ VR ρ I w v u := by
  have : ∃ f : ResultVar → Sem Value, (∀ rv v, resA C st rv = some v → ∃ u, (f rv).run C.P w = .ok u w ∧ VR ρ I w v u) ∧
      results fn a.tmps = (do let vs ← fn.results.mapM f; pure (if h : vs.size = 1 then vs[0] else .tuple vs)) :=
    ⟨_, fun rv v hrv => by
      obtain ⟨u, hu, hv⟩ := resA_sound ok r hrv
      cases rv <;> exact ⟨u, hu, hv⟩, rfl⟩
  obtain ⟨f, hf, hres⟩ := this
  have hm : ∀ us : List Value, (fn.results.toList.mapM f).run C.P w = .ok us w → (results fn a.tmps).run C.P w = .ok (if h : us.length = 1 then us[0] else .tuple us.toArray) w := by
    intro us hus
    rw [hres, Array.mapM_eq_mapM_toList]
    simp only [Sem.run_bind, Sem.run_map, hus, Result.andThen_ok, Sem.run_pure]
    congr 1
  unfold resultsA at h
  split at h
  · rename_i r1 hr
    obtain ⟨us, hl, _, hus, hvs⟩ := mapM_sound hf [r1] [v] (by simp [h])
    rw [← hr] at hus
    have := hm us hus
    have hl1 : us.length = 1 := hl
    rw [dif_pos hl1] at this
    exact ⟨_, this, hvs 0 v _ rfl (List.getElem?_eq_getElem (by omega))⟩
  · rename_i hne
    simp only [Option.map_eq_some_iff] at h
    obtain ⟨vs, hvs', rfl⟩ := h
    obtain ⟨us, hl, hl2, hus, hvs⟩ := mapM_sound hf _ vs hvs'
    have := hm us hus
    have hl1 : us.length ≠ 1 := by
      intro hl1
      obtain ⟨r1, hr1⟩ := List.length_eq_one_iff.1 (show fn.results.toList.length = 1 by omega)
      exact hne r1 hr1
    rw [dif_neg hl1] at this
    exact ⟨_, this, .tup vs us.toArray (by simpa using hl) (fun i x u hx hu => hvs i x u hx (by simpa using hu))⟩

def argT (args : List AV) (n : Nat) : AV := args.getD n .dead

def RetK (C : Ctx) (rs : List ResultVar) (Q : AV → Heap → Nat → Prop) : AX → St → Prop
  | .exit _, _ => False
  | _, s => ∃ r, resultsA C s rs = some r ∧ Q r s.h s.nx

theorem ACall.of_body (ok : C.Ok) {f : FuncId} {fn : Func} {c : Code} {args : List AV} {h : Heap} {nx : Nat} {Q : AV → Heap → Nat → Prop} (hf : C.P.funcs[f]? = some fn) (hb : fn.body = some c)
    (hname : (fn.name == "runtime.NumGoroutine") = false) (hc : codeOk fn.ntmps c = true) (hargs : args.length ≤ fn.ntmps)
    (hw : WpA C c (RetK C fn.results.toList Q) ⟨argT args, h, nx⟩) : ACall C.P f args h nx Q := by
  refine ⟨⟨fn, hf, hname, by simp [hb]⟩, fun ρ I w vs hnm H ⟨hsz, hvs⟩ => ?_⟩
  refine calls_of_wp hf hb (wp_mono (wpA_sound ok c _ ⟨argT args, h, nx⟩ ρ I w _ hc hw ⟨by simp; omega, rfl, fun n => ?_, H, hnm⟩) ?_)
  · show VR ρ I w (args.getD n .dead) ((vs ++ Array.replicate (fn.ntmps - vs.size) undef).getD n undef)
    by_cases hn : n < args.length
    · have hx := List.getElem?_eq_getElem hn
      have hu : vs[n]? = some (vs[n]'(by omega)) := Array.getElem?_eq_getElem (by omega)
      have := hvs n _ _ hx hu
      have e1 : args.getD n .dead = args[n] := by simp [List.getD, hx]
      have e2 : (vs ++ Array.replicate (fn.ntmps - vs.size) undef).getD n undef = vs[n]'(by omega) := by
        rw [Array.getD_eq_getD_getElem?, Array.getElem?_append_left (by omega), hu]; rfl
      rw [e1, e2]; exact this
    · have e1 : args.getD n .dead = .dead := by simp [List.getD, List.getElem?_eq_none (by omega : args.length ≤ n)]
      rw [e1]; exact .dead _
  · rintro e a' w' ⟨ax, st', ρ', I', hx, hK, S⟩
    have fin : ∀ r, resultsA C st' fn.results.toList = some r → Q r st'.h st'.nx → a'.defers = [] ∧ ∃ v, (results fn a'.tmps).run C.P w' = .ok v w' ∧
        ∃ v' r h' nx' ρ' I', Ending.returned v = .returned v' ∧ Q r h' nx' ∧ VR ρ' I' w' r v' ∧ HRel ρ' I' w' h' ∧ Ext h ρ I w h' ρ' I' w' ∧ Fresh nx ρ ρ' ∧ nx ≤ nx' ∧ ∀ id B, ρ' id = some B → id < nx' := by
      intro r hr hQ
      obtain ⟨u, hu, hvr⟩ := results_sound ok S.rel hr
      exact ⟨S.rel.df, u, hu, u, r, st'.h, st'.nx, ρ', I', rfl, hQ, hvr, S.rel.hp, S.ext, S.fresh, S.nx, S.rel.nm⟩
    cases ax with
    | normal =>
      cases e <;> simp only [exitIs] at hx <;> try exact hx.elim
      obtain ⟨r, hr, hQ⟩ := hK
      exact fin r hr hQ
    | exit i => exact hK.elim
    | ret =>
      cases e <;> simp only [exitIs] at hx <;> try exact hx.elim
      obtain ⟨r, hr, hQ⟩ := hK
      exact fin r hr hQ

theorem ACall.mono {P f args h nx} {Q Q' : AV → Heap → Nat → Prop} (hc : ACall P f args h nx Q) (hq : ∀ r h' nx', Q r h' nx' → Q' r h' nx') : ACall P f args h nx Q' :=
  ⟨hc.1, fun ρ I w vs h1 h2 h3 => (hc.2 ρ I w vs h1 h2 h3).mono fun e w' ⟨v, r, h', nx', ρ', I', g1, g2, g3⟩ => ⟨v, r, h', nx', ρ', I', g1, hq _ _ _ g2, g3⟩⟩

theorem HRel.sub {h h' : Heap} (H : HRel ρ I w h) (hs : ∀ id e, h' id = some e → h id = some e) : HRel ρ I w h' :=
  ⟨fun id c he => H.obj id c (hs _ _ he), fun id s x he => H.row id s x (hs _ _ he), fun i j e e' B B' b hi hj => H.sep i j e e' B B' b (hs _ _ hi) (hs _ _ hj), fun i e B b p hi => H.imm i e B b p (hs _ _ hi), H.immlt⟩

theorem ACall.drop {P f args h nx} {Q : AV → Heap → Nat → Prop} (hc : ACall P f args h nx fun r h1 nx1 => ∃ h', (∀ id e, h' id = some e → h1 id = some e) ∧ Q r h' nx1) : ACall P f args h nx Q :=
  ⟨hc.1, fun ρ I w vs h1 h2 h3 => (hc.2 ρ I w vs h1 h2 h3).mono fun e w' ⟨v, r, h', nx', ρ', I', g1, ⟨h'', hs, hQ⟩, g3, g4, g5, g6, g7, g8⟩ =>
    ⟨v, r, h'', nx', ρ', I', g1, hQ, g3, g4.sub hs, ⟨g5.rho, g5.imm, g5.bor, g5.immN, fun b ⟨i, e, B, a1, a2, a3⟩ => g5.own b ⟨i, e, B, hs _ _ a1, a2, a3⟩, g5.os, g5.tape, g5.output, g5.size, g5.frame⟩, g6, g7, g8⟩⟩

theorem VR.restrict {ρ ρ' : Names} {I I' : Imm} {w w' : World} {x : AV} {u : Value} (h2 : VR ρ' I' w' x u) (hr : ∀ id B, ρ id = some B → ρ' id = some B) : ∀ u0, VR ρ I w x u0 → VR ρ I' w' x u := by
  have nm : ∀ {id B B'}, ρ' id = some B → ρ id = some B' → ρ id = some B := by
    intro id B B' h1 h2
    have := hr _ _ h2
    rw [h1] at this; cases this; exact h2
  induction h2 with
  | bool b => intro _ _; exact .bool b
  | int k n => intro _ _; exact .int k n
  | str s => intro _ _; exact .str s
  | nil => intro _ _; exact .nil
  | viewNil p sz a c => intro _ _; exact .viewNil p sz a c
  | dead v => intro _ _; exact .dead v
  | view p sz xs b off c h1 h2 h3 h4 h5 h6 ih =>
    intro u0 h0
    refine .view p sz xs b off c h1 h2 h3 h4 h5 fun i j x u hx hu => ?_
    generalize hxv : AV.view p sz xs = xv at h0
    cases h0 <;> simp at hxv
    · obtain ⟨_, _, rfl⟩ := hxv
      simp [get2] at hx
    · obtain ⟨rfl, rfl, rfl⟩ := hxv
      rename_i q1 q2 q3 q4 q5 q6
      obtain ⟨u1, hu1⟩ := q5 i j x hx
      exact ih i j x u hx hu u1 (q6 i j x u1 hx hu1)
  | ref0 id sz off a B h1 hc0 =>
    intro u0 h0
    generalize hxv : AV.ref id sz off 0 = xv at h0
    cases h0 <;> simp at hxv
    · obtain ⟨rfl, rfl, rfl⟩ := hxv; exact .ref0 _ _ _ _ B (nm h1 (by assumption)) hc0
    · obtain ⟨rfl, rfl, rfl, rfl⟩ := hxv; exact .ref0 _ _ _ _ B (nm h1 (by assumption)) hc0
  | ref id sz off len b c B h1 h2 h3 h4 h5 h6 =>
    intro u0 h0
    generalize hxv : AV.ref id sz off len = xv at h0
    cases h0 <;> simp at hxv
    · obtain ⟨rfl, rfl, rfl, rfl⟩ := hxv; exact .ref _ _ _ _ b c B (nm h1 (by assumption)) h2 h3 h4 h5 h6
    · obtain ⟨rfl, rfl, rfl, rfl⟩ := hxv; exact .ref _ _ _ _ b c B (nm h1 (by assumption)) h2 h3 h4 h5 h6
  | ptr id off b B h1 h2 =>
    intro u0 h0
    cases h0
    exact .ptr id off b B (nm h1 (by assumption)) h2
  | ep id idx off b B h1 h2 =>
    intro u0 h0
    cases h0
    exact .ep id idx off b B (nm h1 (by assumption)) h2
  | vptr cells p b o h1 h2 h3 ih =>
    intro u0 h0
    refine .vptr cells p b o h1 h2 fun i x u hx hu => ?_
    cases h0 with
    | vptr _ p' b' o' q1 q2 q3 =>
      obtain ⟨u1, hu1⟩ := q2 i x hx
      exact ih i x u hx hu u1 (q3 i x u1 hx hu1)
  | bnd f caps vs h1 h2 ih =>
    intro u0 h0
    cases h0 with
    | bnd _ _ vs' q1 q2 =>
      refine .bnd f caps vs h1 fun i x u hx hu => ?_
      have hi : i < vs'.size := by rw [q1]; exact (List.getElem?_eq_some_iff.1 hx).1
      exact ih i x u hx hu _ (q2 i x _ hx (Array.getElem?_eq_getElem hi))
  | fn f caps vs h1 h2 ih =>
    intro u0 h0
    cases h0 with
    | fn _ _ vs' q1 q2 =>
      refine .fn f caps vs h1 fun i x u hx hu => ?_
      have hi : i < vs'.size := by rw [q1]; exact (List.getElem?_eq_some_iff.1 hx).1
      exact ih i x u hx hu _ (q2 i x _ hx (Array.getElem?_eq_getElem hi))
  | agg cells vs h1 h2 ih =>
    intro u0 h0
    cases h0 with
    | agg _ vs' q1 q2 =>
      refine .agg cells vs h1 fun i x u hx hu => ?_
      have hi : i < vs'.size := by rw [q1]; exact (List.getElem?_eq_some_iff.1 hx).1
      exact ih i x u hx hu _ (q2 i x _ hx (Array.getElem?_eq_getElem hi))
  | tup cells vs h1 h2 ih =>
    intro u0 h0
    cases h0 with
    | tup _ vs' q1 q2 =>
      refine .tup cells vs h1 fun i x u hx hu => ?_
      have hi : i < vs'.size := by rw [q1]; exact (List.getElem?_eq_some_iff.1 hx).1
      exact ih i x u hx hu _ (q2 i x _ hx (Array.getElem?_eq_getElem hi))

inductive Plain : AV → Prop
  | bool (b) : Plain (.bool b)
  | int (k n) : Plain (.int k n)
  | str (s) : Plain (.str s)
  | nil : Plain .nil
  | agg (cells : List AV) : (∀ x ∈ cells, Plain x) → Plain (.agg cells)
  | tup (cells : List AV) : (∀ x ∈ cells, Plain x) → Plain (.tup cells)

theorem Plain.vr {x : AV} {u : Value} (h : VR ρ I w x u) (hp : Plain x) : ∀ ρ' I' w', VR ρ' I' w' x u := by
  intro ρ' I' w'
  induction h with
  | bool b => exact .bool b
  | int k n => exact .int k n
  | str s => exact .str s
  | nil => exact .nil
  | agg cells vs h1 h2 ih => cases hp with | agg _ hp => exact .agg cells vs h1 fun i x u hx hu => ih i x u hx hu (hp x (List.mem_of_getElem? hx))
  | tup cells vs h1 h2 ih => cases hp with | tup _ hp => exact .tup cells vs h1 fun i x u hx hu => ih i x u hx hu (hp x (List.mem_of_getElem? hx))
  | _ => cases hp

theorem ACall.pure {P f args h nx} {R : AV → Prop} (hc : ACall P f args h nx fun r h1 nx1 => (∀ id e, h id = some e → h1 id = some e) ∧ Plain r ∧ R r) {Q : AV → Heap → Nat → Prop}
    (hQ : ∀ r, R r → Q r h nx) : ACall P f args h nx Q :=
  ⟨hc.1, fun ρ I w vs h1 h2 h3 => (hc.2 ρ I w vs h1 h2 h3).mono fun e w' ⟨v, r, h', nx', ρ', I', g1, ⟨hs, hp, hR⟩, g3, g4, g5, g6, g7, g8⟩ => by
    have H' := g4.sub hs
    refine ⟨v, r, h, nx, ρ, I', g1, hQ r hR, hp.vr g3 _ _ _, ⟨fun id cells he => ?_, fun id sz xs he => ?_, fun i j e e' B B' b hi hj => h2.sep i j e e' B B' b hi hj, fun i e B b p hi hB hb => H'.imm i e B b p hi (g5.rho _ _ hB) hb, g4.immlt⟩,
      ⟨fun _ _ h => h, g5.imm, g5.bor, g5.immN, fun b hb => .inl hb, g5.os, g5.tape, g5.output, g5.size, g5.frame⟩, fun id B hB => .inl hB, Nat.le_refl _, h1⟩
    · obtain ⟨B, b, cur, ty, a1, a2, a3, a4, a5⟩ := h2.obj id cells he
      obtain ⟨B', b', cur', ty', b1, b2, b3, b4, b5⟩ := H'.obj id cells he
      have e1 := g5.rho _ _ a1
      rw [b1] at e1; cases e1
      refine ⟨B, b', cur', ty', a1, b2, b3, b4, fun i x u hx hu => ?_⟩
      have hi : i < cur.size := by rw [a4]; exact (List.getElem?_eq_some_iff.1 hx).1
      exact (b5 i x u hx hu).restrict g5.rho _ (a5 i x _ hx (Array.getElem?_eq_getElem hi))
    · obtain ⟨B, a1, a2, a3, a4, a5, a6⟩ := h2.row id sz xs he
      obtain ⟨B', b1, b2, b3, b4, b5, b6⟩ := H'.row id sz xs he
      have e1 := g5.rho _ _ a1
      rw [b1] at e1; cases e1
      refine ⟨B, a1, b2, b3, b4, b5, ?_⟩
      rcases b6 with b6 | ⟨b, cur, ty, k1, k2, k3, k4, k5, k6⟩
      · exact .inl b6
      · refine .inr ⟨b, cur, ty, k1, k2, k3, k4, k5, fun i j x u hx hu => ?_⟩
        rcases a6 with ⟨a6, a7, _⟩ | ⟨b0, cur0, ty0, l1, l2, l3, l4, l5, l6⟩
        · subst a7; simp [get2] at hx
        · obtain ⟨cs, q1, q2⟩ := get2_some hx
          have hj : j < sz := by rw [← a5 _ _ q1]; exact (List.getElem?_eq_some_iff.1 q2).1
          have hk1 := Nat.mul_le_mul_right sz (show i + 1 ≤ B.cap by have := (List.getElem?_eq_some_iff.1 q1).1; omega)
          rw [Nat.add_mul, Nat.one_mul] at hk1
          have hk : B.off + i * sz + j < cur0.size := by omega
          exact (k6 i j x u hx hu).restrict g5.rho _ (l6 i j x _ hx (Array.getElem?_eq_getElem hk))⟩

end
end Go.AE
end

section
/- Abstract machine: the run, one step a rewrite. -/
namespace Go.AE

inductive Kont where
  | fin (Q : AX → St → Prop)
  | seq (c : Code) (k : Kont)
  | block (id : Nat) (k : Kont)
  | loop (next : St → Prop) (k : Kont)
  | item (n0 : Nat) (gd : List (Option Tmp)) (h0 : Heap) (as : List AV) (r : List It) (k : Kont)

def den (C : Ctx) : Kont → AX → St → Prop
  | .fin Q => Q
  | .seq c k => AX.then (WpA C c (den C k)) (den C k)
  | .block id k => AX.inBlock id (den C k)
  | .loop next k => AX.then next (den C k)
  | .item n0 gd h0 as r k => fun e s => match e with
    | .normal => (∀ a ∈ as, keeps a h0 s.h) ∧ runD C n0 (fun j => (gd[j]?).bind id) r s (fun s => den C k .normal s)
    | e => den C k e s

def goC (C : Ctx) (c : Code) (st : St) (k : Kont) : Prop := WpA C c (den C k) st
def outS (C : Ctx) (e : AX) (st : St) (k : Kont) : Prop := den C k e st

section
variable {C : Ctx}

@[simp] theorem go_seq (a b : Code) (st : St) (k : Kont) : goC C (.seq a b) st k = goC C a st (.seq b k) := propext Iff.rfl
@[simp] theorem go_skip (st : St) (k : Kont) : goC C .skip st k = outS C .normal st k := propext Iff.rfl
@[simp] theorem go_label (l) (st : St) (k : Kont) : goC C (.label l) st k = outS C .normal st k := propext Iff.rfl
@[simp] theorem go_exit (i) (st : St) (k : Kont) : goC C (.exit i) st k = outS C (.exit i) st k := propext Iff.rfl
@[simp] theorem go_ret (st : St) (k : Kont) : goC C .ret st k = outS C .ret st k := propext Iff.rfl
@[simp] theorem go_block (i c) (st : St) (k : Kont) : goC C (.block i c) st k = goC C c st (.block i k) := propext Iff.rfl
@[simp] theorem out_seq (c) (st : St) (k : Kont) : outS C .normal st (.seq c k) = goC C c st k := propext Iff.rfl
@[simp] theorem out_seq_exit (c i) (st : St) (k : Kont) : outS C (.exit i) st (.seq c k) = outS C (.exit i) st k := propext Iff.rfl
@[simp] theorem out_seq_ret (c) (st : St) (k : Kont) : outS C .ret st (.seq c k) = outS C .ret st k := propext Iff.rfl
@[simp] theorem out_block (i) (st : St) (k : Kont) : outS C .normal st (.block i k) = outS C .normal st k := propext Iff.rfl
@[simp] theorem out_block_ret (i) (st : St) (k : Kont) : outS C .ret st (.block i k) = outS C .ret st k := propext Iff.rfl
@[simp] theorem out_block_exit (i j) (st : St) (k : Kont) : outS C (.exit j) st (.block i k) = if j = i then outS C .normal st k else outS C (.exit j) st k := propext Iff.rfl
@[simp] theorem out_loop (next) (st : St) (k : Kont) : outS C .normal st (.loop next k) = next st := propext Iff.rfl
@[simp] theorem out_loop_exit (next i) (st : St) (k : Kont) : outS C (.exit i) st (.loop next k) = outS C (.exit i) st k := propext Iff.rfl
@[simp] theorem out_loop_ret (next) (st : St) (k : Kont) : outS C .ret st (.loop next k) = outS C .ret st k := propext Iff.rfl
theorem go_loop {c : Code} {st : St} {k : Kont} (Inv : St → Prop) (μ : St → Nat) (h0 : Inv st) (hr : ∀ s, Inv s → goC C c s (.loop (fun s' => Inv s' ∧ μ s' < μ s) k)) : goC C (.loop c) st k :=
  ⟨Inv, μ, h0, fun s hs => hr s hs⟩
@[simp] theorem out_fin (e) (st : St) (Q) : outS C e st (.fin Q) = Q e st := propext Iff.rfl

structure Nxt where
  n0 : Nat
  gd : List (Option Tmp)
  i : Nat
  os : List Oper
  k : Kont

def runS (C : Ctx) (n0 : Nat) (gd : List (Option Tmp)) (i : Nat) (os : List Oper) (st : St) (k : Kont) : Prop :=
  runA C n0 (fun j => (gd[j]?).bind id) i os st (fun s => den C k .normal s)

def nextS (C : Ctx) (n : Nxt) (st : St) : Prop := runS C n.n0 n.gd n.i n.os st n.k

theorem gd_list (ops : List Oper) : gdOf ops.toArray = fun j => ((ops.map (·.dst))[j]?).bind id := by
  funext j
  simp only [gdOf, List.getElem?_toArray, List.getElem?_map]
  cases ops[j]? <;> rfl

@[simp] theorem go_region (i : Nat) (ops : List Oper) (st : St) (k : Kont) :
    goC C (.region i ops.toArray false) st k = runS C st.nx (ops.map (·.dst)) 0 ops { st with nx := st.nx + ops.length } k := by
  simp [goC, WpA, runS, gd_list]

def drS (C : Ctx) (n0 : Nat) (gd : List (Option Tmp)) (r : List It) (st : St) (k : Kont) : Prop :=
  runD C n0 (fun j => (gd[j]?).bind id) r st (fun s => den C k .normal s)

def itsOf (ops : List Oper) (xs : List (Nat × List Operand × List Nat)) : List It := xs.filterMap fun x => (ops[x.1]?).map fun o => ⟨x.1, o, x.2.1, x.2.2⟩

@[simp] theorem itsOf_nil (ops) : itsOf ops [] = [] := rfl
@[simp] theorem itsOf_cons (ops x xs) : itsOf ops (x :: xs) = match ops[x.1]? with | some o => ⟨x.1, o, x.2.1, x.2.2⟩ :: itsOf ops xs | none => itsOf ops xs := by
  unfold itsOf
  rw [List.filterMap_cons]
  cases ops[x.1]? <;> rfl

def preS (C : Ctx) (n0 : Nat) (o : Oper) (ns : List Nat) (r : List It) (st : St) : Prop := ∀ x ∈ r, x.i ∈ ns → pre1 C n0 o st x.i x.o.op
@[simp] theorem preS_nil (n0 o r) (st : St) : preS C n0 o [] r st = True := by simp [preS]
@[simp] theorem preS_end (n0 o ns) (st : St) : preS C n0 o ns [] st = True := by simp [preS]
@[simp] theorem preS_cons (n0 o n ns i p as ns') (r : List It) (st : St) : preS C n0 o (n :: ns) (⟨i, p, as, ns'⟩ :: r) st = ((if i ∈ n :: ns then pre1 C n0 o st i p.op else True) ∧ preS C n0 o (n :: ns) r st) := by
  apply propext
  simp only [preS, List.forall_mem_cons]
  split <;> simp_all
@[simp] theorem pre1_load (n0 d t a ty ps af g i n) (st : St) : pre1 C n0 ⟨d, .load t a, ty, ps, af, g⟩ st i n = (base (st.ev a) ≠ some (n0 + i)) := rfl
@[simp] theorem pre1_call (n0 d c ty ps af g i n) (st : St) : pre1 C n0 ⟨d, .call c, ty, ps, af, g⟩ st i n = (st.h (n0 + i) = none ∧ (newA C (n0 + i) st.ev n).isSome = true) := rfl
@[simp] theorem base_ptr (p o) : base (.ptr p o) = some p := rfl
@[simp] theorem base_ep (p i o) : base (.ep p i o) = some p := rfl
@[simp] theorem base_vptr (c) : base (.vptr c) = none := rfl

def itemS (C : Ctx) (n0 : Nat) (gd : List (Option Tmp)) (i : Nat) (o : Oper) (as : List Operand) (r : List It) (st : St) (k : Kont) : Prop :=
  stepG C n0 (fun j => (gd[j]?).bind id) i o st fun s => (∀ a ∈ as, keeps (st.ev a) st.h s.h) ∧ drS C n0 gd r s k
@[simp] theorem drS_cons (n0 gd i o as ns r) (st : St) (k : Kont) : drS C n0 gd (⟨i, o, as, ns⟩ :: r) st k = (preS C n0 o ns r st ∧ itemS C n0 gd i o as r st k) := rfl

theorem run_item {op : Op} {d ty ps af} (h : ∀ (id : Nat) (st : St) (K : St → Prop), stepD C id ⟨d, op, ty, ps, af, none⟩ st K = stepA C id ⟨d, op, ty, ps, af, none⟩ st K) (n0 gd i as r) (st : St) (k : Kont) :
    itemS C n0 gd i ⟨d, op, ty, ps, af, none⟩ as r st k = runS C n0 gd i [⟨d, op, ty, ps, af, none⟩] st (.item n0 gd st.h (as.map st.ev) r k) := by
  unfold itemS stepG
  have : gOn (fun j => (gd[j]?).bind id) ⟨d, op, ty, ps, af, none⟩ st.t = some true := rfl
  simp only [this, h, runS, runA, den, List.forall_mem_map]
  simp
  rfl
@[simp] theorem item_move (d x ty ps af n0 gd i as r) (st : St) (k : Kont) : itemS C n0 gd i ⟨d, .move x, ty, ps, af, none⟩ as r st k = runS C n0 gd i [⟨d, .move x, ty, ps, af, none⟩] st (.item n0 gd st.h (as.map st.ev) r k) := run_item (fun _ _ _ => rfl) ..
@[simp] theorem item_assign (d x ty ps af n0 gd i as r) (st : St) (k : Kont) : itemS C n0 gd i ⟨d, .assign x, ty, ps, af, none⟩ as r st k = runS C n0 gd i [⟨d, .assign x, ty, ps, af, none⟩] st (.item n0 gd st.h (as.map st.ev) r k) := run_item (fun _ _ _ => rfl) ..
@[simp] theorem item_pick (d x y z ty ps af n0 gd i as r) (st : St) (k : Kont) : itemS C n0 gd i ⟨d, .pick x y z, ty, ps, af, none⟩ as r st k = runS C n0 gd i [⟨d, .pick x y z, ty, ps, af, none⟩] st (.item n0 gd st.h (as.map st.ev) r k) := run_item (fun _ _ _ => rfl) ..
@[simp] theorem item_build (d x y ty ps af n0 gd i as r) (st : St) (k : Kont) : itemS C n0 gd i ⟨d, .build x y, ty, ps, af, none⟩ as r st k = runS C n0 gd i [⟨d, .build x y, ty, ps, af, none⟩] st (.item n0 gd st.h (as.map st.ev) r k) := run_item (fun _ _ _ => rfl) ..
@[simp] theorem item_nilc (d x ty ps af n0 gd i as r) (st : St) (k : Kont) : itemS C n0 gd i ⟨d, .nilCheck x, ty, ps, af, none⟩ as r st k = runS C n0 gd i [⟨d, .nilCheck x, ty, ps, af, none⟩] st (.item n0 gd st.h (as.map st.ev) r k) := run_item (fun _ _ _ => rfl) ..
def binI (C : Ctx) (n0 : Nat) (gd : List (Option Tmp)) (r : List It) (k : Kont) (d : Option Tmp) (v : Option AV) (st : St) : Prop := ∃ u, v = some u ∧ drS C n0 gd r (st.put d u) k
@[simp] theorem item_bin (d op t x y t2 ty ps af n0 gd i r) (st : St) (k : Kont) :
    itemS C n0 gd i ⟨d, .binOp op t x y t2, ty, ps, af, none⟩ [] r st k = binI C n0 gd r k d (binA (C.eqA t (st.ev x) (st.ev y)) op (st.ev x) (st.ev y)) st := by
  unfold itemS stepG
  have : gOn (fun j => (gd[j]?).bind id) ⟨d, .binOp op t x y t2, ty, ps, af, none⟩ st.t = some true := rfl
  simp [this, stepD, clsOp, binI]
@[simp] theorem binI_some (n0 gd r k d v) (st : St) : binI C n0 gd r k d (some v) st = drS C n0 gd r (st.put d v) k := by simp [binI]
@[simp] theorem item_un (d a b x ty ps af n0 gd i as r) (st : St) (k : Kont) : itemS C n0 gd i ⟨d, .unOp a b x, ty, ps, af, none⟩ as r st k = runS C n0 gd i [⟨d, .unOp a b x, ty, ps, af, none⟩] st (.item n0 gd st.h (as.map st.ev) r k) := run_item (fun _ _ _ => rfl) ..
@[simp] theorem item_conv (d a b x ty ps af n0 gd i as r) (st : St) (k : Kont) : itemS C n0 gd i ⟨d, .convert a b x, ty, ps, af, none⟩ as r st k = runS C n0 gd i [⟨d, .convert a b x, ty, ps, af, none⟩] st (.item n0 gd st.h (as.map st.ev) r k) := run_item (fun _ _ _ => rfl) ..
@[simp] theorem item_mkfn (d a b x ty ps af n0 gd i as r) (st : St) (k : Kont) : itemS C n0 gd i ⟨d, .makeFunc a b x, ty, ps, af, none⟩ as r st k = runS C n0 gd i [⟨d, .makeFunc a b x, ty, ps, af, none⟩] st (.item n0 gd st.h (as.map st.ev) r k) := run_item (fun _ _ _ => rfl) ..
@[simp] theorem item_faddr (d a b x ty ps af n0 gd i as r) (st : St) (k : Kont) : itemS C n0 gd i ⟨d, .fieldAddr a b x, ty, ps, af, none⟩ as r st k = runS C n0 gd i [⟨d, .fieldAddr a b x, ty, ps, af, none⟩] st (.item n0 gd st.h (as.map st.ev) r k) := run_item (fun _ _ _ => rfl) ..
@[simp] theorem item_field (d a b x ty ps af n0 gd i as r) (st : St) (k : Kont) : itemS C n0 gd i ⟨d, .field a b x, ty, ps, af, none⟩ as r st k = runS C n0 gd i [⟨d, .field a b x, ty, ps, af, none⟩] st (.item n0 gd st.h (as.map st.ev) r k) := run_item (fun _ _ _ => rfl) ..
@[simp] theorem item_iaddr (d a b x ty ps af n0 gd i as r) (st : St) (k : Kont) : itemS C n0 gd i ⟨d, .indexAddr a b x, ty, ps, af, none⟩ as r st k = runS C n0 gd i [⟨d, .indexAddr a b x, ty, ps, af, none⟩] st (.item n0 gd st.h (as.map st.ev) r k) := run_item (fun _ _ _ => rfl) ..
@[simp] theorem item_index (d a b x ty ps af n0 gd i as r) (st : St) (k : Kont) : itemS C n0 gd i ⟨d, .index a b x, ty, ps, af, none⟩ as r st k = runS C n0 gd i [⟨d, .index a b x, ty, ps, af, none⟩] st (.item n0 gd st.h (as.map st.ev) r k) := run_item (fun _ _ _ => rfl) ..
@[simp] theorem item_extr (d b x ty ps af n0 gd i as r) (st : St) (k : Kont) : itemS C n0 gd i ⟨d, .extract b x, ty, ps, af, none⟩ as r st k = runS C n0 gd i [⟨d, .extract b x, ty, ps, af, none⟩] st (.item n0 gd st.h (as.map st.ev) r k) := run_item (fun _ _ _ => rfl) ..
@[simp] theorem item_load (d b x ty ps af n0 gd i as r) (st : St) (k : Kont) : itemS C n0 gd i ⟨d, .load b x, ty, ps, af, none⟩ as r st k = runS C n0 gd i [⟨d, .load b x, ty, ps, af, none⟩] st (.item n0 gd st.h (as.map st.ev) r k) := run_item (fun _ _ _ => rfl) ..
@[simp] theorem item_store (d b x y ty ps af n0 gd i as r) (st : St) (k : Kont) : itemS C n0 gd i ⟨d, .store b x y, ty, ps, af, none⟩ as r st k = runS C n0 gd i [⟨d, .store b x y, ty, ps, af, none⟩] st (.item n0 gd st.h (as.map st.ev) r k) := run_item (fun _ _ _ => rfl) ..
@[simp] theorem item_call (d f a t ty ps af n0 gd i as r) (st : St) (k : Kont) : itemS C n0 gd i ⟨d, .call ⟨.value f, a, t⟩, ty, ps, af, none⟩ as r st k = runS C n0 gd i [⟨d, .call ⟨.value f, a, t⟩, ty, ps, af, none⟩] st (.item n0 gd st.h (as.map st.ev) r k) := run_item (fun _ _ _ => rfl) ..
@[simp] theorem item_append (d a t ty ps af n0 gd i as r) (st : St) (k : Kont) : itemS C n0 gd i ⟨d, .call ⟨.builtin .append, a, t⟩, ty, ps, af, none⟩ as r st k = runS C n0 gd i [⟨d, .call ⟨.builtin .append, a, t⟩, ty, ps, af, none⟩] st (.item n0 gd st.h (as.map st.ev) r k) := run_item (fun _ _ _ => rfl) ..

def lenI (C : Ctx) (n0 : Nat) (gd : List (Option Tmp)) (r : List It) (k : Kont) (d : Option Tmp) (ty : Option TyD) (l : Option (Nat × Bool)) (st : St) : Prop :=
  ∃ dT m b, ty = some dT ∧ l = some (m, b) ∧ (if b then dT.elem.isSome = true else dT.isStr = true) ∧ drS C n0 gd r (st.put d (.int .i64 m)) k
@[simp] theorem item_len (d x t ty ps af n0 gd i r) (st : St) (k : Kont) : itemS C n0 gd i ⟨d, .call ⟨.builtin .len, #[x], #[t]⟩, ty, ps, af, none⟩ [] r st k = lenI C n0 gd r k d (C.ty t) (lenA (st.ev x)) st := by
  unfold itemS stepG
  have : gOn (fun j => (gd[j]?).bind id) ⟨d, .call ⟨.builtin .len, #[x], #[t]⟩, ty, ps, af, none⟩ st.t = some true := rfl
  simp [this, stepD, clsOp, asLen, lenD, lenI]
@[simp] theorem lenI_slice (n0 gd r k d s b z e ik is f m) (st : St) : lenI C n0 gd r k d (some ⟨s, b, false, z, some e, ik, is, f⟩) (some (m, true)) st = drS C n0 gd r (st.put d (.int .i64 m)) k := by simp [lenI]
@[simp] theorem lenI_str (n0 gd r k d s b z e ik f m) (st : St) : lenI C n0 gd r k d (some ⟨s, b, false, z, e, ik, true, f⟩) (some (m, false)) st = drS C n0 gd r (st.put d (.int .i64 m)) k := by simp [lenI]

def newS (C : Ctx) (n0 : Nat) (gd : List (Option Tmp)) (i : Nat) (r : List It) (k : Kont) (d : Option Tmp) (v : Option (AV × Ent)) (st : St) : Prop :=
  ∃ x e, v = some (x, e) ∧ drS C n0 gd r ((st.new (n0 + i) e).put d x) k
@[simp] theorem newS_some (n0 gd i r k d x e) (st : St) : newS C n0 gd i r k d (some (x, e)) st = drS C n0 gd r ((st.new (n0 + i) e).put d x) k := by
  apply propext
  constructor
  · rintro ⟨_, _, h1, h2⟩; cases h1; exact h2
  · intro h; exact ⟨_, _, rfl, h⟩
theorem item_new {op : Op} (h : clsOp op = .N) (d ty ps af n0 gd i r) (st : St) (k : Kont) :
    itemS C n0 gd i ⟨d, op, ty, ps, af, none⟩ [] r st k = newS C n0 gd i r k d (newA C (n0 + i) st.ev op) st := by
  unfold itemS stepG
  have : gOn (fun j => (gd[j]?).bind id) ⟨d, op, ty, ps, af, none⟩ st.t = some true := rfl
  simp [this, stepD, h, newS]
@[simp] theorem item_alloc (d e ty ps af n0 gd i r) (st : St) (k : Kont) : itemS C n0 gd i ⟨d, .alloc e, ty, ps, af, none⟩ [] r st k = newS C n0 gd i r k d (newA C (n0 + i) st.ev (.alloc e)) st := item_new rfl ..
@[simp] theorem item_box (d e x ty ps af n0 gd i r) (st : St) (k : Kont) : itemS C n0 gd i ⟨d, .box e x, ty, ps, af, none⟩ [] r st k = newS C n0 gd i r k d (newA C (n0 + i) st.ev (.box e x)) st := item_new rfl ..
@[simp] theorem item_mksl (d e x y ty ps af n0 gd i r) (st : St) (k : Kont) : itemS C n0 gd i ⟨d, .makeSlice e x y, ty, ps, af, none⟩ [] r st k = newS C n0 gd i r k d (newA C (n0 + i) st.ev (.makeSlice e x y)) st := item_new rfl ..
@[simp] theorem item_bsl (d e x y ty ps af n0 gd i r) (st : St) (k : Kont) : itemS C n0 gd i ⟨d, .buildSlice e x y, ty, ps, af, none⟩ [] r st k = newS C n0 gd i r k d (newA C (n0 + i) st.ev (.buildSlice e x y)) st := item_new rfl ..
@[simp] theorem newA_alloc (id ev e) : newA C id ev (.alloc e) = (C.ty e).map fun d => (.ptr id 0, .obj d.zero) := rfl
@[simp] theorem newA_box (id ev e x) : newA C id ev (.box e x) = if (ev x).known = true then some (.ptr id 0, .obj (ev x).cells) else none := rfl

def guardD (C : Ctx) (o : Oper) (want : Bool) (d : Option Tmp) (v : AV) (n0 : Nat) (gd : List (Option Tmp)) (i : Nat) (as : List Operand) (r : List It) (st : St) (k : Kont) : Prop :=
  grdA v want (itemS C n0 gd i { o with guard := none } as r st k) (drS C n0 gd r (st.put d (.tup [])) k)
@[simp] theorem guardD_tt (o d n0 gd i as r) (st : St) (k : Kont) : guardD C o true d (.bool true) n0 gd i as r st k = itemS C n0 gd i { o with guard := none } as r st k := by simp [guardD, grdA]
@[simp] theorem guardD_ff (o d n0 gd i as r) (st : St) (k : Kont) : guardD C o false d (.bool false) n0 gd i as r st k = itemS C n0 gd i { o with guard := none } as r st k := by simp [guardD, grdA]
@[simp] theorem guardD_tf (o d n0 gd i as r) (st : St) (k : Kont) : guardD C o true d (.bool false) n0 gd i as r st k = drS C n0 gd r (st.put d (.tup [])) k := by simp [guardD, grdA]
@[simp] theorem guardD_ft (o d n0 gd i as r) (st : St) (k : Kont) : guardD C o false d (.bool true) n0 gd i as r st k = drS C n0 gd r (st.put d (.tup [])) k := by simp [guardD, grdA]
@[simp] theorem guardD_und (o w d n0 gd i as r) (st : St) (k : Kont) : guardD C o w d (.tup []) n0 gd i as r st k = drS C n0 gd r (st.put d (.tup [])) k := by simp [guardD, grdA]
def keepL (as : List AV) (h0 h : Heap) : Prop := ∀ a ∈ as, keeps a h0 h
@[simp] theorem keepL_nil (h0 h) : keepL [] h0 h = True := by simp [keepL]
@[simp] theorem keepL_cons (a as h0 h) : keepL (a :: as) h0 h = (keeps a h0 h ∧ keepL as h0 h) := by simp [keepL]
@[simp] theorem keeps_ptr (p o h0 h) : keeps (.ptr p o) h0 h = (h p = h0 p) := by simp [keeps, base]
@[simp] theorem keeps_ep (p i o h0 h) : keeps (.ep p i o) h0 h = (h p = h0 p) := by simp [keeps, base]
@[simp] theorem keeps_vptr (c h0 h) : keeps (.vptr c) h0 h = True := by simp [keeps, base]
@[simp] theorem keeps_und (h0 h) : keeps (.tup []) h0 h = True := by simp [keeps, base]
@[simp] theorem out_item (n0 gd h0 as r) (st : St) (k : Kont) : outS C .normal st (.item n0 gd h0 as r k) = (keepL as h0 st.h ∧ drS C n0 gd r st k) := propext Iff.rfl
@[simp] theorem drS_nil (n0 gd) (st : St) (k : Kont) : drS C n0 gd [] st k = outS C .normal st k := propext Iff.rfl

@[simp] theorem run_nil (n0 gd i) (st : St) (k : Kont) : runS C n0 gd i [] st k = outS C .normal st k := propext Iff.rfl

def guardS (C : Ctx) (o : Oper) (want : Bool) (d : Option Tmp) (v : AV) (n0 : Nat) (gd : List (Option Tmp)) (i : Nat) (os : List Oper) (st : St) (k : Kont) : Prop :=
  grdA v want (runS C n0 gd i ({ o with guard := none } :: os) st k) (runS C n0 gd (i + 1) os (st.put d (.tup [])) k)

theorem run_guard (dst op ty ps af j want d) (n0 gd i os) (st : St) (k : Kont) (hg : (gd[j]?).bind id = some d) :
    runS C n0 gd i (⟨dst, op, ty, ps, af, some (j, want)⟩ :: os) st k = guardS C ⟨dst, op, ty, ps, af, none⟩ want dst (st.t d) n0 gd i os st k := by
  simp only [runS, runA, hg, guardS, Option.some.injEq]
  apply propext
  constructor
  · rintro ⟨d', rfl, h1⟩; exact h1
  · rintro h1; exact ⟨d, rfl, h1⟩

@[simp] theorem guardS_tt (o d n0 gd i os) (st : St) (k : Kont) : guardS C o true d (.bool true) n0 gd i os st k = runS C n0 gd i ({ o with guard := none } :: os) st k := by simp [guardS, grdA]
@[simp] theorem guardS_ff (o d n0 gd i os) (st : St) (k : Kont) : guardS C o false d (.bool false) n0 gd i os st k = runS C n0 gd i ({ o with guard := none } :: os) st k := by simp [guardS, grdA]
@[simp] theorem guardS_tf (o d n0 gd i os) (st : St) (k : Kont) : guardS C o true d (.bool false) n0 gd i os st k = runS C n0 gd (i + 1) os (st.put d (.tup [])) k := by simp [guardS, grdA]
@[simp] theorem guardS_ft (o d n0 gd i os) (st : St) (k : Kont) : guardS C o false d (.bool true) n0 gd i os st k = runS C n0 gd (i + 1) os (st.put d (.tup [])) k := by simp [guardS, grdA]
@[simp] theorem guardS_und (o d w n0 gd i os) (st : St) (k : Kont) : guardS C o w d (.tup []) n0 gd i os st k = runS C n0 gd (i + 1) os (st.put d (.tup [])) k := by simp [guardS, grdA]
theorem guardS_split {o want d b n0 gd i os} {st : St} {k : Kont} (h1 : b = true → guardS C o want d (.bool true) n0 gd i os st k) (h2 : b = false → guardS C o want d (.bool false) n0 gd i os st k) :
    guardS C o want d (.bool b) n0 gd i os st k := by
  cases b
  · exact h2 rfl
  · exact h1 rfl

@[simp] theorem run_move (d x ty ps af n0 gd i os) (st : St) (k : Kont) :
    runS C n0 gd i (⟨d, .move x, ty, ps, af, none⟩ :: os) st k = runS C n0 gd (i + 1) os (st.put d (st.ev x)) k := propext Iff.rfl
@[simp] theorem run_assign (d x ty ps af n0 gd i os) (st : St) (k : Kont) :
    runS C n0 gd i (⟨d, .assign x, ty, ps, af, none⟩ :: os) st k = runS C n0 gd (i + 1) os (st.put d (st.ev x)) k := propext Iff.rfl

def pickS (C : Ctx) (n : Nxt) (d : Option Tmp) (c x y : AV) (st : St) : Prop := ∃ b, c = .bool b ∧ nextS C n (st.put d (if b then x else y))
@[simp] theorem run_pick (d c x y ty ps af n0 gd i os) (st : St) (k : Kont) :
    runS C n0 gd i (⟨d, .pick c x y, ty, ps, af, none⟩ :: os) st k = pickS C ⟨n0, gd, i + 1, os, k⟩ d (st.ev c) (st.ev x) (st.ev y) st := propext Iff.rfl
@[simp] theorem pickS_bool (n d b x y) (st : St) : pickS C n d (.bool b) x y st = runS C n.n0 n.gd n.i n.os (st.put d (if b then x else y)) n.k := by
  simp [pickS, nextS]

def binS (C : Ctx) (n : Nxt) (d : Option Tmp) (t : TypeId) (op : BinOp) (x y : AV) (v : Option AV) (st : St) : Prop :=
  match v with
  | some u => nextS C n (st.put d u)
  | none => (∃ d, C.ty t = some d ∧ d.elem.isSome = true) ∧ nilCmp op x y fun b => nextS C n (st.put d (.bool b))
@[simp] theorem run_bin (d op t x y t2 ty ps af n0 gd i os) (st : St) (k : Kont) :
    runS C n0 gd i (⟨d, .binOp op t x y t2, ty, ps, af, none⟩ :: os) st k = binS C ⟨n0, gd, i + 1, os, k⟩ d t op (st.ev x) (st.ev y) (binA (C.eqA t (st.ev x) (st.ev y)) op (st.ev x) (st.ev y)) st := by
  simp only [runS, runA, stepA, binS, nextS]
  cases binA (C.eqA t (st.ev x) (st.ev y)) op (st.ev x) (st.ev y) <;> rfl
@[simp] theorem binS_some (n d t op x y v) (st : St) : binS C n d t op x y (some v) st = runS C n.n0 n.gd n.i n.os (st.put d v) n.k := rfl
@[simp] theorem bin_add (e k a b) : binA e .add (.int k a) (.int k b) = some (.int k (k.wrap (a + b))) := by simp [binA]
@[simp] theorem bin_sub (e k a b) : binA e .sub (.int k a) (.int k b) = some (.int k (k.wrap (a - b))) := by simp [binA]
@[simp] theorem bin_mul (e k a b) : binA e .mul (.int k a) (.int k b) = some (.int k (k.wrap (a * b))) := by simp [binA]
@[simp] theorem bin_and (e k a b) : binA e .and (.int k a) (.int k b) = some (.int k (bandA k a b)) := by simp [binA]
theorem bin_shr (e k k' a b) : binA e .shr (.int k a) (.int k' b) = shrA k a b := by unfold binA; by_cases h : k = k' <;> simp [h]
@[simp] theorem bin_shr0 (e k k' a b) : binA e .shr (.int k a) (.int k' b) = if b < 0 then none else some (.int k (a.fdiv (2 ^ min b.toNat k.bits))) := bin_shr e k k' a b
@[simp] theorem bin_eql (e k a b) : binA e .eql (.int k a) (.int k b) = some (.bool (a == b)) := by simp [binA]
@[simp] theorem bin_neq (e k a b) : binA e .neq (.int k a) (.int k b) = some (.bool (a != b)) := by simp [binA]
@[simp] theorem bin_rem (e k a b) : binA e .rem (.int k a) (.int k b) = if b = 0 then none else some (.int k (a.tmod b)) := by simp [binA]
@[simp] theorem bin_quo (e k a b) : binA e .quo (.int k a) (.int k b) = if b = 0 then none else some (.int k (k.wrap (a.tdiv b))) := by simp [binA]
@[simp] theorem bin_eqlb (e a b) : binA e .eql (.bool a) (.bool b) = e.map .bool := by simp [binA]
@[simp] theorem bin_neqb (e a b) : binA e .neq (.bool a) (.bool b) = e.map fun b => .bool (!b) := by simp [binA]
@[simp] theorem bin_eqls (e a b) : binA e .eql (.str a) (.str b) = some (.bool (a.toList == b.toList)) := by simp [binA]
@[simp] theorem bin_neqs (e a b) : binA e .neq (.str a) (.str b) = some (.bool (!(a.toList == b.toList))) := by simp [binA]
@[simp] theorem bin_eqla (e a b) : binA e .eql (.agg a) (.agg b) = e.map .bool := by simp [binA]
@[simp] theorem bin_neqa (e a b) : binA e .neq (.agg a) (.agg b) = e.map fun b => .bool (!b) := by simp [binA]
@[simp] theorem bin_lss (e k a b) : binA e .lss (.int k a) (.int k b) = some (.bool (a < b)) := by simp [binA]
@[simp] theorem bin_leq (e k a b) : binA e .leq (.int k a) (.int k b) = some (.bool (a ≤ b)) := by simp [binA]
@[simp] theorem bin_gtr (e k a b) : binA e .gtr (.int k a) (.int k b) = some (.bool (b < a)) := by simp [binA]
@[simp] theorem bin_geq (e k a b) : binA e .geq (.int k a) (.int k b) = some (.bool (b ≤ a)) := by simp [binA]

@[simp] theorem ev_tmp (s : St) (t) : s.ev (.tmp t) = s.t t := rfl
@[simp] theorem ev_bool (s : St) (b) : s.ev (.const (.bool b)) = .bool b := rfl
@[simp] theorem ev_int (s : St) (k n) : s.ev (.const (.int k n)) = .int k n := rfl
@[simp] theorem ev_str (s : St) (b) : s.ev (.const (.string b)) = .str b := rfl
@[simp] theorem ev_nil (s : St) : s.ev (.const (.slice none 0 0)) = .nil := rfl
@[simp] theorem ev_fn (s : St) (f) : s.ev (.func f) = .fn f [] := rfl
@[simp] theorem put_some (t h nx d v) : St.put ⟨t, h, nx⟩ (some d) v = ⟨upd t d v, h, nx⟩ := rfl
@[simp] theorem put_none (s : St) (v) : s.put none v = s := rfl
@[simp] theorem upd_at {α : Type} (f : Nat → α) (i j : Nat) (v : α) : upd f i v j = if j = i then v else f j := rfl

@[simp] theorem argT_0 (a l) : argT (a :: l) 0 = a := rfl
@[simp] theorem argT_s (a l n) : argT (a :: l) (n + 1) = argT l n := rfl

def condS (C : Ctx) (v : AV) (x y : Code) (st : St) (k : Kont) : Prop := ∃ b, v = .bool b ∧ (b = true → goC C x st k) ∧ (b = false → goC C y st k)
@[simp] theorem go_cond (c x y) (st : St) (k : Kont) : goC C (.cond c x y) st k = condS C (st.ev c) x y st k := propext Iff.rfl
@[simp] theorem condS_true (x y) (st : St) (k : Kont) : condS C (.bool true) x y st k = goC C x st k := by simp [condS]
@[simp] theorem condS_false (x y) (st : St) (k : Kont) : condS C (.bool false) x y st k = goC C y st k := by simp [condS]
theorem condS_split {b x y} {st : St} {k : Kont} (h1 : b = true → goC C x st k) (h2 : b = false → goC C y st k) : condS C (.bool b) x y st k := ⟨b, rfl, h1, h2⟩


def runN (C : Ctx) (n : Nxt) (st : St) : Prop := runS C n.n0 n.gd n.i n.os st n.k
@[simp] theorem runN_mk (n0 gd i os k) (st : St) : runN C ⟨n0, gd, i, os, k⟩ st = runS C n0 gd i os st k := propext Iff.rfl

def allocS (C : Ctx) (id : Nat) (n : Nxt) (d : Option Tmp) (ty : Option TyD) (st : St) : Prop := ∃ dT, ty = some dT ∧ runN C n ((st.new id (.obj dT.zero)).put d (.ptr id 0))
@[simp] theorem run_alloc (d e ty ps af n0 gd i os) (st : St) (k : Kont) :
    runS C n0 gd i (⟨d, .alloc e, ty, ps, af, none⟩ :: os) st k = allocS C (n0 + i) ⟨n0, gd, i + 1, os, k⟩ d (C.ty e) st := propext Iff.rfl
@[simp] theorem allocS_some (id n d dT) (st : St) : allocS C id n d (some dT) st = runN C n ((st.new id (.obj dT.zero)).put d (.ptr id 0)) := by simp [allocS]
@[simp] theorem new_mk (t h nx id e) : St.new ⟨t, h, nx⟩ id e = ⟨t, upd h id (some e), nx⟩ := rfl

@[simp] theorem run_box (d e x ty ps af n0 gd i os) (st : St) (k : Kont) :
    runS C n0 gd i (⟨d, .box e x, ty, ps, af, none⟩ :: os) st k = ((st.ev x).known = true ∧ runS C n0 gd (i + 1) os ((st.new (n0 + i) (.obj (st.ev x).cells)).put d (.ptr (n0 + i) 0)) k) := propext Iff.rfl
@[simp] theorem known_bool (b) : (AV.bool b).known = true := rfl
@[simp] theorem known_int (k n) : (AV.int k n).known = true := rfl
@[simp] theorem known_str (k) : (AV.str k).known = true := rfl
@[simp] theorem known_nil : AV.nil.known = true := rfl
@[simp] theorem known_view (p s x) : (AV.view p s x).known = true := rfl
@[simp] theorem known_ref (i s o l) : (AV.ref i s o l).known = true := rfl
@[simp] theorem known_ptr (i o) : (AV.ptr i o).known = true := rfl
@[simp] theorem known_ep (i x o) : (AV.ep i x o).known = true := rfl
@[simp] theorem known_vptr (c) : (AV.vptr c).known = true := rfl
@[simp] theorem known_fn (f c) : (AV.fn f c).known = true := rfl
@[simp] theorem known_bnd (f c) : (AV.bnd f c).known = true := rfl
@[simp] theorem known_agg (c) : (AV.agg c).known = true := rfl
@[simp] theorem known_tup (c) : (AV.tup c).known = true := rfl
@[simp] theorem one_bool (b) : (AV.bool b).one = true := rfl
@[simp] theorem one_int (k n) : (AV.int k n).one = true := rfl
@[simp] theorem one_str (k) : (AV.str k).one = true := rfl
@[simp] theorem one_nil : AV.nil.one = true := rfl
@[simp] theorem one_view (p s x) : (AV.view p s x).one = true := rfl
@[simp] theorem one_ref (i s o l) : (AV.ref i s o l).one = true := rfl
@[simp] theorem one_ptr (i o) : (AV.ptr i o).one = true := rfl
@[simp] theorem one_ep (i x o) : (AV.ep i x o).one = true := rfl
@[simp] theorem one_vptr (c) : (AV.vptr c).one = true := rfl
@[simp] theorem one_fn (f c) : (AV.fn f c).one = true := rfl
@[simp] theorem one_bnd (f c) : (AV.bnd f c).one = true := rfl
@[simp] theorem cells_agg (c) : (AV.agg c).cells = c := rfl
@[simp] theorem cells_bool (b) : (AV.bool b).cells = [.bool b] := rfl
@[simp] theorem cells_int (k n) : (AV.int k n).cells = [.int k n] := rfl
@[simp] theorem cells_str (b) : (AV.str b).cells = [.str b] := rfl
@[simp] theorem cells_nil : AV.nil.cells = [.nil] := rfl
@[simp] theorem cells_view (p s x) : (AV.view p s x).cells = [.view p s x] := rfl
@[simp] theorem cells_ref (i s o l) : (AV.ref i s o l).cells = [.ref i s o l] := rfl
@[simp] theorem cells_ptr (i o) : (AV.ptr i o).cells = [.ptr i o] := rfl
@[simp] theorem cells_fn (i o) : (AV.fn i o).cells = [.fn i o] := rfl
@[simp] theorem cells_bnd (i o) : (AV.bnd i o).cells = [.bnd i o] := rfl

def valS (C : Ctx) (n : Nxt) (d : Option Tmp) (v : Option AV) (st : St) : Prop := ∃ u, v = some u ∧ runN C n (st.put d u)
@[simp] theorem valS_some (n d v) (st : St) : valS C n d (some v) st = runN C n (st.put d v) := by simp [valS]

def loadH (C : Ctx) (n : Nxt) (d : Option Tmp) (dT : TyD) (off : Nat) (e : Option Ent) (st : St) : Prop := ∃ cells, e = some (.obj cells) ∧ valS C n d (loadA dT cells off) st
def loadE (C : Ctx) (n : Nxt) (d : Option Tmp) (dT : TyD) (idx off : Nat) (e : Option Ent) (st : St) : Prop :=
  ∃ sz xs, e = some (.row sz xs) ∧ idx < xs.length ∧ ∀ cells, xs[idx]? = some cells → valS C n d (loadA dT cells off) st
def loadS (C : Ctx) (n : Nxt) (d : Option Tmp) (ty : Option TyD) (a : AV) (st : St) : Prop :=
  match a with
  | .ptr p off => ∃ dT, ty = some dT ∧ loadH C n d dT off (st.h p) st
  | .ep p idx off => ∃ dT, ty = some dT ∧ loadE C n d dT idx off (st.h p) st
  | .vptr cells => ∃ dT, ty = some dT ∧ valS C n d (loadA dT cells 0) st
  | _ => False
@[simp] theorem run_load (d t a ty ps af n0 gd i os) (st : St) (k : Kont) :
    runS C n0 gd i (⟨d, .load t a, ty, ps, af, none⟩ :: os) st k = loadS C ⟨n0, gd, i + 1, os, k⟩ d (C.ty t) (st.ev a) st := by
  simp only [runS, runA, stepA, loadS, loadH, loadE, valS, runN]
  apply propext
  generalize st.ev a = av
  cases av
  case ptr => exact ⟨fun ⟨dT, cells, v, h1, h2, h3, h4⟩ => ⟨dT, h1, cells, h2, v, h3, h4⟩, fun ⟨dT, h1, cells, h2, v, h3, h4⟩ => ⟨dT, cells, v, h1, h2, h3, h4⟩⟩
  case ep => exact ⟨fun ⟨dT, sz, xs, h1, h2, h3, h4⟩ => ⟨dT, h1, sz, xs, h2, h3, h4⟩, fun ⟨dT, h1, sz, xs, h2, h3, h4⟩ => ⟨dT, sz, xs, h1, h2, h3, h4⟩⟩
  case vptr => exact ⟨fun ⟨dT, v, h1, h2, h3⟩ => ⟨dT, h1, v, h2, h3⟩, fun ⟨dT, h1, v, h2, h3⟩ => ⟨dT, v, h1, h2, h3⟩⟩
  all_goals exact Iff.rfl
@[simp] theorem loadS_ptr (n d dT p off) (st : St) : loadS C n d (some dT) (.ptr p off) st = loadH C n d dT off (st.h p) st := by simp [loadS]
@[simp] theorem loadS_ep (n d dT p idx off) (st : St) : loadS C n d (some dT) (.ep p idx off) st = loadE C n d dT idx off (st.h p) st := by simp [loadS]
@[simp] theorem loadS_vptr (n d dT cells) (st : St) : loadS C n d (some dT) (.vptr cells) st = valS C n d (loadA dT cells 0) st := by simp [loadS]
@[simp] theorem loadH_obj (n d dT off cells) (st : St) : loadH C n d dT off (some (.obj cells)) st = valS C n d (loadA dT cells off) st := by simp [loadH]
theorem loadE_row {n d dT idx off sz xs cells} {st : St} (h : xs[idx]? = some cells) (hr : valS C n d (loadA dT cells off) st) : loadE C n d dT idx off (some (.row sz xs)) st :=
  ⟨sz, xs, rfl, (List.getElem?_eq_some_iff.1 h).1, fun c hc => by rw [h] at hc; cases hc; exact hr⟩
@[simp] theorem loadA_agg (s b z e ik is f cells off) : loadA ⟨s, b, true, z, e, ik, is, f⟩ cells off = if off + s ≤ cells.length then some (.agg ((cells.drop off).take s)) else none := by simp [loadA]
@[simp] theorem loadA_one (s b z e ik is f cells off) : loadA ⟨s, b, false, z, e, ik, is, f⟩ cells off = cells[off]? := by simp [loadA]

def storeH (C : Ctx) (n : Nxt) (d : Option Tmp) (dT : TyD) (p off : Nat) (e : Option Ent) (vs : List AV) (st : St) : Prop :=
  ∃ cells, e = some (.obj cells) ∧ vs.length = dT.size ∧ off + dT.size ≤ cells.length ∧ runN C n ({ st with h := upd st.h p (some (.obj (splice cells off vs))) }.put d .dead)
def storeE (C : Ctx) (n : Nxt) (d : Option Tmp) (dT : TyD) (p idx off : Nat) (vs : List AV) (st : St) : Prop :=
  ∃ sz xs ws h', frz st.h vs = some (ws, h') ∧ h' p = some (.row sz xs) ∧ ws.length = dT.size ∧ off + dT.size ≤ sz ∧ idx < xs.length ∧
        ∀ cells, xs[idx]? = some cells → runN C n ({ st with h := upd h' p (some (.row sz (xs.set idx (splice cells off ws)))) }.put d .dead)
def storeS (C : Ctx) (n : Nxt) (d : Option Tmp) (ty : Option TyD) (a : AV) (vs : List AV) (st : St) : Prop :=
  vs.all AV.one = true ∧
  match a with
  | .ptr p off => ∃ dT, ty = some dT ∧ storeH C n d dT p off (st.h p) vs st
  | .ep p idx off => ∃ dT, ty = some dT ∧ storeE C n d dT p idx off vs st
  | _ => False
@[simp] theorem run_store (d t a x ty ps af n0 gd i os) (st : St) (k : Kont) :
    runS C n0 gd i (⟨d, .store t a x, ty, ps, af, none⟩ :: os) st k = storeS C ⟨n0, gd, i + 1, os, k⟩ d (C.ty t) (st.ev a) (st.ev x).cells st := by
  simp only [runS, runA, stepA, storeS, storeH, storeE, runN]
  apply propext
  refine and_congr Iff.rfl ?_
  generalize st.ev a = av
  cases av
  case ptr => exact ⟨fun ⟨dT, cells, h1, h2, h3, h4, h5⟩ => ⟨dT, h1, cells, h2, h3, h4, h5⟩, fun ⟨dT, h1, cells, h2, h3, h4, h5⟩ => ⟨dT, cells, h1, h2, h3, h4, h5⟩⟩
  case ep => exact ⟨fun ⟨dT, sz, xs, vs, h', h1, h2, h3, h4, h5, h6, h7⟩ => ⟨dT, h1, sz, xs, vs, h', h2, h3, h4, h5, h6, h7⟩, fun ⟨dT, h1, sz, xs, vs, h', h2, h3, h4, h5, h6, h7⟩ => ⟨dT, sz, xs, vs, h', h1, h2, h3, h4, h5, h6, h7⟩⟩
  all_goals exact Iff.rfl
@[simp] theorem storeS_ptr (n d dT p off vs) (st : St) : storeS C n d (some dT) (.ptr p off) vs st = (vs.all AV.one = true ∧ storeH C n d dT p off (st.h p) vs st) := by simp [storeS]
@[simp] theorem storeS_ep (n d dT p idx off vs) (st : St) : storeS C n d (some dT) (.ep p idx off) vs st = (vs.all AV.one = true ∧ storeE C n d dT p idx off vs st) := by simp [storeS]
@[simp] theorem storeH_obj (n d dT p off cells vs) (st : St) : storeH C n d dT p off (some (.obj cells)) vs st =
    (vs.length = dT.size ∧ off + dT.size ≤ cells.length ∧ runN C n ({ st with h := upd st.h p (some (.obj (splice cells off vs))) }.put d .dead)) := by simp [storeH]
@[simp] theorem splice_mk (cs off vs) : splice cs off vs = cs.take off ++ vs ++ cs.drop (off + vs.length) := rfl

def faddrS (C : Ctx) (n : Nxt) (d : Option Tmp) (f : Option (Nat × Nat × TypeId)) (a : AV) (st : St) : Prop :=
  ∃ off sz ft, f = some (off, sz, ft) ∧ 0 < sz ∧
   match a with
   | .ptr p o1 => runN C n (st.put d (.ptr p (o1 + off)))
   | .ep p i o1 => runN C n (st.put d (.ep p i (o1 + off)))
   | .vptr cells => runN C n (st.put d (.vptr (cells.drop off)))
   | _ => False
def fieldOf (ty : Option TyD) (f : Nat) : Option (Nat × Nat × TypeId) := ty.bind fun d => if d.agg then d.fields[f]? else none
@[simp] theorem fieldOf_mk (s b z e ik is fs f) : fieldOf (some ⟨s, b, true, z, e, ik, is, fs⟩) f = fs[f]? := by simp [fieldOf]
@[simp] theorem run_faddr (d s x f ty ps af n0 gd i os) (st : St) (k : Kont) :
    runS C n0 gd i (⟨d, .fieldAddr s x f, ty, ps, af, none⟩ :: os) st k = faddrS C ⟨n0, gd, i + 1, os, k⟩ d (fieldOf (C.ty s) f) (st.ev x) st := by
  simp only [runS, runA, stepA, faddrS, fieldOf, runN]
  apply propext
  constructor
  · rintro ⟨dT, off, sz, ft, h1, h2, h3, h4, h5⟩; exact ⟨off, sz, ft, by simp [h1, h2, h3], h4, h5⟩
  · rintro ⟨off, sz, ft, h1, h4, h5⟩
    cases hty : C.ty s with
    | none => simp [hty] at h1
    | some dT =>
      simp only [hty, Option.bind_some] at h1
      split at h1
      · exact ⟨dT, off, sz, ft, rfl, by assumption, h1, h4, h5⟩
      · cases h1
@[simp] theorem faddrS_ptr (n d off sz ft p o1) (st : St) : faddrS C n d (some (off, sz, ft)) (.ptr p o1) st = (0 < sz ∧ runN C n (st.put d (.ptr p (o1 + off)))) := by
  exact propext ⟨fun ⟨_, _, _, h1, h2, h3⟩ => by cases h1; exact ⟨h2, h3⟩, fun ⟨h2, h3⟩ => ⟨_, _, _, rfl, h2, h3⟩⟩
@[simp] theorem faddrS_ep (n d off sz ft p i o1) (st : St) : faddrS C n d (some (off, sz, ft)) (.ep p i o1) st = (0 < sz ∧ runN C n (st.put d (.ep p i (o1 + off)))) := by
  exact propext ⟨fun ⟨_, _, _, h1, h2, h3⟩ => by cases h1; exact ⟨h2, h3⟩, fun ⟨h2, h3⟩ => ⟨_, _, _, rfl, h2, h3⟩⟩
@[simp] theorem faddrS_vptr (n d off sz ft cells) (st : St) : faddrS C n d (some (off, sz, ft)) (.vptr cells) st = (0 < sz ∧ runN C n (st.put d (.vptr (cells.drop off)))) := by
  exact propext ⟨fun ⟨_, _, _, h1, h2, h3⟩ => by cases h1; exact ⟨h2, h3⟩, fun ⟨h2, h3⟩ => ⟨_, _, _, rfl, h2, h3⟩⟩

def elemOf (C : Ctx) (t : TypeId) : Option TyD := ((C.ty t).bind (·.elem)).bind C.ty

def iaddrS (C : Ctx) (n : Nxt) (d : Option Tmp) (de : Option TyD) (x i : AV) (st : St) : Prop :=
  ∃ e k z, de = some e ∧ i = .int k z ∧
  match x with
  | .view _ sz xs => sz = e.size ∧ (0 ≤ z ∧ z < xs.length) ∧ ∀ cells, xs[z.toNat]? = some cells → runN C n (st.put d (.vptr cells))
  | .ref r s off len => s = e.size ∧ (0 ≤ z ∧ z < len) ∧ runN C n (st.put d (.ep r (off + z.toNat) 0))
  | _ => False
@[simp] theorem run_iaddr (d t x j ty ps af n0 gd i os) (st : St) (k : Kont) :
    runS C n0 gd i (⟨d, .indexAddr t x j, ty, ps, af, none⟩ :: os) st k = iaddrS C ⟨n0, gd, i + 1, os, k⟩ d (elemOf C t) (st.ev x) (st.ev j) st := by
  simp only [runS, runA, stepA, iaddrS, elemOf, runN]
  apply propext
  constructor
  · rintro ⟨dT, e, de, kk, z, h1, h2, h3, h4, h5⟩; exact ⟨de, kk, z, by simp [h1, h2, h3], h4, h5⟩
  · rintro ⟨de, kk, z, h1, h4, h5⟩
    simp only [Option.bind_eq_some_iff] at h1
    obtain ⟨e, ⟨dT, h1, h2⟩, h3⟩ := h1
    exact ⟨dT, e, de, kk, z, h1, h2, h3, h4, h5⟩
theorem iaddr_view {n d e p sz xs kk} {z : Int} {cells} {st : St} (hs : sz = e.size) (h0 : 0 ≤ z) (hc : xs[z.toNat]? = some cells) (hr : runN C n (st.put d (.vptr cells))) :
    iaddrS C n d (some e) (.view p sz xs) (.int kk z) st := by
  have hlt := (List.getElem?_eq_some_iff.1 hc).1
  exact ⟨e, kk, z, rfl, rfl, hs, ⟨h0, by omega⟩, fun c h => by rw [hc] at h; cases h; exact hr⟩
theorem iaddr_ref {n d e r s off kk} {len : Nat} {z : Int} {st : St} (hs : s = e.size) (h0 : 0 ≤ z) (h1 : z < len) (hr : runN C n (st.put d (.ep r (off + z.toNat) 0))) :
    iaddrS C n d (some e) (.ref r s off len) (.int kk z) st := ⟨e, kk, z, rfl, rfl, hs, ⟨h0, h1⟩, hr⟩

def doCall (C : Ctx) (n : Nxt) (d : Option Tmp) (g : FuncId) (args : List AV) (st : St) : Prop :=
  ACall C.P g args st.h st.nx fun r h' nx' => runN C n (({ st with h := h', nx := nx' } : St).put d r)
def callS (C : Ctx) (n : Nxt) (d : Option Tmp) (f : AV) (args : List AV) (st : St) : Prop :=
  match f with
  | .fn g caps => doCall C n d g (args ++ caps) st
  | .bnd g fs => doCall C n d g (fs ++ args) st
  | _ => False
@[simp] theorem run_call (d f args ats ty ps af n0 gd i os) (st : St) (k : Kont) :
    runS C n0 gd i (⟨d, .call ⟨.value f, args, ats⟩, ty, ps, af, none⟩ :: os) st k = callS C ⟨n0, gd, i + 1, os, k⟩ d (st.ev f) (args.toList.map st.ev) st := by
  simp only [runS, runA, stepA, callS, doCall, runN]
  cases st.ev f <;> rfl
@[simp] theorem callS_bnd (n d g fs args) (st : St) : callS C n d (.bnd g fs) args st = doCall C n d g (fs ++ args) st := propext Iff.rfl
@[simp] theorem callS_fn (n d g caps args) (st : St) : callS C n d (.fn g caps) args st = doCall C n d g (args ++ caps) st := propext Iff.rfl

def lenS (C : Ctx) (n : Nxt) (d : Option Tmp) (ty : Option TyD) (l : Option (Nat × Bool)) (st : St) : Prop :=
  ∃ dT m b, ty = some dT ∧ l = some (m, b) ∧ (if b then dT.elem.isSome = true else dT.isStr = true) ∧ ((b = true → m ≤ LIM) → runN C n (st.put d (.int .i64 m)))
@[simp] theorem run_len (d x t ty ps af n0 gd i os) (st : St) (k : Kont) :
    runS C n0 gd i (⟨d, .call ⟨.builtin .len, #[x], #[t]⟩, ty, ps, af, none⟩ :: os) st k = lenS C ⟨n0, gd, i + 1, os, k⟩ d (C.ty t) (lenA (st.ev x)) st := propext Iff.rfl
theorem lenS_slice {n d dT m} {st : St} (he : dT.elem.isSome = true) (h : m ≤ LIM → runN C n (st.put d (.int .i64 m))) : lenS C n d (some dT) (some (m, true)) st :=
  ⟨dT, m, true, rfl, rfl, he, fun h' => h (h' rfl)⟩
@[simp] theorem lenS_str (n d s b z e ik f m) (st : St) : lenS C n d (some ⟨s, b, false, z, e, ik, true, f⟩) (some (m, false)) st = runN C n (st.put d (.int .i64 m)) := by
  simp [lenS]
@[simp] theorem lenA_nil : lenA .nil = some (0, true) := rfl
@[simp] theorem lenA_view (p s xs) : lenA (.view p s xs) = some (xs.length, true) := rfl
@[simp] theorem lenA_ref (i s o l) : lenA (.ref i s o l) = some (l, true) := rfl
@[simp] theorem lenA_str (s) : lenA (.str s) = some (s.size, false) := rfl

def notS (C : Ctx) (n : Nxt) (d : Option Tmp) (v : AV) (st : St) : Prop := match v with | .bool b => runN C n (st.put d (.bool !b)) | _ => False
@[simp] theorem run_not (d t x ty ps af n0 gd i os) (st : St) (k : Kont) : runS C n0 gd i (⟨d, .unOp .not t x, ty, ps, af, none⟩ :: os) st k = notS C ⟨n0, gd, i + 1, os, k⟩ d (st.ev x) st := by
  simp only [runS, runA, stepA, notS, runN]; cases st.ev x <;> rfl
@[simp] theorem notS_bool (n d b) (st : St) : notS C n d (.bool b) st = runN C n (st.put d (.bool !b)) := propext Iff.rfl
def negS (C : Ctx) (n : Nxt) (d : Option Tmp) (v : AV) (st : St) : Prop := match v with | .int k z => runN C n (st.put d (.int k (k.wrap (0 - z)))) | _ => False
@[simp] theorem run_neg (d t x ty ps af n0 gd i os) (st : St) (k : Kont) : runS C n0 gd i (⟨d, .unOp .neg t x, ty, ps, af, none⟩ :: os) st k = negS C ⟨n0, gd, i + 1, os, k⟩ d (st.ev x) st := by
  simp only [runS, runA, stepA, negS, runN]; cases st.ev x <;> rfl
@[simp] theorem negS_int (n d k z) (st : St) : negS C n d (.int k z) st = runN C n (st.put d (.int k (k.wrap (0 - z)))) := propext Iff.rfl

def convS (C : Ctx) (n : Nxt) (d : Option Tmp) (ts tyd : Option TyD) (v : AV) (st : St) : Prop :=
  match v with
  | .int _ z => ∃ ds dT k, ts = some ds ∧ tyd = some dT ∧ dT.ik = some k ∧ runN C n (st.put d (.int k (k.wrap z)))
  | _ => False
@[simp] theorem run_conv (d s t x ty ps af n0 gd i os) (st : St) (k : Kont) : runS C n0 gd i (⟨d, .convert s t x, ty, ps, af, none⟩ :: os) st k = convS C ⟨n0, gd, i + 1, os, k⟩ d (C.ty s) (C.ty t) (st.ev x) st := by
  simp only [runS, runA, stepA, convS, runN]; cases st.ev x <;> rfl
@[simp] theorem convS_int (n d ds s b a z e kk is f k v) (st : St) : convS C n d (some ds) (some ⟨s, b, a, z, e, some kk, is, f⟩) (.int k v) st = runN C n (st.put d (.int kk (kk.wrap v))) := by
  simp [convS]

@[simp] theorem run_mkfn (d f caps ty ps af n0 gd i os) (st : St) (k : Kont) :
    runS C n0 gd i (⟨d, .makeFunc (.func f) #[] caps, ty, ps, af, none⟩ :: os) st k = runS C n0 gd (i + 1) os (st.put d (.fn f (caps.toList.map st.ev))) k := by
  simp [runS, runA, stepA]

@[simp] theorem run_mkbnd (d f x fs ty ps af n0 gd i os) (st : St) (k : Kont) :
    runS C n0 gd i (⟨d, .makeFunc (.func f) ⟨x :: fs⟩ #[], ty, ps, af, none⟩ :: os) st k = runS C n0 gd (i + 1) os (st.put d (.bnd f ((x :: fs).map st.ev))) k := by
  simp [runS, runA, stepA]
def extrS (C : Ctx) (n : Nxt) (d : Option Tmp) (v : AV) (j : Nat) (st : St) : Prop := match v with | .tup vs => valS C n d vs[j]? st | _ => False
@[simp] theorem run_extr (d x j ty ps af n0 gd i os) (st : St) (k : Kont) : runS C n0 gd i (⟨d, .extract x j, ty, ps, af, none⟩ :: os) st k = extrS C ⟨n0, gd, i + 1, os, k⟩ d (st.ev x) j st := by
  simp only [runS, runA, stepA, extrS, runN, valS]; cases st.ev x <;> rfl
@[simp] theorem extrS_tup (n d vs j) (st : St) : extrS C n d (.tup vs) j st = valS C n d vs[j]? st := propext Iff.rfl

def nilS (C : Ctx) (n : Nxt) (d : Option Tmp) (v : AV) (st : St) : Prop := (match v with | .ptr .. | .ep .. | .vptr _ => True | _ => False) ∧ runN C n (st.put d v)
@[simp] theorem run_nilc (d x ty ps af n0 gd i os) (st : St) (k : Kont) : runS C n0 gd i (⟨d, .nilCheck x, ty, ps, af, none⟩ :: os) st k = nilS C ⟨n0, gd, i + 1, os, k⟩ d (st.ev x) st := propext Iff.rfl
@[simp] theorem nilS_ptr (n d p o) (st : St) : nilS C n d (.ptr p o) st = runN C n (st.put d (.ptr p o)) := by simp [nilS]
@[simp] theorem nilS_ep (n d p x o) (st : St) : nilS C n d (.ep p x o) st = runN C n (st.put d (.ep p x o)) := by simp [nilS]
@[simp] theorem nilS_vptr (n d c) (st : St) : nilS C n d (.vptr c) st = runN C n (st.put d (.vptr c)) := by simp [nilS]

def fieldS (C : Ctx) (n : Nxt) (d : Option Tmp) (f : Option (Nat × Nat × TypeId)) (v : AV) (st : St) : Prop :=
  ∃ off sz ft dt, f = some (off, sz, ft) ∧ C.ty ft = some dt ∧ match v with | .agg cells => valS C n d (loadA dt cells off) st | _ => False
@[simp] theorem run_field (d t x f ty ps af n0 gd i os) (st : St) (k : Kont) :
    runS C n0 gd i (⟨d, .field t x f, ty, ps, af, none⟩ :: os) st k = fieldS C ⟨n0, gd, i + 1, os, k⟩ d (fieldOf (C.ty t) f) (st.ev x) st := by
  simp only [runS, runA, stepA, fieldS, fieldOf, runN, valS]
  apply propext
  constructor
  · rintro ⟨dT, off, sz, ft, dt, v, h1, h2, h3, h4, h5⟩
    refine ⟨off, sz, ft, dt, by simp [h1, h2, h3], h4, ?_⟩
    cases hx : st.ev x <;> simp only [hx] at h5 ⊢ <;> first | exact h5.elim | exact ⟨v, h5⟩
  · rintro ⟨off, sz, ft, dt, h1, h4, h5⟩
    cases hty : C.ty t with
    | none => simp [hty] at h1
    | some dT =>
      simp only [hty, Option.bind_some] at h1
      split at h1
      · cases hx : st.ev x <;> simp only [hx] at h5 ⊢ <;> first | exact h5.elim | (obtain ⟨v, h5⟩ := h5; exact ⟨dT, off, sz, ft, dt, v, rfl, by assumption, h1, h4, h5⟩)
      · cases h1

def buildS (C : Ctx) (n : Nxt) (d : Option Tmp) (ty : Option TyD) (parts : List (Nat × AV)) (st : St) : Prop :=
  ∃ dT, ty = some dT ∧ dT.agg = true ∧ (parts.all fun p => p.2.known) = true ∧ valS C n d ((fillA (dT.fields.map fun f => (f.1, f.2.1)) parts dT.zero).map .agg) st
@[simp] theorem run_build (d t parts ty ps af n0 gd i os) (st : St) (k : Kont) :
    runS C n0 gd i (⟨d, .build t parts, ty, ps, af, none⟩ :: os) st k = buildS C ⟨n0, gd, i + 1, os, k⟩ d (C.ty t) (parts.toList.map fun p => (p.1, st.ev p.2)) st := by
  simp only [runS, runA, stepA, buildS, runN, valS, List.all_map, Function.comp_def]
  apply propext
  constructor
  · rintro ⟨dT, cs, h1, h2, h3, h4, h5⟩; exact ⟨dT, h1, h2, h3, _, by simp [h4], h5⟩
  · rintro ⟨dT, h1, h2, h3, v, h4, h5⟩
    simp only [Option.map_eq_some_iff] at h4
    obtain ⟨cs, h4, rfl⟩ := h4
    exact ⟨dT, cs, h1, h2, h3, h4, h5⟩
@[simp] theorem buildS_mk (n d s b z e ik is f parts) (st : St) : buildS C n d (some ⟨s, b, true, z, e, ik, is, f⟩) parts st =
    ((parts.all fun p => p.2.known) = true ∧ valS C n d ((fillA (f.map fun f => (f.1, f.2.1)) parts z).map .agg) st) := by simp [buildS]
@[simp] theorem fillA_nil (fs cs) : fillA fs [] cs = some cs := rfl
@[simp] theorem fillA_cons (fs i v r cs) : fillA fs ((i, v) :: r) cs = match fs[i]? with
    | some (off, size) => if v.cells.length = size ∧ off + size ≤ cs.length then fillA fs r (splice cs off v.cells) else none
    | none => none := rfl


@[simp] theorem frz_nil (h : Heap) : frz h [] = some ([], h) := by unfold frz; rfl
@[simp] theorem frz_bool (h : Heap) (b cs) : frz h (.bool b :: cs) = (frz h cs).map fun p => (.bool b :: p.1, p.2) := by rw [frz]; cases frz h cs <;> rfl
@[simp] theorem frz_int (h : Heap) (k n cs) : frz h (.int k n :: cs) = (frz h cs).map fun p => (.int k n :: p.1, p.2) := by rw [frz]; cases frz h cs <;> rfl
@[simp] theorem frz_str (h : Heap) (n cs) : frz h (.str n :: cs) = (frz h cs).map fun p => (.str n :: p.1, p.2) := by rw [frz]; cases frz h cs <;> rfl
@[simp] theorem frz_nilS (h : Heap) (cs) : frz h (.nil :: cs) = (frz h cs).map fun p => (.nil :: p.1, p.2) := by rw [frz]; cases frz h cs <;> rfl
@[simp] theorem frz_view (h : Heap) (q s x cs) : frz h (.view q s x :: cs) = (frz h cs).map fun p => (.view q s x :: p.1, p.2) := by rw [frz]; cases frz h cs <;> rfl
@[simp] theorem frz_ref (h : Heap) (i s o l cs) : frz h (.ref i s o l :: cs) = (frz h cs).map fun p => (.ref i s o l :: p.1, p.2) := by rw [frz]; cases frz h cs <;> rfl
@[simp] theorem frz_ptr (h : Heap) (i o cs) : frz h (.ptr i o :: cs) = (frz h cs).map fun p => (.ptr i o :: p.1, p.2) := by rw [frz]; cases frz h cs <;> rfl

def rowK (n : Nat) (r : List (Nat × AV)) (xs : List (List AV)) (i : Nat) : Option (List AV × Heap) → Option (List (List AV) × Heap)
  | some (cs, h') => rowA n h' r (xs.set i cs)
  | none => none
@[simp] theorem rowA_nil (n) (h : Heap) (xs) : rowA n h [] xs = some (xs, h) := by rw [rowA]
@[simp] theorem rowA_cons (n) (h : Heap) (i v r xs) : rowA n h ((i, v) :: r) xs = if v.cells.length = n ∧ i < xs.length ∧ v.known = true then rowK n r xs i (frz h v.cells) else none := by
  rw [rowA]; split
  · cases frz h v.cells <;> rfl
  · rfl
@[simp] theorem rowK_some (n r xs i cs) (h' : Heap) : rowK n r xs i (some (cs, h')) = rowA n h' r (xs.set i cs) := rfl

def bsliceK (C : Ctx) (id : Nat) (n : Nxt) (d : Option Tmp) (sz len : Nat) (st : St) (r : Option (List (List AV) × Heap)) : Prop :=
  ∃ xs h', r = some (xs, h') ∧ runN C n ((({ st with h := h' } : St).new id (.row sz xs)).put d (.ref id sz 0 len))
def bsliceS (C : Ctx) (id : Nat) (n : Nxt) (d : Option Tmp) (de : Option TyD) (len : Nat) (parts : List (Nat × AV)) (st : St) : Prop :=
  ∃ e, de = some e ∧ 0 < e.size ∧ len * e.size ≤ 2 ^ 24 ∧ e.zero.all AV.known = true ∧ bsliceK C id n d e.size len st (rowA e.size st.h parts (List.replicate len e.zero))
@[simp] theorem run_bslice (d t len parts ty ps af n0 gd i os) (st : St) (k : Kont) :
    runS C n0 gd i (⟨d, .buildSlice t len parts, ty, ps, af, none⟩ :: os) st k = bsliceS C (n0 + i) ⟨n0, gd, i + 1, os, k⟩ d (elemOf C t) len (parts.toList.map fun p => (p.1, st.ev p.2)) st := by
  simp only [runS, runA, stepA, bsliceS, bsliceK, elemOf, runN]
  apply propext
  constructor
  · rintro ⟨dT, e, de, xs, h', h1, h2, h3, h4, h5, h6, h7, h8⟩
    exact ⟨de, by simp [h1, h2, h3], h4, h5, h6, xs, h', h7, h8⟩
  · rintro ⟨de, h1, h4, h5, h6, xs, h', h7, h8⟩
    simp only [Option.bind_eq_some_iff] at h1
    obtain ⟨e, ⟨dT, h1, h2⟩, h3⟩ := h1
    exact ⟨dT, e, de, xs, h', h1, h2, h3, h4, h5, h6, h7, h8⟩
@[simp] theorem bsliceS_mk (id n d e len parts) (st : St) : bsliceS C id n d (some e) len parts st =
    (0 < e.size ∧ len * e.size ≤ 2 ^ 24 ∧ e.zero.all AV.known = true ∧ bsliceK C id n d e.size len st (rowA e.size st.h parts (List.replicate len e.zero))) := by
  simp [bsliceS]
@[simp] theorem bsliceK_some (id n d sz len) (st : St) (xs h') : bsliceK C id n d sz len st (some (xs, h')) = runN C n ((({ st with h := h' } : St).new id (.row sz xs)).put d (.ref id sz 0 len)) :=
  propext ⟨fun ⟨_, _, h1, h2⟩ => by cases h1; exact h2, fun h => ⟨_, _, rfl, h⟩⟩

def mksliceS (C : Ctx) (id : Nat) (n : Nxt) (d : Option Tmp) (de : Option TyD) (l c : AV) (st : St) : Prop :=
  ∃ e k k' z, de = some e ∧ l = .int k z ∧ c = .int k' z ∧ 0 < e.size ∧ e.bytes ≤ 128 ∧ 0 ≤ z ∧ z ≤ MLIM ∧ runN C n ((st.new id (.row e.size (List.replicate z.toNat e.zero))).put d (.ref id e.size 0 z.toNat))
@[simp] theorem run_mkslice (d t l c ty ps af n0 gd i os) (st : St) (k : Kont) :
    runS C n0 gd i (⟨d, .makeSlice t l c, ty, ps, af, none⟩ :: os) st k = mksliceS C (n0 + i) ⟨n0, gd, i + 1, os, k⟩ d (elemOf C t) (st.ev l) (st.ev c) st := by
  simp only [runS, runA, stepA, mksliceS, elemOf, runN]
  apply propext
  generalize st.ev l = lv
  generalize st.ev c = cv
  constructor
  · intro h
    cases lv <;> cases cv <;> first | exact h.elim | skip
    obtain ⟨dT, e, de, h1, h2, h3, h4, h5, rfl, h7, h8, h9⟩ := h
    exact ⟨de, _, _, _, by simp [h1, h2, h3], rfl, rfl, h4, h5, h7, h8, h9⟩
  · rintro ⟨de, k1, k2, z, h1, rfl, rfl, h4, h5, h7, h8, h9⟩
    simp only [Option.bind_eq_some_iff] at h1
    obtain ⟨e, ⟨dT, h1, h2⟩, h3⟩ := h1
    exact ⟨dT, e, de, h1, h2, h3, h4, h5, rfl, h7, h8, h9⟩
@[simp] theorem mksliceS_mk (id n d e k k' z) (st : St) : mksliceS C id n d (some e) (.int k z) (.int k' z) st =
    (0 < e.size ∧ e.bytes ≤ 128 ∧ 0 ≤ z ∧ z ≤ MLIM ∧ runN C n ((st.new id (.row e.size (List.replicate z.toNat e.zero))).put d (.ref id e.size 0 z.toNat))) := by
  apply propext
  constructor
  · rintro ⟨e', a, b, c, h1, h2, h3, h⟩; cases h1; cases h2; exact h
  · intro h; exact ⟨e, k, k', z, rfl, rfl, rfl, h⟩

def sliceG (de : Option TyD) (x : AV) (lo hi : Option AV) (K : AV → Prop) : Prop :=
  ∃ e m l h, de = some e ∧ lenA x = some (m, true) ∧ bounds m lo hi l h ∧ h ≤ m ∧
      (match x with
       | .nil => K .nil
       | .view p sz xs => sz = e.size ∧ K (.view p sz ((xs.drop l).take (h - l)))
       | .ref r s off _ => s = e.size ∧ K (.ref r s (off + l) (h - l))
       | _ => False)
theorem sliceG_of {t x lo hi} {st : St} {K : AV → Prop} : sliceA C t x lo hi st K = sliceG (elemOf C t) (st.ev x) (lo.map st.ev) (hi.map st.ev) K := by
  unfold sliceA sliceG elemOf
  apply propext
  constructor
  · rintro ⟨dT, e, de, m, l, h, h1, h2, h3, h4, h5, h6, h7⟩
    exact ⟨de, m, l, h, by simp [h1, h2, h3], h4, h5, h6, h7⟩
  · rintro ⟨de, m, l, h, h1, h4, h5, h6, h7⟩
    simp only [Option.bind_eq_some_iff] at h1
    obtain ⟨e, ⟨dT, h1, h2⟩, h3⟩ := h1
    exact ⟨dT, e, de, m, l, h, h1, h2, h3, h4, h5, h6, h7⟩
def sliceI (C : Ctx) (n0 : Nat) (gd : List (Option Tmp)) (r : List It) (k : Kont) (d : Option Tmp) (de : Option TyD) (x : AV) (lo hi : Option AV) (st : St) : Prop :=
  sliceG de x lo hi fun v => drS C n0 gd r (st.put d v) k
@[simp] theorem item_slice (d t x lo hi ty ps af n0 gd i r) (st : St) (k : Kont) :
    itemS C n0 gd i ⟨d, .slice t x lo hi none, ty, ps, af, none⟩ [] r st k = sliceI C n0 gd r k d (elemOf C t) (st.ev x) (lo.map st.ev) (hi.map st.ev) st := by
  unfold itemS stepG
  have : gOn (fun j => (gd[j]?).bind id) ⟨d, .slice t x lo hi none, ty, ps, af, none⟩ st.t = some true := rfl
  simp [this, stepD, clsOp, sliceI, sliceG_of]
def sliceS (C : Ctx) (n : Nxt) (d : Option Tmp) (de : Option TyD) (x : AV) (lo hi : Option AV) (st : St) : Prop :=
  sliceG de x lo hi (fun v => runN C n (st.put d v)) ∨
  ∃ e m l h r s off ws, de = some e ∧ x = .ref r s off m ∧ bounds m lo hi l h ∧ st.h r = some (.row s ws) ∧ s = e.size ∧ off + h ≤ ws.length ∧ runN C n (st.put d (.ref r s (off + l) (h - l)))
@[simp] theorem run_slice (d t x lo hi ty ps af n0 gd i os) (st : St) (k : Kont) :
    runS C n0 gd i (⟨d, .slice t x lo hi none, ty, ps, af, none⟩ :: os) st k = sliceS C ⟨n0, gd, i + 1, os, k⟩ d (elemOf C t) (st.ev x) (lo.map st.ev) (hi.map st.ev) st := by
  simp only [runS, runA, stepA, sliceS, sliceG_of, runN]
  apply propext
  constructor
  · rintro (⟨_, h⟩ | ⟨_, h⟩ | ⟨m, h, _⟩)
    · exact .inl h
    · right
      obtain ⟨dT, e, de, m, l, h', r, s, off, ws, h1, h2, h3, h4, h5, h6, h7, h8, h9⟩ := h
      exact ⟨de, m, l, h', r, s, off, ws, by simp [elemOf, h1, h2, h3], h4, h5, h6, h7, h8, h9⟩
    · cases h
  · rintro (h | ⟨de, m, l, h', r, s, off, ws, h1, h4, h5, h6, h7, h8, h9⟩)
    · exact .inl ⟨trivial, h⟩
    · simp only [elemOf, Option.bind_eq_some_iff] at h1
      obtain ⟨e, ⟨dT, h1, h2⟩, h3⟩ := h1
      exact .inr (.inl ⟨trivial, dT, e, de, m, l, h', r, s, off, ws, h1, h2, h3, h4, h5, h6, h7, h8, h9⟩)
def clrS (C : Ctx) (n : Nxt) (d : Option Tmp) (de : Option TyD) (x : AV) (st : St) : Prop :=
  ∃ e, de = some e ∧ match x with
    | .ref r s off len => ∃ ws, st.h r = some (.row s ws) ∧ s = e.size ∧ off + len = ws.length ∧ e.zero.all AV.one = true ∧ runN C n ({ st with h := upd st.h r (some (.row s (ws.take off))) }.put d .dead)
    | _ => False
@[simp] theorem run_clear (d x t ty ps af n0 gd i os) (st : St) (k : Kont) :
    runS C n0 gd i (⟨d, .call ⟨.builtin .clear, #[x], #[t]⟩, ty, ps, af, none⟩ :: os) st k = clrS C ⟨n0, gd, i + 1, os, k⟩ d (elemOf C t) (st.ev x) st := by
  simp only [runS, runA, stepA, clrS, elemOf, runN]
  apply propext
  constructor
  · rintro ⟨dT, e, de, h1, h2, h3, h4⟩; exact ⟨de, by simp [h1, h2, h3], h4⟩
  · rintro ⟨de, h1, h4⟩
    simp only [Option.bind_eq_some_iff] at h1
    obtain ⟨e, ⟨dT, h1, h2⟩, h3⟩ := h1
    exact ⟨dT, e, de, h1, h2, h3, h4⟩
def appS (C : Ctx) (id : Nat) (n : Nxt) (d : Option Tmp) (t : TypeId) (s x : AV) (st : St) : Prop := appendA C id s x t st fun r s' => runN C n (s'.put d r)
@[simp] theorem run_append (d s x t ty ps af n0 gd i os) (st : St) (k : Kont) :
    runS C n0 gd i (⟨d, .call ⟨.builtin .append, #[s, x], #[t, t]⟩, ty, ps, af, none⟩ :: os) st k = appS C (n0 + i) ⟨n0, gd, i + 1, os, k⟩ d t (st.ev s) (st.ev x) st := by
  simp [runS, runA, stepA, appS, runN]
def capX (C : Ctx) (n : Nxt) (d : Option Tmp) (t : Option TyD) (x : AV) (st : St) : Prop := ∃ dT e, t = some dT ∧ dT.elem = some e ∧ x = .nil ∧ runN C n (st.put d (.int .i64 0))
@[simp] theorem run_cap (d x t ty ps af n0 gd i os) (st : St) (k : Kont) :
    runS C n0 gd i (⟨d, .call ⟨.builtin .cap, #[x], #[t]⟩, ty, ps, af, none⟩ :: os) st k = capX C ⟨n0, gd, i + 1, os, k⟩ d (C.ty t) (st.ev x) st := propext Iff.rfl
@[simp] theorem rowOf_nil (h : Heap) (sz) : rowOf h sz .nil = some [] := rfl
@[simp] theorem rowOf_view (h : Heap) (sz p s xs) : rowOf h sz (.view p s xs) = if s = sz then some xs else none := rfl
def rowOfE (sz s0 off len : Nat) : Option Ent → Option (List (List AV))
  | some (.row s xs) => if s = sz ∧ s0 = sz ∧ off + len ≤ xs.length then some ((xs.drop off).take len) else none
  | _ => none
@[simp] theorem rowOf_ref (h : Heap) (sz id s off len) : rowOf h sz (.ref id s off len) = rowOfE sz s off len (h id) := by
  cases hh : h id with
  | none => simp only [rowOf, hh]; rfl
  | some e => cases e <;> (simp only [rowOf, hh]; rfl)
@[simp] theorem rowOfE_row (sz s0 off len s xs) : rowOfE sz s0 off len (some (.row s xs)) = if s = sz ∧ s0 = sz ∧ off + len ≤ xs.length then some ((xs.drop off).take len) else none := rfl

def PC (P : Program) (f : FuncId) (args : List AV) (r : AV) : Prop := ∀ (h : Heap) (nx : Nat) (Q : AV → Heap → Nat → Prop), Q r h nx → ACall P f args h nx Q

theorem call_pc {n d g args r} {st : St} (hc : PC C.P g args r) (hr : runN C n (st.put d r)) : doCall C n d g args st := hc _ _ _ hr

theorem PC.of_body (ok : C.Ok) {f : FuncId} {fn : Func} {c : Code} {args : List AV} {r : AV} (hf : C.P.funcs[f]? = some fn) (hb : fn.body = some c)
    (hname : (fn.name == "runtime.NumGoroutine") = false) (hc : codeOk fn.ntmps c = true) (hargs : args.length ≤ fn.ntmps) (hp : Plain r)
    (hw : ∀ (h : Heap) (nx : Nat), (∀ j, h j ≠ none → j < nx) → goC C c ⟨argT args, h, nx⟩ (.fin (RetK C fn.results.toList fun r' h' _ => r' = r ∧ ∀ j, j < nx → h' j = h j))) : PC C.P f args r := by
  intro h nx Q hQ
  refine ⟨⟨fn, hf, hname, by simp [hb]⟩, fun ρ I w vs hnm H hv => ?_⟩
  have hlt : ∀ j, h j ≠ none → j < nx := by
    intro j hj
    cases he : h j with
    | none => exact absurd he hj
    | some e => obtain ⟨B, hB⟩ := (H.ent he).base; exact hnm j B hB
  have hcall := ACall.of_body (Q := fun r' h' _ => r' = r ∧ ∀ j, j < nx → h' j = h j) ok hf hb hname hc hargs (hw h nx hlt)
  have := ACall.pure (R := fun r' => r' = r) (Q := Q) (hcall.mono (Q' := fun r' h1 _ => (∀ id e, h id = some e → h1 id = some e) ∧ Plain r' ∧ r' = r) fun r' h' nx' ⟨h1, h2⟩ =>
    ⟨fun id e he => by rw [h2 id (hlt id (by rw [he]; simp))]; exact he, h1 ▸ hp, h1⟩) (fun r' hr => hr ▸ hQ)
  exact this.2 ρ I w vs hnm H hv

end
end Go.AE
end

section
/- Abstract machine: results that name no entry. -/
namespace Go.AE
section
variable {C : Ctx} {ρ : Names} {I : Imm} {w : World}

inductive Fz : AV → Prop
  | bool (b) : Fz (.bool b)
  | int (k n) : Fz (.int k n)
  | str (s) : Fz (.str s)
  | nil : Fz .nil
  | dead : Fz .dead
  | view (p sz) (xs : List (List AV)) : (∀ i j x, get2 xs i j = some x → Fz x) → Fz (.view p sz xs)
  | vptr (cells : List AV) : (∀ x ∈ cells, Fz x) → Fz (.vptr cells)
  | fn (f) (cells : List AV) : (∀ x ∈ cells, Fz x) → Fz (.fn f cells)
  | bnd (f) (cells : List AV) : (∀ x ∈ cells, Fz x) → Fz (.bnd f cells)
  | agg (cells : List AV) : (∀ x ∈ cells, Fz x) → Fz (.agg cells)
  | tup (cells : List AV) : (∀ x ∈ cells, Fz x) → Fz (.tup cells)

theorem Fz.vr {ρ' : Names} {x : AV} {u : Value} (h : VR ρ I w x u) (hp : Fz x) : VR ρ' I w x u := by
  induction h with
  | bool b => exact .bool b
  | int k n => exact .int k n
  | str s => exact .str s
  | nil => exact .nil
  | dead v => exact .dead v
  | viewNil p sz a c => exact .viewNil p sz a c
  | view p sz xs b off c h1 h2 h3 h4 h5 h6 ih =>
    cases hp with | view _ _ _ hp => exact .view p sz xs b off c h1 h2 h3 h4 h5 fun i j x u hx hu => ih i j x u hx hu (hp i j x hx)
  | vptr cells p b o h1 h2 h3 ih =>
    cases hp with | vptr _ hp => exact .vptr cells p b o h1 h2 fun i x u hx hu => ih i x u hx hu (hp x (List.mem_of_getElem? hx))
  | fn f caps vs h1 h2 ih => cases hp with | fn _ _ hp => exact .fn f caps vs h1 fun i x u hx hu => ih i x u hx hu (hp x (List.mem_of_getElem? hx))
  | bnd f caps vs h1 h2 ih => cases hp with | bnd _ _ hp => exact .bnd f caps vs h1 fun i x u hx hu => ih i x u hx hu (hp x (List.mem_of_getElem? hx))
  | agg cells vs h1 h2 ih => cases hp with | agg _ hp => exact .agg cells vs h1 fun i x u hx hu => ih i x u hx hu (hp x (List.mem_of_getElem? hx))
  | tup cells vs h1 h2 ih => cases hp with | tup _ hp => exact .tup cells vs h1 fun i x u hx hu => ih i x u hx hu (hp x (List.mem_of_getElem? hx))
  | _ => cases hp

def frzRef1 (h : Heap) (id off len : Nat) : Option Ent → Option (AV × Heap)
  | some (.row sz xs) => if off + len ≤ xs.length then some (.view true sz ((xs.drop off).take len), upd h id none) else none
  | _ => none
def frz1 (h : Heap) : AV → Option (AV × Heap)
  | .ref id _ off len => frzRef1 h id off len (h id)
  | .ptr .. | .ep .. | .agg _ | .tup _ => none
  | v => some (v, h)
def seqF (F : Heap → AV → Option (AV × Heap)) : Heap → List AV → Option (List AV × Heap)
  | h, [] => some ([], h)
  | h, v :: vs => (F h v).bind fun p => (seqF F p.2 vs).map fun q => (p.1 :: q.1, q.2)
def frzV (h : Heap) : AV → Option (AV × Heap)
  | .agg cs => (seqF frz1 h cs).map fun p => (.agg p.1, p.2)
  | v => frz1 h v
def frzR (h : Heap) : AV → Option (AV × Heap)
  | .tup cs => (seqF frzV h cs).map fun p => (.tup p.1, p.2)
  | v => frzV h v

@[simp] theorem frz1_bool (h b) : frz1 h (.bool b) = some (.bool b, h) := rfl
@[simp] theorem frz1_int (h k b) : frz1 h (.int k b) = some (.int k b, h) := rfl
@[simp] theorem frz1_str (h b) : frz1 h (.str b) = some (.str b, h) := rfl
@[simp] theorem frz1_nil (h) : frz1 h .nil = some (.nil, h) := rfl
@[simp] theorem frz1_view (h p s x) : frz1 h (.view p s x) = some (.view p s x, h) := rfl
@[simp] theorem frz1_ref (h id s off len) : frz1 h (.ref id s off len) = frzRef1 h id off len (h id) := rfl
@[simp] theorem frz1_dead (h) : frz1 h .dead = some (.dead, h) := rfl
@[simp] theorem frzRef1_row (h id off len sz xs) : frzRef1 h id off len (some (.row sz xs)) = if off + len ≤ xs.length then some (.view true sz ((xs.drop off).take len), upd h id none) else none := rfl
@[simp] theorem seqF_nil (F h) : seqF F h [] = some ([], h) := rfl
@[simp] theorem seqF_cons (F h v vs) : seqF F h (v :: vs) = (F h v).bind fun p => (seqF F p.2 vs).map fun q => (p.1 :: q.1, q.2) := rfl
@[simp] theorem frzV_agg (h cs) : frzV h (.agg cs) = (seqF frz1 h cs).map fun p => (.agg p.1, p.2) := rfl
@[simp] theorem frzV_bool (h b) : frzV h (.bool b) = some (.bool b, h) := rfl
@[simp] theorem frzV_int (h k b) : frzV h (.int k b) = some (.int k b, h) := rfl
@[simp] theorem frzV_str (h b) : frzV h (.str b) = some (.str b, h) := rfl
@[simp] theorem frzV_nil (h) : frzV h .nil = some (.nil, h) := rfl
@[simp] theorem frzV_view (h p s x) : frzV h (.view p s x) = some (.view p s x, h) := rfl
@[simp] theorem frzV_ref (h id s off len) : frzV h (.ref id s off len) = frzRef1 h id off len (h id) := rfl
@[simp] theorem frzR_tup (h cs) : frzR h (.tup cs) = (seqF frzV h cs).map fun p => (.tup p.1, p.2) := rfl
@[simp] theorem frzR_agg (h cs) : frzR h (.agg cs) = (seqF frz1 h cs).map fun p => (.agg p.1, p.2) := rfl
@[simp] theorem frzR_bool (h b) : frzR h (.bool b) = some (.bool b, h) := rfl
@[simp] theorem frzR_int (h k b) : frzR h (.int k b) = some (.int k b, h) := rfl
@[simp] theorem frzR_str (h b) : frzR h (.str b) = some (.str b, h) := rfl
@[simp] theorem frzR_nil (h) : frzR h .nil = some (.nil, h) := rfl
@[simp] theorem frzR_view (h p s x) : frzR h (.view p s x) = some (.view p s x, h) := rfl
@[simp] theorem frzR_ref (h id s off len) : frzR h (.ref id s off len) = frzRef1 h id off len (h id) := rfl

def FSound (F : Heap → AV → Option (AV × Heap)) : Prop :=
  ∀ (h : Heap) (v v' : AV) (h' : Heap) (ρ : Names) (I : Imm) (w : World) (u : Value), HRel ρ I w h → F h v = some (v', h') → VR ρ I w v u →
    ∃ I', HRel ρ I' w h' ∧ Ext h ρ I w h' ρ I' w ∧ VR ρ I' w v' u

theorem frz1_sound : FSound frz1 := by
  intro h v v' h' ρ I w u H hf hv
  have same : some (v, h) = some (v', h') → ∃ I', HRel ρ I' w h' ∧ Ext h ρ I w h' ρ I' w ∧ VR ρ I' w v' u := by
    intro he; cases he; exact ⟨I, H, Ext.refl, hv⟩
  cases v with
  | ref id s off len =>
    simp only [frz1_ref] at hf
    cases hid : h id with
    | none => rw [hid] at hf; cases hf
    | some e =>
      cases e with
      | obj => rw [hid] at hf; cases hf
      | row sz xs =>
        rw [hid, frzRef1_row] at hf
        split at hf
        · rename_i hle
          cases hf
          obtain ⟨I1, H1, E1, hv1⟩ := freeze_one (st := ⟨fun _ => .dead, h, 0⟩) (s0 := s) H hid hle
          exact ⟨I1, H1, E1, hv1 _ hv⟩
        · cases hf
  | ptr => cases hf
  | ep => cases hf
  | agg => cases hf
  | tup => cases hf
  | _ => exact same hf

theorem seqF_sound {F} (hF : FSound F) : ∀ (cs : List AV) (h h' : Heap) (I : Imm) (cs' : List AV) (us : List Value), HRel ρ I w h → seqF F h cs = some (cs', h') → us.length = cs.length →
    (∀ (i : Nat) x u, cs[i]? = some x → us[i]? = some u → VR ρ I w x u) →
    ∃ I', HRel ρ I' w h' ∧ Ext h ρ I w h' ρ I' w ∧ cs'.length = cs.length ∧ ∀ (i : Nat) x u, cs'[i]? = some x → us[i]? = some u → VR ρ I' w x u := by
  intro cs
  induction cs with
  | nil =>
    intro h h' I cs' us H hf hl hr
    cases hf
    exact ⟨I, H, Ext.refl, rfl, hr⟩
  | cons c cs ih =>
    intro h h' I cs' us H hf hl hr
    cases us with
    | nil => simp at hl
    | cons u us =>
      simp only [seqF_cons, Option.bind_eq_some_iff, Option.map_eq_some_iff] at hf
      obtain ⟨⟨c', h1⟩, g1, ⟨⟨cs1, h2⟩, g2, g3⟩⟩ := hf
      cases g3
      obtain ⟨I1, H1, E1, hv1⟩ := hF h c c' h1 ρ I w u H g1 (hr 0 c u rfl rfl)
      obtain ⟨I2, H2, E2, hl2, hv2⟩ := ih h1 _ I1 cs1 us H1 g2 (by simpa using hl) fun i x u hx hu => E1.vr H (hr (i + 1) x u (by simpa using hx) (by simpa using hu))
      refine ⟨I2, H2, E1.trans E2, by simp [hl2], fun i x v hx hv => ?_⟩
      cases i with
      | zero => simp at hx hv; subst hx; subst hv; exact E2.vr H1 hv1
      | succ i => exact hv2 i x v (by simpa using hx) (by simpa using hv)

theorem frzV_sound : FSound frzV := by
  intro h v v' h' ρ I w u H hf hv
  cases v with
  | agg cs =>
    simp only [frzV_agg, Option.map_eq_some_iff] at hf
    obtain ⟨⟨cs1, h1⟩, g1, g2⟩ := hf
    cases g2
    cases hv with
    | agg _ vs q1 q2 =>
      obtain ⟨I2, H2, E2, hl2, hv2⟩ := seqF_sound frz1_sound cs h _ I cs1 vs.toList H g1 (by simpa using q1) fun i x u hx hu => q2 i x u hx (by simpa using hu)
      exact ⟨I2, H2, E2, .agg _ _ (by rw [hl2]; exact q1) fun i x u hx hu => hv2 i x u hx (by simpa using hu)⟩
  | tup cs => cases hf
  | ptr => cases hf
  | ep => cases hf
  | _ =>
    refine frz1_sound h _ v' h' ρ I w u H ?_ hv
    exact hf

theorem frzR_sound : FSound frzR := by
  intro h v v' h' ρ I w u H hf hv
  cases v with
  | tup cs =>
    simp only [frzR_tup, Option.map_eq_some_iff] at hf
    obtain ⟨⟨cs1, h1⟩, g1, g2⟩ := hf
    cases g2
    cases hv with
    | tup _ vs q1 q2 =>
      obtain ⟨I2, H2, E2, hl2, hv2⟩ := seqF_sound frzV_sound cs h _ I cs1 vs.toList H g1 (by simpa using q1) fun i x u hx hu => q2 i x u hx (by simpa using hu)
      exact ⟨I2, H2, E2, .tup _ _ (by rw [hl2]; exact q1) fun i x u hx hu => hv2 i x u hx (by simpa using hu)⟩
  | _ =>
    refine frzV_sound h _ v' h' ρ I w u H ?_ hv
    exact hf

theorem ACall.freeze {P f args h nx} {Q : AV → Heap → Nat → Prop} (hc : ACall P f args h nx fun r h1 nx1 => ∃ r' h', frzR h1 r = some (r', h') ∧ Q r' h' nx1) : ACall P f args h nx Q :=
  ⟨hc.1, fun ρ I w vs h1 h2 h3 => (hc.2 ρ I w vs h1 h2 h3).mono fun e w' ⟨v, r, h', nx', ρ', I', g1, ⟨r', h'', hz, hQ⟩, g3, g4, g5, g6, g7, g8⟩ => by
    obtain ⟨I2, H2, E2, hv2⟩ := frzR_sound h' r r' h'' ρ' I' w' v g4 hz g3
    exact ⟨v, r', h'', nx', ρ', I2, g1, hQ, hv2, H2, g5.trans E2, g6, g7, g8⟩⟩

def KeepB (nx : Nat) (h' h : Heap) : Prop := ∀ j, j < nx → h' j = h j
@[simp] theorem keep_refl (nx h) : KeepB nx h h = True := by simp [KeepB]
@[simp] theorem keep_upd {nx id : Nat} (f h : Heap) (e) (hle : nx ≤ id) : KeepB nx (upd f id e) h = KeepB nx f h := by
  apply propext
  constructor
  · intro hk j hj
    have := hk j hj
    rw [upd_at, if_neg (by omega)] at this; exact this
  · intro hk j hj
    rw [upd_at, if_neg (by omega)]; exact hk j hj

theorem ACall.pureF {P f args h nx} {R : AV → Prop} (hc : ACall P f args h nx fun r h1 nx1 => (∀ id e, h id = some e → h1 id = some e) ∧ Fz r ∧ R r) {Q : AV → Heap → Nat → Prop}
    (hQ : ∀ r, R r → Q r h nx) : ACall P f args h nx Q :=
  ⟨hc.1, fun ρ I w vs h1 h2 h3 => (hc.2 ρ I w vs h1 h2 h3).mono fun e w' ⟨v, r, h', nx', ρ', I', g1, ⟨hs, hp, hR⟩, g3, g4, g5, g6, g7, g8⟩ => by
    have H' := g4.sub hs
    refine ⟨v, r, h, nx, ρ, I', g1, hQ r hR, hp.vr g3, ⟨fun id cells he => ?_, fun id sz xs he => ?_, fun i j e e' B B' b hi hj => h2.sep i j e e' B B' b hi hj, fun i e B b p hi hB hb => H'.imm i e B b p hi (g5.rho _ _ hB) hb, g4.immlt⟩,
      ⟨fun _ _ h => h, g5.imm, g5.bor, g5.immN, fun b hb => .inl hb, g5.os, g5.tape, g5.output, g5.size, g5.frame⟩, fun id B hB => .inl hB, Nat.le_refl _, h1⟩
    · obtain ⟨B, b, cur, ty, a1, a2, a3, a4, a5⟩ := h2.obj id cells he
      obtain ⟨B', b', cur', ty', b1, b2, b3, b4, b5⟩ := H'.obj id cells he
      have e1 := g5.rho _ _ a1
      rw [b1] at e1; cases e1
      refine ⟨B, b', cur', ty', a1, b2, b3, b4, fun i x u hx hu => ?_⟩
      have hi : i < cur.size := by rw [a4]; exact (List.getElem?_eq_some_iff.1 hx).1
      exact (b5 i x u hx hu).restrict g5.rho _ (a5 i x _ hx (Array.getElem?_eq_getElem hi))
    · obtain ⟨B, a1, a2, a3, a4, a5, a6⟩ := h2.row id sz xs he
      obtain ⟨B', b1, b2, b3, b4, b5, b6⟩ := H'.row id sz xs he
      have e1 := g5.rho _ _ a1
      rw [b1] at e1; cases e1
      refine ⟨B, a1, b2, b3, b4, b5, ?_⟩
      rcases b6 with b6 | ⟨b, cur, ty, k1, k2, k3, k4, k5, k6⟩
      · exact .inl b6
      · refine .inr ⟨b, cur, ty, k1, k2, k3, k4, k5, fun i j x u hx hu => ?_⟩
        rcases a6 with ⟨a6, a7, _⟩ | ⟨b0, cur0, ty0, l1, l2, l3, l4, l5, l6⟩
        · subst a7; simp [get2] at hx
        · obtain ⟨cs, q1, q2⟩ := get2_some hx
          have hj : j < sz := by rw [← a5 _ _ q1]; exact (List.getElem?_eq_some_iff.1 q2).1
          have hk1 := Nat.mul_le_mul_right sz (show i + 1 ≤ B.cap by have := (List.getElem?_eq_some_iff.1 q1).1; omega)
          rw [Nat.add_mul, Nat.one_mul] at hk1
          have hk : B.off + i * sz + j < cur0.size := by omega
          exact (k6 i j x u hx hu).restrict g5.rho _ (l6 i j x _ hx (Array.getElem?_eq_getElem hk))⟩

def RetP (C : Ctx) (rs : List ResultVar) (nx : Nat) (h0 : Heap) (r : AV) : AX → St → Prop :=
  RetK C rs fun r' h' _ => ∃ h2, frzR h' r' = some (r, h2) ∧ KeepB nx h2 h0

theorem PC.of (ok : C.Ok) {f : FuncId} {fn : Func} {c : Code} {args : List AV} {r : AV} (hf : C.P.funcs[f]? = some fn) (hb : fn.body = some c)
    (hname : (fn.name == "runtime.NumGoroutine") = false) (hc : codeOk fn.ntmps c = true) (hargs : args.length ≤ fn.ntmps) (hp : Fz r)
    (hw : ∀ (h : Heap) (nx : Nat), (∀ j, h j ≠ none → j < nx) → goC C c ⟨argT args, h, nx⟩ (.fin (RetP C fn.results.toList nx h r))) : PC C.P f args r := by
  intro h nx Q hQ
  refine ⟨⟨fn, hf, hname, by simp [hb]⟩, fun ρ I w vs hnm H hv => ?_⟩
  have hlt : ∀ j, h j ≠ none → j < nx := by
    intro j hj
    cases he : h j with
    | none => exact absurd he hj
    | some e => obtain ⟨B, hB⟩ := (H.ent he).base; exact hnm j B hB
  have hcall := ACall.freeze (Q := fun r' h2 _ => r' = r ∧ KeepB nx h2 h) ((ACall.of_body (Q := fun r' h' _ => ∃ h2, frzR h' r' = some (r, h2) ∧ KeepB nx h2 h) ok hf hb hname hc hargs (hw h nx hlt)).mono
    fun r' h' nx' ⟨h2, g1, g2⟩ => ⟨r, h2, g1, rfl, g2⟩)
  have := ACall.pureF (R := fun r' => r' = r) (Q := Q) (hcall.mono (Q' := fun r' h1 _ => (∀ id e, h id = some e → h1 id = some e) ∧ Fz r' ∧ r' = r) fun r' h' nx' ⟨h1, h2⟩ =>
    ⟨fun id e he => by rw [h2 id (hlt id (by rw [he]; simp))]; exact he, h1 ▸ hp, h1⟩) (fun r' hr => hr ▸ hQ)
  exact this.2 ρ I w vs hnm H hv
end

def finP (nx : Nat) (h0 : Heap) (r : AV) (v : Option (AV × Heap)) : Prop := ∃ h2, v = some (r, h2) ∧ KeepB nx h2 h0
@[simp] theorem finP_some (nx h0 r r' h2) : finP nx h0 r (some (r', h2)) = (r' = r ∧ KeepB nx h2 h0) := by
  apply propext
  constructor
  · rintro ⟨h3, h4, h5⟩; cases h4; exact ⟨rfl, h5⟩
  · rintro ⟨rfl, h5⟩; exact ⟨_, rfl, h5⟩
def finS (C : Ctx) (nx : Nat) (h0 : Heap) (r : AV) (v : Option AV) (s : St) : Prop := ∃ r', v = some r' ∧ finP nx h0 r (frzR s.h r')
@[simp] theorem finS_some (C nx h0 r r') (s : St) : finS C nx h0 r (some r') s = finP nx h0 r (frzR s.h r') := by simp [finS]
@[simp] theorem retP_normal (C rs nx h0 r) (s : St) : RetP C rs nx h0 r .normal s = finS C nx h0 r (resultsA C s rs) s := propext Iff.rfl
@[simp] theorem retP_ret (C rs nx h0 r) (s : St) : RetP C rs nx h0 r .ret s = finS C nx h0 r (resultsA C s rs) s := propext Iff.rfl

theorem least_of {p : Nat → Prop} (h : ∃ n, p n) : ∃ n, p n ∧ ∀ m, p m → n ≤ m := by
  obtain ⟨n, hn⟩ := h
  induction n using Nat.strongRecOn with
  | ind n ih =>
    by_cases hl : ∃ m, m < n ∧ p m
    · obtain ⟨m, h1, h2⟩ := hl
      exact ih m h1 h2
    · exact ⟨n, hn, fun m hm => Nat.le_of_not_lt fun hlt => hl ⟨m, hlt, hm⟩⟩

open Classical in
theorem go_loop_m {C : Ctx} {c : Code} {st : St} {k : Kont} (Inv : Nat → St → Prop) (m0 : Nat) (h0 : Inv m0 st)
    (hr : ∀ m s, Inv m s → ∀ next : St → Prop, (∀ s' m', m' < m → Inv m' s' → next s') → goC C c s (.loop next k)) : goC C (.loop c) st k := by
  have hμ : ∃ μ : St → Nat, ∀ s, (∃ m, Inv m s) → Inv (μ s) s ∧ ∀ m, Inv m s → μ s ≤ m :=
    ⟨fun s => if h : ∃ m, Inv m s then Classical.choose (least_of h) else 0, fun s hs => by
      simp only [dif_pos hs]; exact Classical.choose_spec (least_of hs)⟩
  obtain ⟨μ, hμ⟩ := hμ
  refine go_loop (fun s => ∃ m, Inv m s) μ ⟨m0, h0⟩ fun s hs => ?_
  obtain ⟨h1, _⟩ := hμ s hs
  exact hr _ s h1 _ fun s' m' hlt hi => ⟨⟨m', hi⟩, Nat.lt_of_le_of_lt ((hμ s' ⟨m', hi⟩).2 m' hi) hlt⟩

theorem go_loop_up {C : Ctx} {c : Code} {st : St} {k : Kont} (n : Nat) (Inv : Nat → St → Prop) (h0 : Inv 0 st)
    (hr : ∀ i s, i ≤ n → Inv i s → ∀ next : St → Prop, (∀ s', i + 1 ≤ n → Inv (i + 1) s' → next s') → goC C c s (.loop next k)) : goC C (.loop c) st k := by
  refine go_loop_m (fun m s => ∃ i, i ≤ n ∧ m = n - i ∧ Inv i s) n ⟨0, by omega, by omega, h0⟩ ?_
  rintro m s ⟨i, h1, rfl, h2⟩ next hn
  exact hr i s h1 h2 next fun s' h3 h4 => hn s' (n - (i + 1)) (by omega) ⟨i + 1, h3, rfl, h4⟩

theorem Fz.view' {p sz} {xs : List (List AV)} (h : ∀ c ∈ xs, ∀ x ∈ c, Fz x) : Fz (.view p sz xs) :=
  .view _ _ _ fun i j x hx => by
    obtain ⟨cs, h1, h2⟩ := get2_some hx
    exact h cs (List.mem_of_getElem? h1) x (List.mem_of_getElem? h2)
end Go.AE
end

section
/- Abstract machine: functions that hand back new rows. -/
namespace Go.AE
section
variable {C : Ctx} {ρ : Names} {I : Imm} {w : World}

def ren1 (f : Nat → Nat) : AV → AV
  | .ref id s o l => .ref (f id) s o l
  | v => v
def renV (f : Nat → Nat) : AV → AV
  | .agg cs => .agg (cs.map (ren1 f))
  | v => ren1 f v
def renR (f : Nat → Nat) : AV → AV
  | .tup cs => .tup (cs.map (renV f))
  | v => renV f v
inductive Ok1 (k : Nat) : AV → Prop
  | ref (id s o l) : id < k → Ok1 k (.ref id s o l)
  | fz (x) : Fz x → Ok1 k x
inductive OkV (k : Nat) : AV → Prop
  | agg (cs : List AV) : (∀ x ∈ cs, Ok1 k x) → OkV k (.agg cs)
  | one (x) : Ok1 k x → OkV k x
inductive OkR (k : Nat) : AV → Prop
  | tup (cs : List AV) : (∀ x ∈ cs, OkV k x) → OkR k (.tup cs)
  | one (x) : OkV k x → OkR k x

theorem Ok1.vr {k : Nat} {x : AV} {u : Value} {f g : Nat → Nat} {ρ' : Names} (hx : Ok1 k x) (hr : ∀ i B, i < k → ρ (f i) = some B → ρ' (g i) = some B) (h : VR ρ I w (ren1 f x) u) : VR ρ' I w (ren1 g x) u := by
  cases hx with
  | ref id s o l hid =>
    simp only [ren1] at h ⊢
    generalize hy : AV.ref (f id) s o l = y at h
    cases h <;> simp at hy
    · obtain ⟨rfl, rfl, rfl, rfl⟩ := hy; exact .ref0 _ _ _ _ _ (hr _ _ hid (by assumption)) (by assumption)
    · obtain ⟨rfl, rfl, rfl, rfl⟩ := hy
      rename_i b c B h2 hB h3 h4 h5 h6
      exact .ref _ _ _ _ b c B (hr _ _ hid hB) h2 h3 h4 h5 h6
  | fz _ hf =>
    have e : ∀ f, ren1 f x = x := fun f => by cases hf <;> rfl
    rw [e] at h ⊢
    exact hf.vr h
theorem OkV.vr {k : Nat} {x : AV} {u : Value} {f g : Nat → Nat} {ρ' : Names} (hx : OkV k x) (hr : ∀ i B, i < k → ρ (f i) = some B → ρ' (g i) = some B) (h : VR ρ I w (renV f x) u) : VR ρ' I w (renV g x) u := by
  have aggc : ∀ cs : List AV, (∀ x ∈ cs, Ok1 k x) → VR ρ I w (.agg (cs.map (ren1 f))) u → VR ρ' I w (.agg (cs.map (ren1 g))) u := by
    intro cs hcs h
    cases h with
    | agg _ vs h1 h2 =>
      refine .agg _ vs (by simpa using h1) fun i x u hx hu => ?_
      rw [List.getElem?_map, Option.map_eq_some_iff] at hx
      obtain ⟨y, hy, rfl⟩ := hx
      exact (hcs y (List.mem_of_getElem? hy)).vr hr (h2 i _ u (by rw [List.getElem?_map, hy]; rfl) hu)
  cases hx with
  | agg cs hcs => exact aggc cs hcs h
  | one _ h1 =>
    cases x with
    | agg cs =>
      cases h1 with
      | fz _ hf =>
        cases hf with
        | agg _ hf => exact aggc cs (fun x hx => .fz _ (hf x hx)) h
    | _ => exact h1.vr hr h
theorem OkR.vr {k : Nat} {x : AV} {u : Value} {f g : Nat → Nat} {ρ' : Names} (hx : OkR k x) (hr : ∀ i B, i < k → ρ (f i) = some B → ρ' (g i) = some B) (h : VR ρ I w (renR f x) u) : VR ρ' I w (renR g x) u := by
  have tupc : ∀ cs : List AV, (∀ x ∈ cs, OkV k x) → VR ρ I w (.tup (cs.map (renV f))) u → VR ρ' I w (.tup (cs.map (renV g))) u := by
    intro cs hcs h
    cases h with
    | tup _ vs h1 h2 =>
      refine .tup _ vs (by simpa using h1) fun i x u hx hu => ?_
      rw [List.getElem?_map, Option.map_eq_some_iff] at hx
      obtain ⟨y, hy, rfl⟩ := hx
      exact (hcs y (List.mem_of_getElem? hy)).vr hr (h2 i _ u (by rw [List.getElem?_map, hy]; rfl) hu)
  cases hx with
  | tup cs hcs => exact tupc cs hcs h
  | one _ h1 =>
    cases x with
    | tup cs =>
      cases h1 with
      | one _ h1 =>
        cases h1 with
        | fz _ hf =>
          cases hf with
          | tup _ hf => exact tupc cs (fun x hx => .one _ (.fz _ (hf x hx))) h
    | _ => exact h1.vr hr h

def FzE : Ent → Prop
  | .obj cells => ∀ x ∈ cells, Fz x
  | .row _ xs => ∀ i j x, get2 xs i j = some x → Fz x

def addE (h : Heap) : Nat → List Ent → Heap
  | _, [] => h
  | n, e :: es => addE (upd h n (some e)) (n + 1) es

theorem addE_get : ∀ (es : List Ent) (h : Heap) (n j : Nat), addE h n es j = if n ≤ j ∧ j < n + es.length then es[j - n]? else h j
  | [], h, n, j => by simp [addE]; omega
  | e :: es, h, n, j => by
    simp only [addE]
    rw [addE_get es]
    by_cases h1 : n + 1 ≤ j ∧ j < n + 1 + es.length
    · rw [if_pos h1, if_pos (by simp; omega)]
      rw [show j - n = (j - (n + 1)) + 1 by omega]
      simp
    · rw [if_neg h1]
      by_cases h2 : j = n
      · subst h2; simp [upd]
      · rw [if_neg (by simp; omega)]
        simp [upd, h2]

theorem HRel.keep {ρ ρ' : Names} {I I' : Imm} {w w' : World} {h h1 : Heap} (H : HRel ρ I w h) (H1 : HRel ρ' I' w' h1) (hs : ∀ id e, h id = some e → h1 id = some e)
    (hr : ∀ id B, ρ id = some B → ρ' id = some B) : HRel ρ I' w' h := by
  have H' := H1.sub hs
  refine ⟨fun id cells he => ?_, fun id sz xs he => ?_, fun i j e e' B B' b hi hj => H.sep i j e e' B B' b hi hj, fun i e B b p hi hB hb => H'.imm i e B b p hi (hr _ _ hB) hb, H1.immlt⟩
  · obtain ⟨B, b, cur, ty, a1, a2, a3, a4, a5⟩ := H.obj id cells he
    obtain ⟨B', b', cur', ty', b1, b2, b3, b4, b5⟩ := H'.obj id cells he
    have e1 := hr _ _ a1
    rw [b1] at e1; cases e1
    refine ⟨B, b', cur', ty', a1, b2, b3, b4, fun i x u hx hu => ?_⟩
    have hi : i < cur.size := by rw [a4]; exact (List.getElem?_eq_some_iff.1 hx).1
    exact (b5 i x u hx hu).restrict hr _ (a5 i x _ hx (Array.getElem?_eq_getElem hi))
  · obtain ⟨B, a1, a2, a3, a4, a5, a6⟩ := H.row id sz xs he
    obtain ⟨B', b1, b2, b3, b4, b5, b6⟩ := H'.row id sz xs he
    have e1 := hr _ _ a1
    rw [b1] at e1; cases e1
    refine ⟨B, a1, b2, b3, b4, b5, ?_⟩
    rcases b6 with b6 | ⟨b, cur, ty, k1, k2, k3, k4, k5, k6⟩
    · exact .inl b6
    · refine .inr ⟨b, cur, ty, k1, k2, k3, k4, k5, fun i j x u hx hu => ?_⟩
      rcases a6 with ⟨a6, a7, _⟩ | ⟨b0, cur0, ty0, l1, l2, l3, l4, l5, l6⟩
      · subst a7; simp [get2] at hx
      · obtain ⟨cs, q1, q2⟩ := get2_some hx
        have hj : j < sz := by rw [← a5 _ _ q1]; exact (List.getElem?_eq_some_iff.1 q2).1
        have hk1 := Nat.mul_le_mul_right sz (show i + 1 ≤ B.cap by have := (List.getElem?_eq_some_iff.1 q1).1; omega)
        rw [Nat.add_mul, Nat.one_mul] at hk1
        have hk : B.off + i * sz + j < cur0.size := by omega
        exact (k6 i j x u hx hu).restrict hr _ (l6 i j x _ hx (Array.getElem?_eq_getElem hk))

theorem EntR.rename {ρ' : Names} {i j : Nat} {e : Ent} (h : EntR ρ I w i e) (hf : FzE e) (hr : ∀ B, ρ i = some B → ρ' j = some B) : EntR ρ' I w j e := by
  cases e with
  | obj cells =>
    obtain ⟨B, b, cur, ty, h1, h2, h3, h4, h5⟩ := h
    exact ⟨B, b, cur, ty, hr B h1, h2, h3, h4, fun i x u hx hu => (hf x (List.mem_of_getElem? hx)).vr (h5 i x u hx hu)⟩
  | row sz xs =>
    obtain ⟨B, h1, h2, h3, h4, h5, h6⟩ := h
    refine ⟨B, hr B h1, h2, h3, h4, h5, ?_⟩
    rcases h6 with h6 | ⟨b, cur, ty, k1, k2, k3, k4, k5, k6⟩
    · exact .inl h6
    · exact .inr ⟨b, cur, ty, k1, k2, k3, k4, k5, fun i j x u hx hu => (hf i j x hx).vr (k6 i j x u hx hu)⟩

theorem ACall.fresh {P f args h nx} {r0 : AV} {ents : List Ent} (hok : OkR ents.length r0) (hfz : ∀ e ∈ ents, FzE e)
    (hc : ACall P f args h nx fun r h1 nx1 => (∀ id e, h id = some e → h1 id = some e) ∧ ∃ L : List Nat, L.length = ents.length ∧ L.Nodup ∧ (∀ i ∈ L, nx ≤ i) ∧
      (∀ (k i : Nat), L[k]? = some i → h1 i = ents[k]?) ∧ r = renR (fun i => L.getD i 0) r0) {Q : AV → Heap → Nat → Prop} (hQ : Q (renR (nx + ·) r0) (addE h nx ents) (nx + ents.length)) : ACall P f args h nx Q :=
  ⟨hc.1, fun ρ I w vs h1 h2 h3 => (hc.2 ρ I w vs h1 h2 h3).mono fun e w' ⟨v, r, h', nx', ρ', I', g1, ⟨hs, L, hL1, hL2, hL3, hL4, hr⟩, g3, g4, g5, g6, g7, g8⟩ => by
    subst hr
    let ρ2 : Names := fun j => if j < nx then ρ j else if j < nx + ents.length then ρ' (L.getD (j - nx) 0) else none
    have r1 : ∀ {j}, j < nx → ρ2 j = ρ j := fun hj => if_pos hj
    have r2 : ∀ {k}, k < ents.length → ρ2 (nx + k) = ρ' (L.getD k 0) := by
      intro k hk
      show (if nx + k < nx then ρ (nx + k) else if nx + k < nx + ents.length then ρ' (L.getD (nx + k - nx) 0) else none) = _
      rw [if_neg (by omega), if_pos (by omega), Nat.add_sub_cancel_left]
    have hlt : ∀ {j e}, h j = some e → j < nx := fun he => by obtain ⟨B, hB⟩ := (h2.ent he).base; exact h1 _ B hB
    have hget : ∀ {j e}, addE h nx ents j = some e → (j < nx ∧ h j = some e) ∨ ∃ k, k < ents.length ∧ j = nx + k ∧ ents[k]? = some e ∧ h' (L.getD k 0) = some e := by
      intro j e hj
      rw [addE_get] at hj
      split at hj
      · rename_i hjj
        refine .inr ⟨j - nx, by omega, by omega, hj, ?_⟩
        have hk : j - nx < L.length := by omega
        have := hL4 (j - nx) _ (List.getElem?_eq_getElem hk)
        rw [show L.getD (j - nx) 0 = L[j - nx] by simp [List.getD, hk], this, hj]
      · exact .inl ⟨hlt hj, hj⟩
    have Hk := h2.keep g4 hs g5.rho
    have rr : ∀ {j B}, j < nx → ρ2 j = some B → ρ' j = some B := fun hj hB => g5.rho _ _ (by rw [← r1 hj]; exact hB)
    have Lne : ∀ {k k'}, k < ents.length → k' < ents.length → k ≠ k' → L.getD k 0 ≠ L.getD k' 0 := by
      intro k k' hk hk' hne he
      have a1 : k < L.length := by omega
      have a2 : k' < L.length := by omega
      simp only [List.getD, List.getElem?_eq_getElem a1, List.getElem?_eq_getElem a2, Option.getD_some] at he
      exact hne ((List.getElem_inj hL2).1 he)
    have Lge : ∀ {k}, k < ents.length → nx ≤ L.getD k 0 := by
      intro k hk
      have a1 : k < L.length := by omega
      simp only [List.getD, List.getElem?_eq_getElem a1, Option.getD_some]
      exact hL3 _ (List.getElem_mem a1)
    have entR : ∀ {j e}, addE h nx ents j = some e → EntR ρ2 I' w' j e := by
      intro j e he
      rcases hget he with ⟨hj, he'⟩ | ⟨k, hk, rfl, he', he2⟩
      · have := Hk.ent he'
        cases e with
        | obj cells => exact ObjR.mono this (fun id B hB => by rw [r1 (h1 _ _ hB)]; exact hB) (fun _ _ h => h) (fun _ _ _ => rfl) fun _ _ _ _ => rfl
        | row sz xs => exact RowR.mono this (fun id B hB => by rw [r1 (h1 _ _ hB)]; exact hB) (fun _ _ h => h) (fun _ _ _ => rfl) fun _ _ _ _ => rfl
      · exact (g4.ent he2).rename (hfz e (List.mem_of_getElem? he')) fun B hB => by rw [r2 hk]; exact hB
    refine ⟨v, renR (nx + ·) r0, addE h nx ents, nx + ents.length, ρ2, I', g1, hQ, hok.vr (fun i B hi hB => by rw [r2 hi]; exact hB) g3,
      ⟨fun id c he => entR he, fun id s x he => entR he, fun i j e e' B B' b hi hj hne hB hB' hb => ?_, fun i e B b p hi hB hb => ?_, g4.immlt⟩,
      ⟨fun id B hB => by rw [r1 (h1 _ _ hB)]; exact hB, g5.imm, g5.bor, g5.immN, fun b hb => ?_, g5.os, g5.tape, g5.output, g5.size, g5.frame⟩, fun id B hB => ?_, by omega, fun id B hB => ?_⟩
    · rcases hget hi with ⟨hi', hie⟩ | ⟨k, hk, rfl, _, hie⟩ <;> rcases hget hj with ⟨hj', hje⟩ | ⟨k', hk', rfl, _, hje⟩
      · exact g4.sep i j e e' B B' b (hs _ _ hie) (hs _ _ hje) hne (rr hi' hB) (rr hj' hB') hb
      · rw [r2 hk'] at hB'
        exact g4.sep i _ e e' B B' b (hs _ _ hie) hje (by have := Lge hk'; omega) (rr hi' hB) hB' hb
      · rw [r2 hk] at hB
        exact g4.sep _ j e e' B B' b hie (hs _ _ hje) (by have := Lge hk; omega) hB (rr hj' hB') hb
      · rw [r2 hk] at hB; rw [r2 hk'] at hB'
        exact g4.sep _ _ e e' B B' b hie hje (Lne hk hk' (by omega)) hB hB' hb
    · rcases hget hi with ⟨hi', hie⟩ | ⟨k, hk, rfl, _, hie⟩
      · exact g4.imm i e B b p (hs _ _ hie) (rr hi' hB) hb
      · rw [r2 hk] at hB
        exact g4.imm _ e B b p hie hB hb
    · obtain ⟨i, e, B, hi, hB, hb⟩ := hb
      rcases hget hi with ⟨hi', hie⟩ | ⟨k, hk, rfl, _, hie⟩
      · exact .inl ⟨i, e, B, hie, by rw [← r1 hi']; exact hB, hb⟩
      · rw [r2 hk] at hB
        exact g5.own b ⟨_, e, B, hie, hB, hb⟩
    · by_cases hid : id < nx
      · exact .inl (by rw [← r1 hid]; exact hB)
      · exact .inr (by omega)
    · by_cases hid : id < nx
      · omega
      · have : ρ2 id = (if id < nx + ents.length then ρ' (L.getD (id - nx) 0) else none) := if_neg hid
        rw [this] at hB
        split at hB
        · assumption
        · cases hB⟩
end
end Go.AE
end

section
/- Abstract machine: a callee that only reads gets views of its caller's rows. -/
namespace Go.AE
section
variable {ρ : Names} {I : Imm} {w : World}

inductive Cl : AV → Prop
  | bool (b) : Cl (.bool b)
  | int (k n) : Cl (.int k n)
  | str (s) : Cl (.str s)
  | nil : Cl .nil
  | dead : Cl .dead
  | ref (id s o l) : Cl (.ref id s o l)
  | ptr (id o) : Cl (.ptr id o)
  | ep (id x o) : Cl (.ep id x o)
  | view (sz) (xs : List (List AV)) : (∀ i j x, get2 xs i j = some x → Cl x) → Cl (.view true sz xs)
  | fn (f) (cells : List AV) : (∀ x ∈ cells, Cl x) → Cl (.fn f cells)
  | bnd (f) (cells : List AV) : (∀ x ∈ cells, Cl x) → Cl (.bnd f cells)
  | agg (cells : List AV) : (∀ x ∈ cells, Cl x) → Cl (.agg cells)
  | tup (cells : List AV) : (∀ x ∈ cells, Cl x) → Cl (.tup cells)

theorem Cl.vr {I' : Imm} {x : AV} {u : Value} (h : VR ρ I w x u) (hp : Cl x) (hI : ∀ b, I true b → I' true b) : VR ρ I' w x u := by
  induction h with
  | bool b => exact .bool b
  | int k n => exact .int k n
  | str s => exact .str s
  | nil => exact .nil
  | dead v => exact .dead v
  | viewNil p sz a c => exact .viewNil p sz a c
  | view p sz xs b off c h1 h2 h3 h4 h5 h6 ih =>
    cases hp with | view _ _ hp => exact .view true sz xs b off c (hI b h1) h2 h3 h4 h5 fun i j x u hx hu => ih i j x u hx hu (hp i j x hx)
  | ref0 id sz off a B h1 h2 => exact .ref0 id sz off a B h1 h2
  | ref id sz off len b c B h1 h2 h3 h4 h5 h6 => exact .ref id sz off len b c B h1 h2 h3 h4 h5 h6
  | ptr id off b B h1 h2 => exact .ptr id off b B h1 h2
  | ep id idx off b B h1 h2 => exact .ep id idx off b B h1 h2
  | vptr => cases hp
  | fn f caps vs h1 h2 ih => cases hp with | fn _ _ hp => exact .fn f caps vs h1 fun i x u hx hu => ih i x u hx hu (hp x (List.mem_of_getElem? hx))
  | bnd f caps vs h1 h2 ih => cases hp with | bnd _ _ hp => exact .bnd f caps vs h1 fun i x u hx hu => ih i x u hx hu (hp x (List.mem_of_getElem? hx))
  | agg cells vs h1 h2 ih => cases hp with | agg _ hp => exact .agg cells vs h1 fun i x u hx hu => ih i x u hx hu (hp x (List.mem_of_getElem? hx))
  | tup cells vs h1 h2 ih => cases hp with | tup _ hp => exact .tup cells vs h1 fun i x u hx hu => ih i x u hx hu (hp x (List.mem_of_getElem? hx))

inductive Bor (h : Heap) : AV → AV → Prop
  | same (x) : Bor h x x
  | ref (id sz off len xs ys) : h id = some (.row sz xs) → off + len ≤ xs.length → ys.length = len → (∀ (i : Nat) c d, ((xs.drop off).take len)[i]? = some c → ys[i]? = some d → d.length = c.length) →
      (∀ (i j : Nat) x y, get2 ((xs.drop off).take len) i j = some x → get2 ys i j = some y → Bor h x y) → Bor h (.ref id sz off len) (.view false sz ys)
  | ptr (id off cells cells') : h id = some (.obj cells) → cells'.length = (cells.drop off).length → (∀ (i : Nat) x y, (cells.drop off)[i]? = some x → cells'[i]? = some y → Bor h x y) → Bor h (.ptr id off) (.vptr cells')
  | ep (id idx off sz xs cells) : h id = some (.row sz xs) → xs[idx]? = some cells → Bor h (.ep id idx off) (.vptr (cells.drop off))
  | agg (cells cells') : cells'.length = cells.length → (∀ (i : Nat) x y, cells[i]? = some x → cells'[i]? = some y → Bor h x y) → Bor h (.agg cells) (.agg cells')
  | fn (f cells cells') : cells'.length = cells.length → (∀ (i : Nat) x y, cells[i]? = some x → cells'[i]? = some y → Bor h x y) → Bor h (.fn f cells) (.fn f cells')
  | bnd (f cells cells') : cells'.length = cells.length → (∀ (i : Nat) x y, cells[i]? = some x → cells'[i]? = some y → Bor h x y) → Bor h (.bnd f cells) (.bnd f cells')

def ImmB (h : Heap) (ρ : Names) (I : Imm) : Imm := fun p b => I p b ∨ (p = false ∧ Owns h ρ b)

theorem Bor.vr {h : Heap} {x y : AV} {u : Value} (H : HRel ρ I w h) (hb : Bor h x y) : VR ρ I w x u → VR ρ (ImmB h ρ I) w y u := by
  have up : ∀ {x u}, VR ρ I w x u → VR ρ (ImmB h ρ I) w x u := fun hv => hv.mono (fun _ _ h => h) (fun _ _ h => .inl h) fun _ _ _ => rfl
  induction hb generalizing u with
  | same x => exact up
  | ref id sz off len xs ys hid hle hlen hw hc ih =>
    intro hv
    obtain ⟨B, h1, h2, h3, h4, h5, h6⟩ := H.row id sz xs hid
    have hlen0 : ((xs.drop off).take len).length = len := by simp; omega
    have back : ∀ {i j : Nat} {y}, get2 ys i j = some y → ∃ x, get2 ((xs.drop off).take len) i j = some x := by
      intro i j y hy
      obtain ⟨d, q1, q2⟩ := get2_some hy
      have hi : i < ((xs.drop off).take len).length := by rw [hlen0, ← hlen]; exact (List.getElem?_eq_some_iff.1 q1).1
      have hc0 := List.getElem?_eq_getElem hi
      have hj : j < (((xs.drop off).take len)[i]).length := by rw [← hw i _ d hc0 q1]; exact (List.getElem?_eq_some_iff.1 q2).1
      exact ⟨_, by simp only [get2, hc0, Option.bind_some]; exact List.getElem?_eq_getElem hj⟩
    generalize hz : AV.ref id sz off len = z at hv
    cases hv <;> simp at hz
    · obtain ⟨rfl, rfl, rfl, rfl⟩ := hz
      obtain rfl : ys = [] := List.eq_nil_of_length_eq_zero hlen
      exact .viewNil ..
    · rename_i b c B' q2 q1 q3 q4 q5 q6
      obtain ⟨rfl, rfl, rfl, rfl⟩ := hz
      have q7 : ρ id = some B' := by assumption
      have q8 : B'.blk = some b := by assumption
      rw [h1] at q7; cases q7
      clear q1 q2
      have q2 := q8
      rcases h6 with ⟨g1, g2, g3⟩ | ⟨b', cur, ty, g1, g2, g3, g4, g5, g6⟩
      · rw [g1] at q2; cases q2
      · rw [g1] at q2; cases q2
        have hown : Owns h ρ b := ⟨id, _, B, hid, h1, g1⟩
        have hv := VR.view (ρ := ρ) (I := ImmB h ρ I) (w := w) false sz ys b (B.off + off * sz) c (.inr ⟨rfl, hown⟩) (by omega) (by omega) (fun i d hd => ?_) (fun i j y hy => ?_) (fun i j y u hy hu => ?_)
        · rw [hlen] at hv
          exact h2 ▸ hv
        · have hi : i < ((xs.drop off).take len).length := by rw [hlen0, ← hlen]; exact (List.getElem?_eq_some_iff.1 hd).1
          have hc0 := List.getElem?_eq_getElem hi
          rw [hw i _ d hc0 hd]
          have hx := hc0
          rw [List.getElem?_take] at hx
          split at hx
          · rw [List.getElem?_drop] at hx; exact h5 _ _ hx
          · cases hx
        · obtain ⟨x, hx⟩ := back hy
          obtain ⟨hg, hi⟩ := get2_drop_take hx
          obtain ⟨cells, q1, q2⟩ := get2_some hg
          have hj : j < sz := by rw [← h5 _ _ q1]; exact (List.getElem?_eq_some_iff.1 q2).1
          rw [cell_of_row w b _ cur ty _ g2]
          have e1 : off + i + 1 ≤ B.cap := by have := (List.getElem?_eq_some_iff.1 q1).1; omega
          have e2 := Nat.mul_le_mul_right sz e1
          rw [Nat.add_mul, Nat.add_mul, Nat.one_mul] at e2
          have : B.off + off * sz + i * sz + j < cur.size := by omega
          exact ⟨_, Array.getElem?_eq_getElem this⟩
        · obtain ⟨x, hx⟩ := back hy
          obtain ⟨hg, hi⟩ := get2_drop_take hx
          rw [cell_of_row w b _ cur ty _ g2] at hu
          refine ih i j x y hx hy (g6 (off + i) j x u hg ?_)
          rw [← hu, Nat.add_mul, ← Nat.add_assoc]
  | ptr id off cells cells' hid hl hc ih =>
    intro hv
    obtain ⟨B, b, cur, ty, h1, h2, h3, h4, h5⟩ := H.obj id cells hid
    cases hv with
    | ptr _ _ b' B' q1 q2 =>
      rw [h1] at q1; cases q1
      rw [h2] at q2; cases q2
      refine .vptr cells' false b off (.inr ⟨rfl, ⟨id, _, B, hid, h1, h2⟩⟩) (fun i x hx => ?_) (fun i x u hx hu => ?_)
      · have hi := (List.getElem?_eq_some_iff.1 hx).1
        rw [cell_of_row w b _ cur ty _ h3]
        rw [hl, List.length_drop] at hi
        exact ⟨_, Array.getElem?_eq_getElem (by omega)⟩
      · have hi := (List.getElem?_eq_some_iff.1 hx).1
        rw [hl] at hi
        rw [cell_of_row w b _ cur ty _ h3] at hu
        have hd := List.getElem?_eq_getElem hi
        refine ih i _ x hd hx (h5 (off + i) _ u ?_ hu)
        rw [← hd, List.getElem?_drop]
  | ep id idx off sz xs cells hid hidx =>
    intro hv
    obtain ⟨B, h1, h2, h3, h4, h5, h6⟩ := H.row id sz xs hid
    cases hv with
    | ep _ _ _ b B' q1 q2 =>
      rw [h1] at q1; cases q1
      rcases h6 with ⟨g1, g2, g3⟩ | ⟨b', cur, ty, g1, g2, g3, g4, g5, g6⟩
      · rw [g1] at q2; cases q2
      · rw [g1] at q2; cases q2
        have hlt := (List.getElem?_eq_some_iff.1 hidx).1
        have e2 := Nat.mul_le_mul_right sz (show idx + 1 ≤ B.cap by omega)
        rw [Nat.add_mul, Nat.one_mul] at e2
        have hcl := h5 _ _ hidx
        subst h2
        refine .vptr (cells.drop off) false b _ (.inr ⟨rfl, ⟨id, _, B, hid, h1, g1⟩⟩) (fun i x hx => ?_) (fun i x u hx hu => ?_)
        · have hi := (List.getElem?_eq_some_iff.1 hx).1
          rw [List.length_drop] at hi
          rw [cell_of_row w b _ cur ty _ g2]
          exact ⟨_, Array.getElem?_eq_getElem (by omega)⟩
        · rw [cell_of_row w b _ cur ty _ g2] at hu
          rw [List.getElem?_drop] at hx
          refine up (g6 idx (off + i) x u (by simp [get2, hidx, hx]) ?_)
          rw [← hu]; simp only [Nat.add_assoc]
  | agg cells cells' hl hc ih =>
    intro hv
    cases hv with
    | agg _ vs q1 q2 =>
      refine .agg cells' vs (by rw [q1, hl]) fun i y u hy hu => ?_
      have hi := (List.getElem?_eq_some_iff.1 hy).1
      rw [hl] at hi
      exact ih i _ y (List.getElem?_eq_getElem hi) hy (q2 i _ u (List.getElem?_eq_getElem hi) hu)
  | bnd f cells cells' hl hc ih =>
    intro hv
    cases hv with
    | bnd _ _ vs q1 q2 =>
      refine .bnd f cells' vs (by rw [q1, hl]) fun i y u hy hu => ?_
      have hi := (List.getElem?_eq_some_iff.1 hy).1
      rw [hl] at hi
      exact ih i _ y (List.getElem?_eq_getElem hi) hy (q2 i _ u (List.getElem?_eq_getElem hi) hu)
  | fn f cells cells' hl hc ih =>
    intro hv
    cases hv with
    | fn _ _ vs q1 q2 =>
      refine .fn f cells' vs (by rw [q1, hl]) fun i y u hy hu => ?_
      have hi := (List.getElem?_eq_some_iff.1 hy).1
      rw [hl] at hi
      exact ih i _ y (List.getElem?_eq_getElem hi) hy (q2 i _ u (List.getElem?_eq_getElem hi) hu)

end
end Go.AE
end

section
/- Abstract machine: contracts of functions that hand back new rows, and calls of readers. -/
namespace Go.AE

def FC (P : Program) (f : FuncId) (args : List AV) (r0 : AV) (ents : List Ent) : Prop :=
  ∀ (h : Heap) (nx : Nat) (Q : AV → Heap → Nat → Prop), Q (renR (nx + ·) r0) (addE h nx ents) (nx + ents.length) → ACall P f args h nx Q

def finFF (nx : Nat) (h0 : Heap) (r0 : AV) (ents : List Ent) (r : AV) (h : Heap) : Prop :=
  KeepB nx h h0 ∧ ∃ L : List Nat, L.length = ents.length ∧ L.Nodup ∧ (∀ i ∈ L, nx ≤ i) ∧ (∀ (k i : Nat), L[k]? = some i → h i = ents[k]?) ∧ r = renR (fun i => L.getD i 0) r0
def RetF (C : Ctx) (rs : List ResultVar) (nx : Nat) (h0 : Heap) (r0 : AV) (ents : List Ent) : AX → St → Prop := RetK C rs fun r h _ => finFF nx h0 r0 ents r h
def finF (C : Ctx) (nx : Nat) (h0 : Heap) (r0 : AV) (ents : List Ent) (v : Option AV) (s : St) : Prop := ∃ r, v = some r ∧ finFF nx h0 r0 ents r s.h
@[simp] theorem finF_some (C nx h0 r0 ents r) (s : St) : finF C nx h0 r0 ents (some r) s = finFF nx h0 r0 ents r s.h := by simp [finF]
@[simp] theorem retF_normal (C rs nx h0 r0 ents) (s : St) : RetF C rs nx h0 r0 ents .normal s = finF C nx h0 r0 ents (resultsA C s rs) s := propext Iff.rfl
@[simp] theorem retF_ret (C rs nx h0 r0 ents) (s : St) : RetF C rs nx h0 r0 ents .ret s = finF C nx h0 r0 ents (resultsA C s rs) s := propext Iff.rfl

theorem FC.of {C : Ctx} (ok : C.Ok) {f : FuncId} {fn : Func} {c : Code} {args : List AV} {r0 : AV} {ents : List Ent} (hf : C.P.funcs[f]? = some fn) (hb : fn.body = some c)
    (hname : (fn.name == "runtime.NumGoroutine") = false) (hc : codeOk fn.ntmps c = true) (hargs : args.length ≤ fn.ntmps) (hok : OkR ents.length r0) (hfz : ∀ e ∈ ents, FzE e)
    (hw : ∀ (h : Heap) (nx : Nat), (∀ j, h j ≠ none → j < nx) → goC C c ⟨argT args, h, nx⟩ (.fin (RetF C fn.results.toList nx h r0 ents))) : FC C.P f args r0 ents := by
  intro h nx Q hQ
  refine ⟨⟨fn, hf, hname, by simp [hb]⟩, fun ρ I w vs hnm H hv => ?_⟩
  have hlt : ∀ j, h j ≠ none → j < nx := by
    intro j hj
    cases he : h j with
    | none => exact absurd he hj
    | some e => obtain ⟨B, hB⟩ := (H.ent he).base; exact hnm j B hB
  have hcall := ACall.of_body (Q := fun r h' _ => finFF nx h r0 ents r h') ok hf hb hname hc hargs (hw h nx hlt)
  have := ACall.fresh (r0 := r0) (ents := ents) hok hfz (hcall.mono fun r h' nx' ⟨h1, L, h2, h3, h4, h5, h6⟩ => ⟨fun id e he => by rw [h1 id (hlt id (by rw [he]; simp))]; exact he, L, h2, h3, h4, h5, h6⟩) hQ
  exact this.2 ρ I w vs hnm H hv

section
variable {C : Ctx}
inductive Bors (h : Heap) : List AV → List AV → Prop
  | nil : Bors h [] []
  | cons {x y xs ys} : Bor h x y → Bors h xs ys → Bors h (x :: xs) (y :: ys)
theorem Bors.len {h : Heap} {xs ys : List AV} (b : Bors h xs ys) : ys.length = xs.length := by
  induction b with
  | nil => rfl
  | cons _ _ ih => simp [ih]
end
@[simp] theorem addE_nil (h n) : addE h n [] = h := rfl
@[simp] theorem addE_cons (h n e es) : addE h n (e :: es) = addE (upd h n (some e)) (n + 1) es := rfl
@[simp] theorem renR_agg (f cs) : renR f (.agg cs) = .agg (cs.map (ren1 f)) := rfl
@[simp] theorem renR_tup (f cs) : renR f (.tup cs) = .tup (cs.map (renV f)) := rfl
@[simp] theorem renR_ref (f i s o l) : renR f (.ref i s o l) = .ref (f i) s o l := rfl
@[simp] theorem renV_agg (f cs) : renV f (.agg cs) = .agg (cs.map (ren1 f)) := rfl
@[simp] theorem renV_ref (f i s o l) : renV f (.ref i s o l) = .ref (f i) s o l := rfl
@[simp] theorem renV_bool (f b) : renV f (.bool b) = .bool b := rfl
@[simp] theorem renV_int (f k b) : renV f (.int k b) = .int k b := rfl
@[simp] theorem ren1_ref (f i s o l) : ren1 f (.ref i s o l) = .ref (f i) s o l := rfl
@[simp] theorem ren1_bool (f b) : ren1 f (.bool b) = .bool b := rfl
@[simp] theorem ren1_int (f k b) : ren1 f (.int k b) = .int k b := rfl
@[simp] theorem ren1_str (f b) : ren1 f (.str b) = .str b := rfl
@[simp] theorem ren1_nil (f) : ren1 f .nil = .nil := rfl
@[simp] theorem ren1_view (f p s x) : ren1 f (.view p s x) = .view p s x := rfl
end Go.AE
end

section
/- Abstract machine: nil handed back, seen as a new empty row. -/
namespace Go.AE

theorem ACall.promote {P f args h nx} {sz : Nat} (hsz : 0 < sz) {Q : AV → Heap → Nat → Prop}
    (hc : ACall P f args h nx fun r h' nx' => (r = .nil ∧ Q (.ref nx' sz 0 0) (upd h' nx' (some (.row sz []))) (nx' + 1)) ∨ Q r h' nx') : ACall P f args h nx Q :=
  ⟨hc.1, fun ρ I w vs h1 h2 h3 => (hc.2 ρ I w vs h1 h2 h3).mono fun e w' ⟨v, r, h', nx', ρ', I', g1, hq, g3, g4, g5, g6, g7, g8⟩ => by
    rcases hq with ⟨rfl, hQ⟩ | hQ
    · have hn : ρ' nx' = none := by
        cases hρ : ρ' nx' with
        | none => rfl
        | some B => have := g8 _ B hρ; omega
      have hv := g3.nil_inv
      have hnone : h' nx' = none := by
        cases hh : h' nx' with
        | none => rfl
        | some e => obtain ⟨B, hB⟩ := (g4.ent hh).base; rw [hn] at hB; cases hB
      obtain ⟨H', E'⟩ := alloc_ext (w' := w') (h' := upd h' nx' (some (.row sz []))) g4 (B0 := ⟨none, 0, 0, sz⟩) hn (fun i e hne h => by rwa [upd_ne _ _ _ _ hne] at h) (upd_same ..) (.inl rfl) (fun _ _ => rfl) (Nat.le_refl _) rfl rfl rfl
        ⟨⟨none, 0, 0, sz⟩, upd_same .., rfl, hsz, by simp [LIM], fun i x hx => by simp at hx, .inl ⟨rfl, rfl, rfl⟩⟩
      refine ⟨v, .ref nx' sz 0 0, _, nx' + 1, _, I', g1, hQ, ?_, H', g5.trans E', fun id B hB => ?_, by omega, fun id B hB => ?_⟩
      · rw [hv]; exact .ref0 nx' sz 0 none _ (upd_same ..) rfl
      · by_cases hid : id = nx'
        · subst hid; exact .inr g7
        · rw [upd_ne _ _ _ _ hid] at hB; exact g6 id B hB
      · by_cases hid : id = nx'
        · omega
        · rw [upd_ne _ _ _ _ hid] at hB; have := g8 id B hB; omega
    · exact ⟨v, r, h', nx', ρ', I', g1, hQ, g3, g4, g5, g6, g7, g8⟩⟩

def Ret1 (C : Ctx) (rs : List ResultVar) (nx : Nat) (h0 : Heap) (sz : Nat) (rows : List (List AV)) : AX → St → Prop :=
  RetK C rs fun r h' nx' => KeepB nx h' h0 ∧ nx ≤ nx' ∧ ((r = .nil ∧ rows = []) ∨ ∃ i, nx ≤ i ∧ h' i = some (.row sz rows) ∧ r = .ref i sz 0 rows.length)
theorem FC.of1 {C : Ctx} (ok : C.Ok) {f : FuncId} {fn : Func} {c : Code} {args : List AV} {sz : Nat} {rows : List (List AV)} (hf : C.P.funcs[f]? = some fn) (hb : fn.body = some c)
    (hname : (fn.name == "runtime.NumGoroutine") = false) (hc : codeOk fn.ntmps c = true) (hargs : args.length ≤ fn.ntmps) (hsz : 0 < sz) (hfz : ∀ i j x, get2 rows i j = some x → Fz x)
    (hw : ∀ (h : Heap) (nx : Nat), (∀ j, h j ≠ none → j < nx) → goC C c ⟨argT args, h, nx⟩ (.fin (Ret1 C fn.results.toList nx h sz rows))) : FC C.P f args (.ref 0 sz 0 rows.length) [.row sz rows] := by
  intro h nx Q hQ
  refine ⟨⟨fn, hf, hname, by simp [hb]⟩, fun ρ I w vs hnm H hv => ?_⟩
  have hlt : ∀ j, h j ≠ none → j < nx := by
    intro j hj
    cases he : h j with
    | none => exact absurd he hj
    | some e => obtain ⟨B, hB⟩ := (H.ent he).base; exact hnm j B hB
  have hcall := ACall.of_body (Q := fun r h' nx' => KeepB nx h' h ∧ nx ≤ nx' ∧ ((r = .nil ∧ rows = []) ∨ ∃ i, nx ≤ i ∧ h' i = some (.row sz rows) ∧ r = .ref i sz 0 rows.length)) ok hf hb hname hc hargs (hw h nx hlt)
  have := ACall.fresh (r0 := .ref 0 sz 0 rows.length) (ents := [.row sz rows]) (.one _ (.one _ (.ref _ _ _ _ (by simp)))) (fun e he => by simp at he; subst he; exact hfz)
    (ACall.promote hsz (hcall.mono fun r h' nx' ⟨h1, h2, h3⟩ => by
      rcases h3 with ⟨rfl, rfl⟩ | ⟨i, hi, he, rfl⟩
      · refine .inl ⟨rfl, fun id e he => ?_, [nx'], rfl, by simp, fun i hi => by simp at hi; omega, fun k i hk => ?_, rfl⟩
        · have hid := hlt id (by rw [he]; simp)
          rw [upd_ne _ _ _ _ (by omega), h1 id hid]; exact he
        · match k, hk with
          | 0, hk => simp at hk; subst hk; simp
      · refine .inr ⟨fun id e he' => by rw [h1 id (hlt id (by rw [he']; simp))]; exact he', [i], rfl, by simp, fun j hj => by simp at hj; omega, fun k j hk => ?_, rfl⟩
        match k, hk with
        | 0, hk => simp at hk; subst hk; exact he)) hQ
  exact this.2 ρ I w vs hnm H hv
def fin1 (nx : Nat) (h0 : Heap) (sz : Nat) (rows : List (List AV)) (v : Option AV) (s : St) : Prop :=
  ∃ r, v = some r ∧ KeepB nx s.h h0 ∧ nx ≤ s.nx ∧ ((r = .nil ∧ rows = []) ∨ ∃ i, nx ≤ i ∧ s.h i = some (.row sz rows) ∧ r = .ref i sz 0 rows.length)
@[simp] theorem ret1_ret (C rs nx h0 sz rows) (s : St) : Ret1 C rs nx h0 sz rows .ret s = fin1 nx h0 sz rows (resultsA C s rs) s := propext Iff.rfl
@[simp] theorem ret1_normal (C rs nx h0 sz rows) (s : St) : Ret1 C rs nx h0 sz rows .normal s = fin1 nx h0 sz rows (resultsA C s rs) s := propext Iff.rfl
end Go.AE
end

section
/- Abstract machine: loops whose unchanged temporaries need no telling. -/
namespace Go.AE

def ov : List (Nat × AV) → (Nat → AV) → Nat → AV
  | [], f, j => f j
  | (i, v) :: l, f, j => if j = i then v else ov l f j
@[simp] theorem ov_nil (f j) : ov [] f j = f j := rfl
@[simp] theorem ov_cons (i v l f j) : ov ((i, v) :: l) f j = if j = i then v else ov l f j := rfl
def mask (ms : List Nat) (tm t : Nat → AV) : Nat → AV := fun j => if j ∈ ms then tm j else t j
@[simp] theorem mask_at (ms tm t j) : mask ms tm t j = if j ∈ ms then tm j else t j := rfl
def AllT (t : Nat → AV) (l : List (Nat × AV)) : Prop := ∀ p ∈ l, t p.1 = p.2
@[simp] theorem allT_nil (t) : AllT t [] = True := by simp [AllT]
@[simp] theorem allT_cons (t i v l) : AllT t ((i, v) :: l) = (t i = v ∧ AllT t l) := by simp [AllT]
def KeepT (ms : List Nat) (t2 t : Nat → AV) : Prop := ∀ j, j ∉ ms → t2 j = t j
@[simp] theorem keepT_refl (ms t) : KeepT ms t t = True := by simp [KeepT]
@[simp] theorem keepT_upd {ms : List Nat} {i : Nat} {f t : Nat → AV} {v : AV} (hi : i ∈ ms) : KeepT ms (upd f i v) t = KeepT ms f t := by
  apply propext
  constructor
  · intro h j hj
    have := h j hj
    rwa [upd_ne _ _ _ _ (by rintro rfl; exact hj hi)] at this
  · intro h j hj
    rw [upd_ne _ _ _ _ (by rintro rfl; exact hj hi)]; exact h j hj
@[simp] theorem keepT_ov {ms : List Nat} {f t : Nat → AV} {i : Nat} {v l} (hi : i ∈ ms) : KeepT ms (ov ((i, v) :: l) f) t = KeepT ms (ov l f) t := by
  apply propext
  constructor
  · intro h j hj
    have := h j hj
    rwa [ov_cons, if_neg (by rintro rfl; exact hj hi)] at this
  · intro h j hj
    rw [ov_cons, if_neg (by rintro rfl; exact hj hi)]; exact h j hj
@[simp] theorem keepT_ovn {ms : List Nat} {f t : Nat → AV} : KeepT ms (ov [] f) t = KeepT ms f t := rfl
@[simp] theorem keepT_mask {ms : List Nat} {tm t : Nat → AV} : KeepT ms (mask ms tm t) t = True := by
  simp only [KeepT, mask_at, eq_iff_iff, iff_true]
  intro j hj; rw [if_neg hj]
@[simp] theorem keepT_mask' {ms ms' : List Nat} {tm t t' : Nat → AV} (h : ∀ j ∈ ms', j ∈ ms) : KeepT ms (mask ms' tm t') t = KeepT ms t' t := by
  apply propext
  constructor
  · intro hk j hj
    have := hk j hj
    rwa [mask_at, if_neg (fun h' => hj (h j h'))] at this
  · intro hk j hj
    rw [mask_at, if_neg (fun h' => hj (h j h'))]; exact hk j hj

section
variable {C : Ctx} {c : Code} {t : Nat → AV} {h : Heap} {nx : Nat} {k : Kont} {σ : Type}

structure NextUp (ms : List Nat) (n : Nat) (T : Nat → σ → List (Nat × AV)) (J : Nat → σ → Heap → Nat → Prop) (t : Nat → AV) (h0 : Heap) (nx0 i : Nat) (next : St → Prop) : Prop where
  go : ∀ a' {t2 h2 n2}, i + 1 ≤ n → AllT t2 (T (i + 1) a') → KeepT ms t2 t → KeepB nx0 h2 h0 → nx0 ≤ n2 → J (i + 1) a' h2 n2 → next ⟨t2, h2, n2⟩
structure NextDn (ms : List Nat) (T : σ → List (Nat × AV)) (μ : σ → Nat) (J : σ → Heap → Nat → Prop) (t : Nat → AV) (h0 : Heap) (nx0 : Nat) (a : σ) (next : St → Prop) : Prop where
  go : ∀ a' {t2 h2 n2}, μ a' < μ a → AllT t2 (T a') → KeepT ms t2 t → KeepB nx0 h2 h0 → nx0 ≤ n2 → J a' h2 n2 → next ⟨t2, h2, n2⟩
end

inductive HasV (n : Nat) : AV → Prop
  | here {p sz xs} : xs.length = n → HasV n (.view p sz xs)
  | agg {cells} {x} : x ∈ cells → HasV n x → HasV n (.agg cells)

def inR (x lo hi : Int) : Bool := decide (lo ≤ x) && decide (x ≤ hi)
section
variable {C : Ctx}
end

def FV (P : Program) (f : AV) (args : List AV) (r : AV) : Prop :=
  match f with
  | .fn g caps => PC P g (args ++ caps) r
  | .bnd g fs => PC P g (fs ++ args) r
  | _ => False
@[simp] theorem FV_fn (P g caps args r) : FV P (.fn g caps) args r = PC P g (args ++ caps) r := rfl
@[simp] theorem FV_bnd (P g fs args r) : FV P (.bnd g fs) args r = PC P g (fs ++ args) r := rfl
inductive IsF : AV → Prop
  | fn (g caps) : IsF (.fn g caps)
  | bnd (g fs) : IsF (.bnd g fs)
theorem Bor.ref0 {h : Heap} {id sz off len : Nat} {xs : List (List AV)} (hid : h id = some (.row sz xs)) (ho : off = 0) (hl : len = xs.length) : Bor h (.ref id sz off len) (.view false sz xs) := by
  subst ho; subst hl
  refine Bor.ref id sz 0 xs.length xs xs hid (by omega) rfl (fun i c d hc hd => ?_) (fun i j x y hx hy => ?_)
  · simp at hc; rw [hc] at hd; cases hd; rfl
  · simp at hx; rw [hx] at hy; cases hy; exact .same _
@[simp] theorem fz_int (k n) : Fz (.int k n) = True := by simp only [eq_iff_iff, iff_true]; exact .int k n
@[simp] theorem fz_bool (b) : Fz (.bool b) = True := by simp only [eq_iff_iff, iff_true]; exact .bool b
@[simp] theorem fz_str (b) : Fz (.str b) = True := by simp only [eq_iff_iff, iff_true]; exact .str b
@[simp] theorem fz_nil : Fz .nil = True := by simp only [eq_iff_iff, iff_true]; exact .nil
def newRow (id sz len : Nat) : Option (List (List AV) × Heap) → Option (AV × Ent)
  | some (xs, _) => some (.ref id sz 0 len, .row sz xs)
  | none => none
@[simp] theorem newRow_some (id sz len xs h) : newRow id sz len (some (xs, h)) = some (.ref id sz 0 len, .row sz xs) := rfl
def newSl (id len : Nat) (parts : List (Nat × AV)) : Option TyD → Option (AV × Ent)
  | some de => if 0 < de.size ∧ len * de.size ≤ 2 ^ 24 ∧ de.zero.all AV.known = true then newRow id de.size len (rowA de.size (fun _ => none) parts (List.replicate len de.zero)) else none
  | none => none
@[simp] theorem newA_bsl {C : Ctx} (id ev t len parts) : newA C id ev (.buildSlice t len parts) = newSl id len (parts.toList.map fun p => (p.1, ev p.2)) (elemOf C t) := by
  simp only [newA, elemOf]
  cases ((C.ty t).bind (·.elem)).bind C.ty with
  | none => rfl
  | some de =>
    simp only [newSl]
    split
    · cases rowA de.size (fun _ => none) (parts.toList.map fun p => (p.1, ev p.2)) (List.replicate len de.zero) with
      | none => rfl
      | some p => cases p; rfl
    · rfl
@[simp] theorem newSl_some (id len parts e) : newSl id len parts (some e) = if 0 < e.size ∧ len * e.size ≤ 2 ^ 24 ∧ e.zero.all AV.known = true then newRow id e.size len (rowA e.size (fun _ => none) parts (List.replicate len e.zero)) else none := rfl
section
variable {C : Ctx} {α : Type} {f : α → List AV} {ys : List α}
end

theorem KeepB.sub {n1 nx : Nat} {h' h1 h : Heap} (hk : KeepB n1 h' h1) (h0 : KeepB nx h1 h) (hle : nx ≤ n1) : KeepB nx h' h := fun j hj => by
  rw [hk j (by omega), h0 j hj]

@[simp] theorem run_mkbnd' {C : Ctx} (d f x fs ty ps af n0 gd i os) (st : St) (k : Kont) :
    runS C n0 gd i (⟨d, .makeFunc (.func f) (x :: fs).toArray #[], ty, ps, af, none⟩ :: os) st k = runS C n0 gd (i + 1) os (st.put d (.bnd f ((x :: fs).map st.ev))) k := by
  simp [runS, runA, stepA]

theorem PC.o {C : Ctx} (ok : C.Ok) {f : FuncId} {fn : Func} {c : Code} {args : List AV} {r : AV} (hf : C.P.funcs[f]? = some fn) (hb : fn.body = some c) (hp : Fz r)
    (hw : ∀ (h : Heap) (nx : Nat), (∀ j, h j ≠ none → j < nx) → goC C c ⟨argT args, h, nx⟩ (.fin (RetP C fn.results.toList nx h r)))
    (hname : (fn.name == "runtime.NumGoroutine") = false := by rfl) (hc : codeOk fn.ntmps c = true := by kernel_rfl) (hargs : args.length ≤ fn.ntmps := by exact Nat.le_of_ble_eq_true rfl) : PC C.P f args r := PC.of ok hf hb hname hc hargs hp hw
theorem FC.o {C : Ctx} (ok : C.Ok) {f : FuncId} {fn : Func} {c : Code} {args : List AV} {r0 : AV} {ents : List Ent} (hf : C.P.funcs[f]? = some fn) (hb : fn.body = some c) (hok : OkR ents.length r0) (hfz : ∀ e ∈ ents, FzE e)
    (hw : ∀ (h : Heap) (nx : Nat), (∀ j, h j ≠ none → j < nx) → goC C c ⟨argT args, h, nx⟩ (.fin (RetF C fn.results.toList nx h r0 ents)))
    (hname : (fn.name == "runtime.NumGoroutine") = false := by rfl) (hc : codeOk fn.ntmps c = true := by kernel_rfl) (hargs : args.length ≤ fn.ntmps := by exact Nat.le_of_ble_eq_true rfl) : FC C.P f args r0 ents := FC.of ok hf hb hname hc hargs hok hfz hw
theorem FC.o1 {C : Ctx} (ok : C.Ok) {f : FuncId} {fn : Func} {c : Code} {args : List AV} {sz : Nat} {rows : List (List AV)} (hf : C.P.funcs[f]? = some fn) (hb : fn.body = some c) (hfz : ∀ i j x, get2 rows i j = some x → Fz x)
    (hw : ∀ (h : Heap) (nx : Nat), (∀ j, h j ≠ none → j < nx) → goC C c ⟨argT args, h, nx⟩ (.fin (Ret1 C fn.results.toList nx h sz rows)))
    (hname : (fn.name == "runtime.NumGoroutine") = false := by rfl) (hc : codeOk fn.ntmps c = true := by kernel_rfl) (hargs : args.length ≤ fn.ntmps := by exact Nat.le_of_ble_eq_true rfl) (hsz : 0 < sz := by decide) : FC C.P f args (.ref 0 sz 0 rows.length) [.row sz rows] := FC.of1 ok hf hb hname hc hargs hsz hfz hw
end Go.AE
end

section
/- Abstract machine: what the arguments read as. -/
namespace Go.AE
open Go.ChangeShapes Go.Deep

inductive Sh where
  | int (k : IntKind)
  | bool
  | str
  | slice (e : Sh)
  | nil
  | cons (s r : Sh)

def Sh.size : Sh → Nat
  | .nil => 0
  | .cons s r => s.size + r.size
  | _ => 1
def Sh.flat : Sh → Bool
  | .int _ | .bool | .nil => true
  | .cons s r => s.flat && r.flat
  | _ => false

def ShR (B : Nat) : Sh → List AV → Prop
  | .int k, l => ∃ n, l = [.int k n] ∧ (Lit.int k n).wf = true
  | .bool, l => ∃ b, l = [.bool b]
  | .str, l => ∃ s, l = [.str s] ∧ s.size ≤ B
  | .slice e, l => l = [.nil] ∨ ∃ xs, l = [.view true e.size xs] ∧ xs.length ≤ B ∧ ∀ c ∈ xs, ShR B e c
  | .nil, l => l = []
  | .cons s r, l => ∃ x y, l = x ++ y ∧ ShR B s x ∧ ShR B r y

theorem ShR.length {B : Nat} : ∀ {s : Sh} {l : List AV}, ShR B s l → l.length = s.size
  | .int k, l, ⟨n, h, _⟩ => by subst h; rfl
  | .bool, l, ⟨n, h⟩ => by subst h; rfl
  | .str, l, ⟨n, h, _⟩ => by subst h; rfl
  | .slice e, l, h => by rcases h with h | ⟨xs, h, _⟩ <;> subst h <;> rfl
  | .nil, l, h => by simp only [ShR] at h; subst h; rfl
  | .cons s r, l, ⟨x, y, h, h1, h2⟩ => by subst h; simp [Sh.size, h1.length, h2.length]

def fsOk (P : Program) (ok : TypeId → Sh → Bool) : Nat → List Field → Sh → Bool
  | _, [], .nil => true
  | off, f :: fs, .cons a b => f.offset == off && ok f.type a && P.cellsOf f.type == a.size && fsOk P ok (off + a.size) fs b
  | _, _, _ => false
def shOk (P : Program) : Nat → TypeId → Sh → Bool
  | 0, _, _ => false
  | n + 1, t, s =>
    match P.underlying t, s with
    | some (.int k), .int k' => decide (k = k')
    | some .bool, .bool => true
    | some .string, .str => true
    | some (.slice e), .slice s => shOk P n e s && P.cellsOf e == s.size && decide (0 < s.size)
    | some (.struct fs), s => fsOk P (shOk P n) 0 fs.toList s && P.cellsOf t == s.size
    | _, _ => false

section
variable {H : Type} {enc : TypeId × Value → H} {P : Program} {w : World} {base : Nat} {spare : Nat → Bool} {held : Bool} {ρ : Names} {I : Imm}

def VRl (ρ : Names) (I : Imm) (w : World) (l : List AV) (cs : List Value) : Prop := cs.length = l.length ∧ ∀ (i : Nat) a u, l[i]? = some a → cs[i]? = some u → VR ρ I w a u

theorem VRl.one {a : AV} {u : Value} (h : VR ρ I w a u) : VRl ρ I w [a] [u] := ⟨rfl, fun i x v hx hv => by
  cases i with
  | zero => simp at hx hv; subst hx; subst hv; exact h
  | succ => simp at hx⟩
theorem VRl.append {a b : List AV} {u v : List Value} (h1 : VRl ρ I w a u) (h2 : VRl ρ I w b v) : VRl ρ I w (a ++ b) (u ++ v) := by
  refine ⟨by simp [h1.1, h2.1], fun i x y hx hy => ?_⟩
  by_cases hi : i < a.length
  · rw [List.getElem?_append_left hi] at hx
    rw [List.getElem?_append_left (by rw [h1.1]; exact hi)] at hy
    exact h1.2 i x y hx hy
  · rw [List.getElem?_append_right (by omega)] at hx
    rw [List.getElem?_append_right (by rw [h1.1]; omega), h1.1] at hy
    exact h2.2 _ x y hx hy

structure Blk (blk : DataW H → Nat) : Prop where
  str : ∀ b, b.length ≤ blk (.lit (.string b))
  len : ∀ es sp, es.length ≤ blk (.slice es sp)
  elem : ∀ es sp, ∀ e ∈ es, blk e ≤ blk (.slice es sp)
  part : ∀ ps, ∀ e ∈ ps, blk e ≤ blk (.agg ps)

mutual
def abulk {H : Type} : DataW H → Nat
  | .lit (.string bytes) => bytes.length + 1
  | .lit _ => 1
  | .nil => 1
  | .ptr d => abulk d + 1
  | .slice elems spare => abulks elems + abulks spare + 1
  | .agg parts => abulks parts + 1
  | .iface _ d => abulk d + 1
  | .map _ => 1
  | .held _ => 1
def abulks {H : Type} : List (DataW H) → Nat
  | [] => 0
  | d :: r => abulk d + abulks r
end
theorem abulk_pos {H : Type} (d : DataW H) : 1 ≤ abulk d := by
  cases d with
  | lit l => cases l <;> simp [abulk]
  | _ => simp [abulk]
theorem abulks_len {H : Type} : ∀ (l : List (DataW H)), l.length ≤ abulks l
  | [] => Nat.le_refl _
  | d :: r => by have := abulk_pos d; have := abulks_len r; simp only [List.length_cons, abulks]; omega
theorem abulks_mem {H : Type} : ∀ (l : List (DataW H)), ∀ e ∈ l, abulk e ≤ abulks l
  | [], e, h => by simp at h
  | d :: r, e, h => by
    simp only [abulks]
    rcases List.mem_cons.1 h with rfl | h
    · omega
    · have := abulks_mem r e h; omega
theorem blkA {H : Type} : Blk (abulk (H := H)) where
  str b := by simp [abulk]
  len es sp := by have := abulks_len es; simp only [abulk]; omega
  elem es sp e he := by have := abulks_mem es e he; simp only [abulk]; omega
  part ps e he := by have := abulks_mem ps e he; simp only [abulk]; omega

theorem fields_vr {blk : DataW H → Nat} {B : Nat} {ok : TypeId → Sh → Bool} {m : Nat} {cs : List Value}
    (ih : ∀ (s : Sh) (t : TypeId) (cs : List Value) (x : DataW H × List MemPlace), ok t s = true → DataW.trod enc P w base spare held m t cs = some x → (blk x.1 ≤ B ∨ s.flat = true) → ∃ l, ShR B s l ∧ VRl ρ I w l cs) :
    ∀ (s : Sh) (fs : List Field) (off : Nat) (xs : List (DataW H × List MemPlace)), fsOk P ok off fs s = true → xs.length = fs.length →
      (∀ (i : Nat) (f : Field), fs[i]? = some f → DataW.trod enc P w base spare held m f.type ((cs.drop f.offset).take (P.cellsOf f.type)) = xs[i]?) →
      ((∀ x ∈ xs, blk x.1 ≤ B) ∨ s.flat = true) → off + s.size ≤ cs.length → ∃ l, ShR B s l ∧ VRl ρ I w l ((cs.drop off).take s.size) := by
  intro s
  induction s with
  | nil =>
    intro fs off xs hok hl hx hb hle
    exact ⟨[], rfl, by simp [Sh.size], fun i a u h => by simp at h⟩
  | cons a b _ ihb =>
    intro fs off xs hok hl hx hb hle
    cases fs with
    | nil => simp [fsOk] at hok
    | cons f fs =>
      cases xs with
      | nil => simp at hl
      | cons x xs =>
        simp only [fsOk, Bool.and_eq_true, beq_iff_eq] at hok
        obtain ⟨⟨⟨h1, h2⟩, h3⟩, h4⟩ := hok
        simp only [Sh.size] at hle
        have ht := hx 0 f rfl
        rw [h1, h3] at ht
        obtain ⟨la, ra, va⟩ := ih a f.type _ x h2 ht (by
          rcases hb with hb | hb
          · exact .inl (hb x (by simp))
          · simp only [Sh.flat, Bool.and_eq_true] at hb; exact .inr hb.1)
        obtain ⟨lb, rb, vb⟩ := ihb fs (off + a.size) xs h4 (by simpa using hl) (fun i g hg => by
          have := hx (i + 1) g (by simpa using hg)
          simpa using this) (by
          rcases hb with hb | hb
          · exact .inl fun x hx => hb x (by simp [hx])
          · simp only [Sh.flat, Bool.and_eq_true] at hb; exact .inr hb.2) (by omega)
        refine ⟨la ++ lb, ⟨la, lb, rfl, ra, rb⟩, ?_⟩
        have e : (cs.drop off).take (Sh.cons a b).size = (cs.drop off).take a.size ++ (cs.drop (off + a.size)).take b.size := by
          simp only [Sh.size]
          rw [List.take_add, List.drop_drop]
        rw [e]
        exact va.append vb
  | _ =>
    intro fs off xs hok
    cases fs <;> simp [fsOk] at hok

theorem trod_vr {blk : DataW H → Nat} {B : Nat} (hblk : Blk blk) (hI : ∀ b, b < w.heap.size → I true b) (hB : B ≤ LIM) : ∀ (n : Nat) (s : Sh) (t : TypeId) (fuel : Nat) (cs : List Value) (x : DataW H × List MemPlace),
    shOk P n t s = true → DataW.trod enc P w base spare held fuel t cs = some x → (blk x.1 ≤ B ∨ s.flat = true) → ∃ l, ShR B s l ∧ VRl ρ I w l cs := by
  intro n
  induction n with
  | zero => intro s t fuel cs x h; simp [shOk] at h
  | succ n ih =>
    intro s t fuel cs x hs ht hb
    unfold shOk at hs
    split at hs
    · rename_i k k' hu
      simp only [decide_eq_true_eq] at hs
      subst hs
      obtain ⟨z, rfl, rfl, hw⟩ := DataW.trod_int hu ht
      exact ⟨[.int k z], ⟨z, rfl, hw⟩, VRl.one (.int k z)⟩
    · rename_i hu
      obtain ⟨z, rfl, rfl⟩ := DataW.trod_bool hu ht
      exact ⟨[.bool z], ⟨z, rfl⟩, VRl.one (.bool z)⟩
    · rename_i hu
      obtain ⟨z, rfl, rfl, hw⟩ := DataW.trod_string hu ht
      refine ⟨[.str z], ⟨z, rfl, ?_⟩, VRl.one (.str z)⟩
      rcases hb with hb | hb
      · exact Nat.le_trans (hblk.str z.data.toList) hb
      · cases hb
    · rename_i e se hu
      simp only [Bool.and_eq_true, beq_iff_eq, decide_eq_true_eq] at hs
      obtain ⟨⟨h1, h2⟩, h3⟩ := hs
      have hb : blk x.1 ≤ B := by
        rcases hb with hb | hb
        · exact hb
        · cases hb
      rcases open_slice hu ht with ⟨rfl, rfl⟩ | ⟨a, len, cap, m, n', D, Pl, rfl, hba, hl, hm, hmm, rfl, hx⟩
      · exact ⟨[.nil], .inl rfl, VRl.one .nil⟩
      · have hlm : len ≤ m := by rw [hmm]; split <;> omega
        have hlen : len ≤ B := by
          have := hblk.len ((List.range len).map D) ((List.range (m - len)).map fun j => D (len + j))
          simp only [List.length_map, List.length_range] at this
          exact Nat.le_trans this hb
        rw [h2] at hx
        have hx' : ∀ i, i < len → ∃ l, ShR B se l ∧ ∃ cs', w.cells? base (a.add (i * se.size)) se.size = some cs' ∧ VRl ρ I w l cs' := by
          intro i hi
          obtain ⟨cs', g1, g2⟩ := hx i (by omega)
          obtain ⟨l, g3, g4⟩ := ih se e n' cs' _ h1 g2 (.inl (Nat.le_trans (hblk.elem _ _ (D i) (List.mem_map.2 ⟨i, List.mem_range.2 hi, rfl⟩)) hb))
          exact ⟨l, g3, cs', g1, g4⟩
        obtain ⟨f, hf⟩ := choose_lt hx'
        refine ⟨[.view true se.size ((List.range len).map f)], .inr ⟨_, rfl, by simpa using hlen, fun c hc => ?_⟩, VRl.one ?_⟩
        · obtain ⟨i, hi, rfl⟩ := List.mem_map.1 hc
          exact (hf i (List.mem_range.1 hi)).1
        · cases len with
          | zero => exact .viewNil ..
          | succ len =>
            have hcell : ∀ i j, i < len + 1 → j < se.size → ∃ u, w.cell? ⟨a.block, a.off + i * se.size + j, none⟩ = some u ∧ ∀ y, (f i)[j]? = some y → VR ρ I w y u := by
              intro i j hi hj
              obtain ⟨_, cs', g1, g2⟩ := hf i hi
              obtain ⟨q1, q2, q3⟩ := World.cells?_some g1
              have q4 := q3 j hj
              rw [List.getElem?_eq_getElem (by omega)] at q4
              have hsp : ((a.add (i * se.size)).add j).spot = none := by
                cases hs : ((a.add (i * se.size)).add j).spot with
                | none => rfl
                | some _ =>
                  unfold World.cell? at q4
                  simp only [hs, Option.isSome_some, if_true] at q4
                  split at q4 <;> cases q4
              have hadd : (a.add (i * se.size)).add j = ⟨a.block, a.off + i * se.size + j, none⟩ := by
                rw [add_add] at hsp ⊢
                unfold Addr.add at hsp ⊢
                split
                · rename_i h0
                  rw [if_pos h0] at hsp
                  cases a; simp_all
                · simp [Nat.add_assoc]
              rw [hadd] at q4
              refine ⟨_, q4, fun y hy => g2.2 j y _ hy (List.getElem?_eq_getElem (by omega))⟩
            have hlt : a.block < w.heap.size := by
              obtain ⟨u, hu, _⟩ := hcell 0 0 (by omega) h3
              unfold World.cell? at hu
              split at hu
              · rename_i heq
                exact (Array.getElem?_eq_some_iff.1 heq).1
              · cases hu
            have hsp : a.spot = none := by
              obtain ⟨_, cs', g1, g2⟩ := hf 0 (by omega)
              obtain ⟨q1, q2, q3⟩ := World.cells?_some g1
              have q4 := q3 0 h3
              rw [List.getElem?_eq_getElem (by omega)] at q4
              simp only [Nat.zero_mul, Addr.add, if_true] at q4
              cases hs : a.spot with
              | none => rfl
              | some _ =>
                unfold World.cell? at q4
                simp only [hs, Option.isSome_some, if_true] at q4
                split at q4 <;> cases q4
            have ha : a = ⟨a.block, a.off, none⟩ := by cases a; simp_all
            have hl1 : ((List.range (len + 1)).map f).length = len + 1 := by simp
            have := VR.view (ρ := ρ) (I := I) (w := w) true se.size ((List.range (len + 1)).map f) a.block a.off cap (hI _ hlt) (by rw [hl1]; omega) (by rw [hl1]; exact hl) (fun i x hx => ?_) (fun i j x hx => ?_) (fun i j x u hx hu => ?_)
            · rw [hl1, ← ha] at this; exact this
            · rw [List.getElem?_map, Option.map_eq_some_iff] at hx
              obtain ⟨i', hi', rfl⟩ := hx
              have := (List.getElem?_eq_some_iff.1 hi')
              obtain ⟨q1, q2⟩ := this
              simp at q1 q2; subst q2
              exact (hf i (by omega)).1.length
            · obtain ⟨cells, q1, q2⟩ := get2_some hx
              rw [List.getElem?_map, Option.map_eq_some_iff] at q1
              obtain ⟨i', hi', rfl⟩ := q1
              obtain ⟨q3, q4⟩ := (List.getElem?_eq_some_iff.1 hi')
              simp at q3 q4; subst q4
              have hj : j < se.size := by rw [← (hf i (by omega)).1.length]; exact (List.getElem?_eq_some_iff.1 q2).1
              obtain ⟨u, hu, _⟩ := hcell i j (by omega) hj
              exact ⟨u, hu⟩
            · obtain ⟨cells, q1, q2⟩ := get2_some hx
              rw [List.getElem?_map, Option.map_eq_some_iff] at q1
              obtain ⟨i', hi', rfl⟩ := q1
              obtain ⟨q3, q4⟩ := (List.getElem?_eq_some_iff.1 hi')
              simp at q3 q4; subst q4
              have hj : j < se.size := by rw [← (hf i (by omega)).1.length]; exact (List.getElem?_eq_some_iff.1 q2).1
              obtain ⟨u', hu', h'⟩ := hcell i j (by omega) hj
              rw [hu'] at hu; cases hu
              exact h' x q2
    · rename_i fs hu

      simp only [Bool.and_eq_true, beq_iff_eq] at hs
      obtain ⟨h1, h2⟩ := hs
      obtain ⟨xs, m, rfl, rfl, hl, hlen, hf⟩ := DataW.trod_struct hu ht
      have := fields_vr (enc := enc) (P := P) (w := w) (base := base) (spare := spare) (held := held) (ρ := ρ) (I := I) (blk := blk) (B := B) (ok := shOk P n) (m := m) (cs := cs)
        (fun s t cs x => ih s t m cs x) _ fs.toList 0 xs h1 (by simpa using hlen) (fun i f hi => hf i f (by simpa using hi)) (by
          rcases hb with hb | hb
          · exact .inl fun x hx => Nat.le_trans (hblk.part _ x.1 (List.mem_map.2 ⟨x, hx, rfl⟩)) hb
          · exact .inr hb) (by omega)
      rw [List.drop_zero, List.take_of_length_le (by omega)] at this
      exact this
    · cases hs
end
end Go.AE
end

section
/- Abstract machine: a law's row. -/
namespace Go.AE
open Go.RowKit Go.ChangeAt

def topA : Sh → List AV → AV
  | .nil, l => .agg l
  | .cons .., l => .agg l
  | _, l => l.headD .dead

def Imm0 (w : World) : Imm := fun _ b => b < w.heap.size

section
variable {H : Type} {enc : TypeId × Value → H} {P : Program} {w : World} {base : Nat} {spare : Nat → Bool} {held : Bool} {ρ : Names} {I : Imm}

theorem VRl.head {a : AV} {l : List AV} {u : Value} {us : List Value} (h : VRl ρ I w (a :: l) (u :: us)) : VR ρ I w a u := h.2 0 a u rfl rfl

theorem arg_vr {blk : DataW H → Nat} {B : Nat} (hblk : Blk blk) (hB : B ≤ LIM) {n : Nat} {s : Sh} {t : TypeId} {v : Value} {d : DataW H} {ps : List MemPlace} {r : Reach} {b0 : Nat} {W : World}
    (hs : shOk P n t s = true) (ht : DataW.Trod enc P W base spare held t v d ps) (hok : Value.okWide P W r b0 t v) (hb : blk d ≤ B ∨ s.flat = true) :
    ∃ l, ShR B s l ∧ VR ρ (Imm0 W) W (topA s l) v := by
  obtain ⟨fuel, ht⟩ := ht
  obtain ⟨l, h1, h2⟩ := trod_vr (ρ := ρ) (I := Imm0 W) hblk (fun b hb => hb) hB n s t fuel _ _ hs ht hb
  refine ⟨l, h1, ?_⟩
  have hlen := h1.length
  cases n with
  | zero => simp [shOk] at hs
  | succ n =>
    unfold shOk at hs
    have one : ∀ (x : Value), v = x → (v.cells.toList = [x]) → l.length = 1 → VR ρ (Imm0 W) W (l.headD .dead) v := by
      intro x hx hc hl
      match l, hl with
      | [a], _ => rw [hc] at h2; rw [hx]; exact h2.head
    have agg : ∀ cs, v = .agg cs → VR ρ (Imm0 W) W (.agg l) v := by
      rintro cs rfl
      exact .agg l cs (by simpa [Value.cells] using h2.1) fun i x u hx hu => h2.2 i x u hx (by simpa [Value.cells] using hu)
    split at hs
    · rename_i k k' hu
      obtain ⟨z, rfl⟩ := WideShapes.okWide_int hu hok
      exact one _ rfl rfl hlen
    · rename_i hu
      have : ∃ z, v = .bool z := by
        simp only [Value.okWide, hu, Cell.okWide] at hok
        cases v <;> simp_all [Cell.ok]
      obtain ⟨z, rfl⟩ := this
      exact one _ rfl rfl hlen
    · rename_i hu
      obtain ⟨z, rfl⟩ := WideShapes.okWide_string hu hok
      exact one _ rfl rfl hlen
    · rename_i e se hu
      obtain ⟨a, len, cap, rfl⟩ := WideShapes.okWide_slice hu hok
      exact one _ rfl rfl hlen
    · rename_i s1 _ _ fs hu
      simp only [Bool.and_eq_true] at hs
      obtain ⟨h3, _⟩ := hs
      simp only [Value.okWide, hu] at hok
      obtain ⟨cs, rfl, _⟩ := hok
      cases s1 with
      | nil => exact agg _ rfl
      | cons a b => exact agg _ rfl
      | _ => cases hfs : fs.toList <;> simp [hfs, fsOk] at h3
    · cases hs
end

theorem vrs1 {ρ I w} {a : AV} {u : Value} (h : VR ρ I w a u) : VRs ρ I w [a] #[u] := ⟨rfl, fun i x v hx hv => by
  match i with
  | 0 => simp at hx hv; subst hx; subst hv; exact h
  | _ + 1 => simp at hx⟩
end Go.AE
end
