/- Abstract machine: calls; every operation; a run of operations; code. -/
import Derived.Test.YtkfdpbhjklaecaaAeSound8
namespace Go.AE
set_option linter.unusedVariables false
set_option linter.unusedSimpArgs false

section
variable {C : Ctx} {N : Nat} {ρ : Names} {I : Imm} {w : World} {st : St} {a : Act} {id : Nat} {K : St → Prop} {o : Oper} {Q : Exit → Act → World → Prop}

theorem s_call (r : SRel N ρ I w st a) (hd : dstOk N o) (f args ats) (ho : o.op = .call { callee := .value f, args := args, argTypes := ats }) {g : FuncId} {caps : List AV} (hf : st.ev f = .fn g caps)
    (h : ACall C.P g (args.toList.map st.ev ++ caps) st.h st.nx fun r h' nx' => K (({ st with h := h', nx := nx' } : St).put o.dst r)) : o.wp C.P a w (After N st ρ I w id K) Q := by
  have hv := r.ev f
  rw [hf] at hv
  generalize hfe : a.eval f = fv at hv
  cases hv with
  | fn _ _ vs hsz hc =>
    obtain ⟨⟨fn, e1, e2, e3⟩, hcall⟩ := h
    have hrun : (execOp a.eval o).run C.P w = .ok (.enter g (args.map a.eval ++ vs)) w := by
      have e2' : ¬ fn.name = "runtime.NumGoroutine" := by simpa using e2
      have e3' : ¬ fn.body = none := by intro h; simp [h] at e3
      simp [execOp, ho, resolve, hfe, Deferred.ofValue, invoke, callFunc, e1, e2', e3']
    unfold Oper.wp
    rw [hrun]
    refine (hcall ρ I w (args.map a.eval ++ vs) r.nm r.hp ⟨by simp [hsz], fun i x u hx hu => ?_⟩).mono ?_
    · by_cases hi : i < args.size
      · rw [List.getElem?_append_left (by simpa using hi)] at hx
        rw [Array.getElem?_append_left (by simpa using hi)] at hu
        simp only [List.getElem?_map, Array.getElem?_toList, Option.map_eq_some_iff, Array.getElem?_map] at hx hu
        obtain ⟨y, hy, rfl⟩ := hx
        obtain ⟨z, hz, rfl⟩ := hu
        rw [hy] at hz; cases hz
        exact r.ev y
      · rw [List.getElem?_append_right (by simp; omega)] at hx
        rw [Array.getElem?_append_right (by simp; omega)] at hu
        exact hc _ x u (by simpa using hx) (by simpa using hu)
    · rintro e w' ⟨v, rv, h', nx', ρ', I', rfl, hK, hvr, H', E, hfr, hnx, hnm⟩
      show After N st ρ I w id K (a.put o.dst v) w'
      refine ⟨_, ρ', I', hK, SRel.put (st := { st with h := h', nx := nx' }) ⟨r.sz, r.df, fun n => E.vr r.hp (r.tm n), H', hnm⟩ hvr hd, by rw [put_h]; exact E, fun i B h => ?_, by simpa using hnx⟩
      rcases hfr i B h with h | h
      · exact .inl h
      · exact .inr (.inr h)

theorem arr1 {α : Type} {xs : Array α} {x : α} (h : xs.toList = [x]) : xs = #[x] := by cases xs; simp_all
theorem arr2 {α : Type} {xs : Array α} {x y : α} (h : xs.toList = [x, y]) : xs = #[x, y] := by cases xs; simp_all

theorem step_sound (ok : C.Ok) (r : SRel N ρ I w st a) (hd : dstOk N o) (hn : ρ id = none) (hid : id < st.nx) (h : stepA C id o st K) : o.wp C.P a w (After N st ρ I w id K) Q := by
  unfold stepA at h
  split at h
  case h_1 x ho => exact s_move r hd x (.inl ho) h
  case h_2 x ho => exact s_move r hd x (.inr ho) h
  case h_3 c x y ho => obtain ⟨b, hc, hK⟩ := h; exact s_pick r hd c x y ho hc hK
  case h_4 e ho => obtain ⟨d, he, hK⟩ := h; exact s_alloc ok r hd hn hid e ho he hK
  case h_5 e x ho => exact s_box r hd hn hid e x ho h.1 h.2
  case h_6 t parts ho =>
    obtain ⟨d, cs, ht, ha, hk, hf, hK⟩ := h
    exact s_build ok r hd t parts ho ht ha (fun p hp => by rw [List.all_eq_true] at hk; exact hk p hp) hf hK
  case h_7 t len parts ho =>
    obtain ⟨d, e, de, xs, h', ht, he, hde, hpos, hlen, hz, hrow, hK⟩ := h
    exact s_buildSlice ok r hd hn hid t len parts ho ht he hde hpos hlen hrow hK
  case h_8 t x ho =>
    split at h
    · rename_i p off hx
      obtain ⟨d, cells, v, ht, hp, hl, hK⟩ := h
      exact s_load_ptr ok r hd t x ho hx ht hp hl hK
    · rename_i p idx off hx
      obtain ⟨d, sz, xs, ht, hp, hlt, hK⟩ := h
      exact s_load_ep ok r hd t x ho hx ht hp hlt hK
    · rename_i cells hx
      obtain ⟨d, v, ht, hl, hK⟩ := h
      exact s_load_vptr ok r hd t x ho hx ht hl hK
    · exact h.elim
  case h_9 t p x ho =>
    obtain ⟨hone, h⟩ := h
    split at h
    · rename_i q off hp
      obtain ⟨d, cells, ht, hq, hl, hle, hK⟩ := h
      exact s_store_ptr ok r hd t p x ho hone hp ht hq hl hle hK
    · rename_i q idx off hp
      obtain ⟨d, sz, xs, vs, h', ht, hf, hq, hl, hle, hlt, hK⟩ := h
      exact s_store_ep ok r hd t p x ho hone hp ht hf hq hl hle hlt hK
    · exact h.elim
  case h_10 x ho => exact s_nilCheck r hd x ho h.1 h.2
  case h_11 op t x y ty ho => obtain ⟨v, hv, hK⟩ := h; exact s_binOp ok r hd op t x y ty ho hv hK
  case h_12 op t x ho =>
    split at h
    · rename_i b hx; exact s_not r hd t x ho hx h
    · rename_i k n hx; exact s_neg r hd t x ho hx h
    · exact h.elim
  case h_13 src dst x ho =>
    split at h
    · rename_i k0 n hx
      obtain ⟨ds, d, k, hs, ht, hk, hK⟩ := h
      obtain ⟨i, u, z, F⟩ := ok.facts hs
      exact s_convert ok r hd src dst x ho hx ht hk ⟨u, F.und⟩ hK
    · exact h.elim
  case h_14 fn first captured ho =>
    split at h
    · rename_i f
      obtain ⟨rfl, hK⟩ := h
      exact s_makeFunc r hd f captured ho hK
    · exact h.elim
  case h_15 t l c ho =>
    split at h
    · rename_i k n k' m hl hc
      obtain ⟨d, e, de, ht, he, hde, hpos, hby, rfl, h0, hlim, hK⟩ := h
      exact s_makeSlice ok r hd hn hid t l c ho ht he hde hpos hby hl hc h0 hlim hK
    · exact h.elim
  case h_16 t x lo hi mx ho =>
    obtain ⟨rfl, d, e, de, n, l, h', ht, he, hde, hl, hlo, hhi, hlh, hhn, hK⟩ := h
    exact s_slice ok r hd t x lo hi ho ht he hde hl (by cases lo <;> exact hlo) (by cases hi <;> exact hhi) hlh hhn hK
  case h_17 s x f ho =>
    obtain ⟨d, off, sz, ft, hs, ha, hf, hsz, hK⟩ := h
    exact s_fieldAddr ok r hd s x f ho hs ha hf hsz hK
  case h_18 t x f ho =>
    obtain ⟨d, off, sz, ft, dt, v, ht, ha, hf, hft, hK⟩ := h
    split at hK
    · rename_i cells hx
      exact s_field ok r hd t x f ho ht ha hf hft hx hK.1 hK.2
    · exact hK.elim
  case h_19 t x i ho =>
    obtain ⟨d, e, de, k, z, ht, he, hde, hi, hK⟩ := h
    exact s_indexAddr ok r hd t x i ho ht he hde hi hK
  case h_20 t x i ho =>
    split at h
    · rename_i s k z hx hi
      obtain ⟨⟨d, ht, hs⟩, ⟨h0, h1⟩, hK⟩ := h
      exact s_index r hd t x i ho (ok.str ht hs) hx hi h0 h1 hK
    · exact h.elim
  case h_21 x i ho =>
    split at h
    · rename_i vs hx
      obtain ⟨v, hv, hK⟩ := h
      exact s_extract r hd x i ho hx hv hK
    · exact h.elim
  case h_22 c ho =>
    obtain ⟨callee, args, ats⟩ := c
    split at h
    · rename_i f hc
      subst hc
      split at h
      · rename_i g caps hf
        exact s_call r hd f args ats ho hf h
      · exact h.elim
    · rename_i hc
      subst hc
      split at h
      · rename_i x t hx ht
        obtain ⟨d, n, b, htd, hl, hb, hK⟩ := h
        have e1 := arr1 hx
        have e2 := arr1 ht
        simp only at e1 e2
        subst e1; subst e2
        exact s_len ok r hd x t ho htd hl hb hK
      · exact h.elim
    · rename_i hc
      subst hc
      split at h
      · rename_i s x t t' hx ht
        obtain ⟨rfl, hK⟩ := h
        have e1 := arr2 hx
        have e2 := arr2 ht
        simp only at e1 e2
        subst e1; subst e2
        exact s_append ok r hd hn hid s x _ ho hK
      · exact h.elim
    · exact h.elim
  case h_23 => exact h.elim

end
end Go.AE
