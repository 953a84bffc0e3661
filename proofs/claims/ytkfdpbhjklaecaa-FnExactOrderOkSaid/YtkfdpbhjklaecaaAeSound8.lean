/- Abstract machine: append. -/
import Derived.Test.YtkfdpbhjklaecaaAeSound7
namespace Go.AE
set_option linter.unusedVariables false
set_option linter.unusedSimpArgs false

section
variable {C : Ctx} {N : Nat} {ρ : Names} {I : Imm} {w : World} {st : St} {a : Act} {id : Nat} {K : St → Prop} {o : Oper} {Q : Exit → Act → World → Prop}

theorem run_append_room' {P : Program} {t ty e : TypeId} {i : TypeInfo} (ht : P.underlying t = some (.slice e)) (hi : P.info? e = some i) {base : Option Addr} {sLen sCap n : Nat} {xv : Value} {news : List Value}
    (hl : (Builtin.lenOf xv).run P w = .ok n w) (hf : (Builtin.firstCells i.size n xv).run P w = .ok news.toArray w) (hroom : sLen + n ≤ sCap) :
    (Builtin.append_ #[t, t] ty #[.slice base sLen sCap, xv]).run P w =
      match base with
      | some a => ((storeCells (a.add (sLen * i.size)) news).run P w).andThen fun _ w' => .ok (.slice base (sLen + n) sCap) w'
      | none => .ok (.slice base (sLen + n) sCap) w := by
  cases base <;> simp [Builtin.append_, run_underlying ht, sizeOf, typeInfo, hi, hl, hroom, hf]

theorem run_append_grow' {P : Program} {t ty e : TypeId} {i : TypeInfo} {z : Value} (ht : P.underlying t = some (.slice e)) (hi : P.info? e = some i) (hz : i.zero = some z) {base : Option Addr} {sLen sCap n : Nat} {xv : Value} {olds news : List Value}
    (hl : ∀ W, (Builtin.lenOf xv).run P W = .ok n W) (ho : (Builtin.firstCells i.size sLen (.slice base sLen sCap)).run P w.drew = .ok olds.toArray w.drew) (hf : (Builtin.firstCells i.size n xv).run P w.drew = .ok news.toArray w.drew)
    (hg : sCap < sLen + n) (h63 : ((sLen + n : Nat) : Int) ≤ 9223372036854775807) (hfit : Builtin.nextslicecap (sLen + n) sCap * i.bytes ≤ 281474976710656) :
    (Builtin.append_ #[t, t] ty #[.slice base sLen sCap, xv]).run P w =
      .ok (.slice (some ⟨w.heap.size, 0, none⟩) (sLen + n) (grownCap w (sLen + n) sCap e)) (w.drew.alloc (.cells (olds.toArray ++ news.toArray ++ Builtin.zeroCells z.cells (grownCap w (sLen + n) sCap e - (sLen + n))) e)) := by
  have hn : ¬ (sLen + n ≤ sCap) := by omega
  have h63' : ¬ (9223372036854775807 < ((sLen : Int) + (n : Int))) := by omega
  have h48' : ¬ (281474976710656 < Builtin.nextslicecap (sLen + n) sCap * i.bytes) := by omega
  simp [Builtin.append_, run_underlying ht, sizeOf, typeInfo, zeroValue, hi, hz, hl, hn, h63', h48', Question.forced, ho, hf, newRow, grownCap]
  congr 2
  apply Array.ext'
  simp

/-- What a header shows, in memory. -/
theorem rowOf_cells (H : HRel ρ I w st.h) {sz : Nat} (hpos : 0 < sz) {x : AV} {xv : Value} {ys : List (List AV)} (hx : rowOf st.h sz x = some ys) (hv : VR ρ I w x xv) :
    ∃ base len cap, xv = .slice base len cap ∧ len = ys.length ∧ ∃ news : List Value, news.length = ys.length * sz ∧
      (∀ W : World, (∀ k, k < w.heap.size → W.heap[k]? = w.heap[k]?) → ∀ P : Program, (Builtin.firstCells sz len xv).run P W = .ok news.toArray W) ∧
      (∀ (i : Nat) c, ys[i]? = some c → c.length = sz) ∧ (∀ (i j : Nat) y u, get2 ys i j = some y → news[i * sz + j]? = some u → VR ρ I w y u) := by
  have empty : ∀ (b : Option Addr) (c : Nat), ys = [] → ∃ base len cap, Value.slice b 0 c = .slice base len cap ∧ len = ys.length ∧ ∃ news : List Value, news.length = ys.length * sz ∧
      (∀ W : World, (∀ k, k < w.heap.size → W.heap[k]? = w.heap[k]?) → ∀ P : Program, (Builtin.firstCells sz len (Value.slice b 0 c)).run P W = .ok news.toArray W) ∧
      (∀ (i : Nat) c, ys[i]? = some c → c.length = sz) ∧ (∀ (i j : Nat) y u, get2 ys i j = some y → news[i * sz + j]? = some u → VR ρ I w y u) := by
    intro b c hy
    subst hy
    refine ⟨b, 0, c, rfl, rfl, [], by simp, fun W _ P => ?_, fun i c h => by simp at h, fun i j y u h _ => by simp [get2] at h⟩
    cases b <;> simp [Builtin.firstCells, loadCells, loadCellsFrom]
  have full : ∀ (b off c : Nat), (∀ (i : Nat) c, ys[i]? = some c → c.length = sz) → b < w.heap.size →
      (∀ (i j : Nat) y, get2 ys i j = some y → ∃ u, w.cell? ⟨b, off + i * sz + j, none⟩ = some u) →
      (∀ (i j : Nat) y u, get2 ys i j = some y → w.cell? ⟨b, off + i * sz + j, none⟩ = some u → VR ρ I w y u) →
      ∃ base len cap, Value.slice (some ⟨b, off, none⟩) ys.length c = .slice base len cap ∧ len = ys.length ∧ ∃ news : List Value, news.length = ys.length * sz ∧
      (∀ W : World, (∀ k, k < w.heap.size → W.heap[k]? = w.heap[k]?) → ∀ P : Program, (Builtin.firstCells sz len (Value.slice (some ⟨b, off, none⟩) ys.length c)).run P W = .ok news.toArray W) ∧
      (∀ (i : Nat) c, ys[i]? = some c → c.length = sz) ∧ (∀ (i j : Nat) y u, get2 ys i j = some y → news[i * sz + j]? = some u → VR ρ I w y u) := by
    intro b off c hlen hb h1 h2
    have hcell : ∀ k, k < ys.length * sz → ∃ u, w.cell? ⟨b, off + k, none⟩ = some u := by
      intro k hk
      have hi : k / sz < ys.length := by rw [Nat.div_lt_iff_lt_mul hpos]; exact hk
      have hj : k % sz < sz := Nat.mod_lt _ hpos
      have hc := List.getElem?_eq_getElem hi
      have hl := hlen _ _ hc
      have hj' : k % sz < (ys[k / sz]).length := by omega
      obtain ⟨u, hu⟩ := h1 (k / sz) (k % sz) _ (by simp [get2, hc]; exact List.getElem?_eq_getElem hj')
      have : off + k / sz * sz + k % sz = off + k := by have := Nat.div_add_mod k sz; rw [Nat.mul_comm] at this; omega
      exact ⟨u, by rw [← this]; exact hu⟩
    refine ⟨_, _, _, rfl, rfl, (List.range (ys.length * sz)).map (fun k => (w.cell? ⟨b, off + k, none⟩).getD undef), by simp, fun W hW P => ?_, hlen, fun i j y u hy hu => ?_⟩
    · simp only [Builtin.firstCells]
      refine run_loadCells W _ _ _ fun k hk => ?_
      obtain ⟨u, hu⟩ := hcell k hk
      rw [Addr.add_lit, World.cell?_of_block (w := w) (a := ⟨b, off + k, none⟩) (hW b hb), hu]; rfl
    · obtain ⟨cs, q1, q2⟩ := get2_some hy
      have hi := (List.getElem?_eq_some_iff.1 q1).1
      have hj : j < sz := by rw [← hlen i cs q1]; exact (List.getElem?_eq_some_iff.1 q2).1
      have hk : i * sz + j < ys.length * sz := by
        have := Nat.mul_le_mul_right sz (show i + 1 ≤ ys.length from hi)
        rw [Nat.add_mul, Nat.one_mul] at this; omega
      obtain ⟨v, hv⟩ := hcell _ hk
      simp [hk, hv] at hu
      subst hu
      exact h2 i j y v hy (by rw [Nat.add_assoc]; exact hv)
  cases hv <;> simp only [rowOf] at hx <;> first | (cases hx; done) | skip
  case nil => cases hx; exact empty _ _ rfl
  case viewNil p s a c => split at hx <;> first | (cases hx; exact empty _ _ rfl) | cases hx
  case view p s xs b off c hp h1 h2 h3 h4 h5 =>
    split at hx
    · rename_i hs; subst hs; cases hx
      exact full b off c h3 (H.immlt _ _ hp) h4 h5
    · cases hx
  case ref0 id s0 off a B hB =>
    split at hx
    · split at hx
      · cases hx; exact empty _ _ (by simp)
      · cases hx
    · cases hx
  case ref id s0 off len b c B hB hb hs0 hc1 hc2 hc3 =>
    split at hx
    · rename_i s ws hid
      split at hx
      · rename_i hc
        obtain ⟨rfl, rfl, hle⟩ := hc
        cases hx
        obtain ⟨B', g1, g2, g3, g4, g5, g6⟩ := H.row id s0 ws hid
        rw [hB] at g1; cases g1
        rcases g6 with ⟨g6, _⟩ | ⟨b', cur, ty, k1, k2, k3, k4, k5, k6⟩
        · rw [hb] at g6; cases g6
        · rw [hb] at k1; cases k1
          have hlen : ((ws.drop off).take len).length = len := by simp; omega
          have hfull := full b (B.off + off * B.sz) c (fun i c h => by
              rw [List.getElem?_take] at h
              split at h
              · rw [List.getElem?_drop] at h; exact g5 _ _ h
              · cases h) ((Array.getElem?_eq_some_iff.1 k2).1) (fun i j y hy => by
              obtain ⟨hg, hi⟩ := get2_drop_take hy
              obtain ⟨cs, q1, q2⟩ := get2_some hg
              have hj : j < s0 := by rw [← g5 _ _ q1]; exact (List.getElem?_eq_some_iff.1 q2).1
              rw [cell_of_row w b _ cur ty _ k2]
              have h1 : off + i + 1 ≤ B.cap := by have := (List.getElem?_eq_some_iff.1 q1).1; omega
              have h2 := Nat.mul_le_mul_right s0 h1
              rw [Nat.add_mul, Nat.add_mul, Nat.one_mul] at h2
              have : B.off + off * B.sz + i * s0 + j < cur.size := by rw [g2]; omega
              exact ⟨_, Array.getElem?_eq_getElem this⟩) (fun i j y u hy hu => by
              obtain ⟨hg, hi⟩ := get2_drop_take hy
              rw [cell_of_row w b _ cur ty _ k2] at hu
              refine k6 (off + i) j y u hg ?_
              rw [← hu, g2, Nat.add_mul, ← Nat.add_assoc])
          rw [hlen] at hfull ⊢
          exact hfull
      · cases hx
    · cases hx

theorem row_append_flat {sz n m : Nat} {xs ys : List (List AV)} {us vs zs : List Value} (hxl : us.length = xs.length * sz)
    (hx2 : ∀ (i : Nat) c, xs[i]? = some c → c.length = sz) (hy2 : ∀ (i : Nat) c, ys[i]? = some c → c.length = sz)
    (hx : ∀ (i j : Nat) y u, get2 xs i j = some y → us[i * sz + j]? = some u → VR ρ I w y u) (hyl : vs.length = ys.length * sz)
    (hy : ∀ (i j : Nat) y u, get2 ys i j = some y → vs[i * sz + j]? = some u → VR ρ I w y u) :
    ∀ (i j : Nat) y u, get2 (xs ++ ys) i j = some y → (us ++ vs ++ zs)[i * sz + j]? = some u → VR ρ I w y u := by
  intro i j y u hg hu
  obtain ⟨cs, q1, q2⟩ := get2_some hg
  by_cases hi : i < xs.length
  · rw [List.getElem?_append_left hi] at q1
    have hj : j < sz := by rw [← hx2 _ _ q1]; exact (List.getElem?_eq_some_iff.1 q2).1
    have hk : i * sz + j < us.length := by
      rw [hxl]
      have := Nat.mul_le_mul_right sz (show i + 1 ≤ xs.length from hi)
      rw [Nat.add_mul, Nat.one_mul] at this; omega
    rw [List.append_assoc, List.getElem?_append_left hk] at hu
    exact hx i j y u (by simp [get2, q1, q2]) hu
  · rw [List.getElem?_append_right (by omega)] at q1
    have hj : j < sz := by rw [← hy2 _ _ q1]; exact (List.getElem?_eq_some_iff.1 q2).1
    have hi2 : i - xs.length < ys.length := (List.getElem?_eq_some_iff.1 q1).1
    have hk : i * sz + j = us.length + ((i - xs.length) * sz + j) := by
      rw [hxl, Nat.sub_mul]
      have := Nat.mul_le_mul_right sz (show xs.length ≤ i by omega)
      omega
    have hk2 : (i - xs.length) * sz + j < vs.length := by
      rw [hyl]
      have := Nat.mul_le_mul_right sz (show i - xs.length + 1 ≤ ys.length from hi2)
      rw [Nat.add_mul, Nat.one_mul] at this; omega
    rw [List.append_assoc, List.getElem?_append_right (by omega), hk] at hu
    have : us.length + ((i - xs.length) * sz + j) - us.length = (i - xs.length) * sz + j := by omega
    rw [this, List.getElem?_append_left hk2] at hu
    exact hy _ j y u (by simp [get2, q1, q2]) hu

theorem s_append (ok : C.Ok) (r : SRel N ρ I w st a) (hd : dstOk N o) (hn : ρ id = none) (hid : id < st.nx) (s x t) (ho : o.op = .call { callee := .builtin .append, args := #[s, x], argTypes := #[t, t] })
    (h : appendA C id (st.ev s) (st.ev x) t st fun r s' => K (s'.put o.dst r)) : o.wp C.P a w (After N st ρ I w id K) Q := by
  obtain ⟨d, e, de, xs, ys, ht, he, hde, hpos, hby, hxs, hys, hlim, hone, hK⟩ := h
  obtain ⟨i, u, z, F⟩ := ok.facts hde
  have hsl := ok.slice ht he
  have hsv := r.ev s
  have hxv := r.ev x
  obtain ⟨xb, xl, xc, hx1, rfl, news, hnl, hnf, hyl, hyr⟩ := rowOf_cells r.hp hpos hys hxv
  have hones : ∀ v ∈ news, v.oneCell' = true := by
    intro v hv
    obtain ⟨k, hk⟩ := List.getElem?_of_mem hv
    have hlt : k < ys.length * de.size := by rw [← hnl]; exact (List.getElem?_eq_some_iff.1 hk).1
    have hi : k / de.size < ys.length := by rw [Nat.div_lt_iff_lt_mul hpos]; exact hlt
    have hj : k % de.size < de.size := Nat.mod_lt _ hpos
    have hc := List.getElem?_eq_getElem hi
    have hj' : k % de.size < (ys[k / de.size]).length := by rw [hyl _ _ hc]; exact hj
    have hkk : k / de.size * de.size + k % de.size = k := by have := Nat.div_add_mod k de.size; rw [Nat.mul_comm] at this; omega
    have hvr := hyr (k / de.size) (k % de.size) (ys[k / de.size][k % de.size]) v (by simp [get2, hc]) (by rw [hkk]; exact hk)
    refine hvr.oneCell ?_
    rw [List.all_eq_true] at hone
    have := hone _ (List.getElem_mem hi)
    rw [List.all_eq_true] at this
    exact this _ (List.getElem_mem hj')
  have hlo : ∀ W, (Builtin.lenOf (a.eval x)).run C.P W = .ok ys.length W := by intro W; rw [hx1]; simp [Builtin.lenOf]
  have hexec : ∀ v w', (Builtin.append_ #[t, t] o.type #[a.eval s, a.eval x]).run C.P w = .ok v w' → (execOp a.eval o).run C.P w = .ok (.value v) w' := by
    intro v w' hr
    simp [execOp, ho, resolve, invoke, builtin, hr]
  -- a new block
  have grow : ∀ (base : Option Addr) (sLen sCap : Nat) (olds : List Value) (h0 : Heap), a.eval s = .slice base sLen sCap → sLen = xs.length → sCap < xs.length + ys.length →
      olds.length = xs.length * de.size → (Builtin.firstCells i.size sLen (.slice base sLen sCap)).run C.P w.drew = .ok olds.toArray w.drew → (∀ (i : Nat) c, xs[i]? = some c → c.length = de.size) →
      (∀ (i j : Nat) y u, get2 xs i j = some y → olds[i * de.size + j]? = some u → VR ρ I w y u) → (∀ i e, h0 i = some e → st.h i = some e) →
      K ((({ st with h := h0 } : St).new id (.row de.size (xs ++ ys))).put o.dst (.ref id de.size 0 (xs ++ ys).length)) → o.wp C.P a w (After N st ρ I w id K) Q := by
    intro base sLen sCap olds h0 hsv' hsLen hcap hol hof hxl hxr hh0 hK
    subst hsLen
    have hbytes : (xs.length + ys.length) * i.bytes ≤ 140737488355328 := by
      rw [F.bytes]
      have h1 := Nat.mul_le_mul hlim hby
      simp only [LIM] at h1; omega
    have hr := run_append_grow' (P := C.P) (w := w) (ty := o.type) hsl F.info F.zero (base := base) (sLen := xs.length) (sCap := sCap) (n := ys.length) (xv := a.eval x) (olds := olds) (news := news)
      hlo hof (by rw [F.size]; exact hnf w.drew (fun k _ => rfl) C.P) hcap (by simp only [LIM] at hlim; omega) (growslice_fits hcap hbytes)
    rw [← hsv'] at hr
    have hge := grownCap_ge w (xs.length + ys.length) sCap e
    have hcm : grownCap w (xs.length + ys.length) sCap e ≤ maxLen := grownCap_le_maxLen w _ sCap e (by simp only [LIM] at hlim; simp only [maxLen]; omega)
    generalize hnc : grownCap w (xs.length + ys.length) sCap e = nc at hr hge hcm
    have hsize : (olds.toArray ++ news.toArray ++ Builtin.zeroCells z.cells (nc - (xs.length + ys.length))).size = nc * de.size := by
      simp [size_zeroCells, F.zsize, hol, hnl]
      rw [← Nat.add_mul, ← Nat.add_mul]
      congr 1; omega
    have hmono : ∀ x u, VR ρ I w x u → VR (upd ρ id (some ⟨some w.heap.size, 0, nc, de.size⟩)) I (w.drew.alloc (.cells (olds.toArray ++ news.toArray ++ Builtin.zeroCells z.cells (nc - (xs.length + ys.length))) e)) x u :=
      fun x u hv => hv.mono (fun j B' hB => by
        have : j ≠ id := fun e => by subst e; rw [hn] at hB; cases hB
        rw [upd_ne _ _ _ _ this]; exact hB) (fun _ _ h => h) (fun p b hb => heap_alloc_old w.drew _ _ (r.hp.immlt p b hb))
    refine s_new (B0 := ⟨some w.heap.size, 0, nc, de.size⟩) (h0 := h0) r hd hn hid (hexec _ _ hr) hh0 (.inr rfl) (fun k hk => heap_alloc_old w.drew _ k hk) (by simp) rfl rfl rfl ?_ ?_ hK
    · refine ⟨_, upd_same .., rfl, hpos, by simpa using hlim, fun i c hc => ?_, .inr ⟨w.heap.size, _, e, rfl, heap_alloc_new w.drew _, by simp only [Nat.zero_add]; rw [hsize]; exact Nat.le_refl _, by simpa using hge, hcm, fun k j y u hg hu => hmono _ _ ?_⟩⟩
      · by_cases hi : i < xs.length
        · rw [List.getElem?_append_left hi] at hc; exact hxl _ _ hc
        · rw [List.getElem?_append_right (by omega)] at hc; exact hyl _ _ hc
      · simp only [Nat.zero_add] at hu
        refine row_append_flat (sz := de.size) (n := 0) (m := 0) (us := olds) (vs := news) (zs := (Builtin.zeroCells z.cells (nc - (xs.length + ys.length))).toList) hol hxl hyl hxr hnl hyr k j y u hg ?_
        rw [← hu, ← Array.getElem?_toList]
        congr 1
        simp
    · have := VR.ref (ρ := upd ρ id (some ⟨some w.heap.size, 0, nc, de.size⟩)) (I := I) (w := w.drew.alloc (.cells (olds.toArray ++ news.toArray ++ Builtin.zeroCells z.cells (nc - (xs.length + ys.length))) e)) id de.size 0 (xs ++ ys).length w.heap.size nc _ (upd_same ..) rfl rfl (by simp) (by simpa using hge) (by simpa using hlim)
      simpa using this
  have none_room : ∀ (ba : Option Addr) (h0 : Heap), a.eval s = .slice ba 0 0 → xs = [] → ys.length = 0 → (∀ i e, h0 i = some e → st.h i = some e) →
      K ((({ st with h := h0 } : St).new id (.row de.size (xs ++ ys))).put o.dst (.ref id de.size 0 (xs ++ ys).length)) → o.wp C.P a w (After N st ρ I w id K) Q := by
    intro ba h0 hsv' hx0 hy0 hh0 hK
    have hy : ys = [] := List.eq_nil_of_length_eq_zero hy0
    subst hy
    subst hx0
    have hnews : news = [] := List.eq_nil_of_length_eq_zero (by simpa using hnl)
    subst hnews
    have hr : (Builtin.append_ #[t, t] o.type #[a.eval s, a.eval x]).run C.P w = .ok (.slice ba 0 0) w := by
      rw [hsv']
      have := run_append_room' (P := C.P) (w := w) (ty := o.type) hsl F.info (base := ba) (sLen := 0) (sCap := 0) (n := 0) (xv := a.eval x) (news := []) (hlo w) (by rw [F.size]; exact hnf w (fun _ _ => rfl) C.P) (Nat.le_refl _)
      rw [this]
      cases ba <;> simp [storeCells]
    refine s_new (B0 := ⟨none, 0, 0, de.size⟩) (h0 := h0) r hd hn hid (hexec _ _ hr) hh0 (.inl rfl) (fun k hk => rfl) (Nat.le_refl _) rfl rfl rfl ?_ ?_ hK
    · exact ⟨_, upd_same .., rfl, hpos, by simp [LIM], fun i c hc => by simp at hc, .inl ⟨rfl, rfl, rfl⟩⟩
    · exact .ref0 id de.size 0 ba _ (upd_same ..)
  generalize hse : st.ev s = sv at hsv hK hxs
  cases sv <;> simp only at hK <;> first | exact hK.elim | skip
  case nil =>
    simp only [rowOf] at hxs
    cases hxs
    have hs0 := hsv.nil_inv
    by_cases hy0 : ys.length = 0
    · exact none_room none st.h hs0 rfl hy0 (fun _ _ h => h) hK
    · exact grow none 0 0 [] st.h hs0 rfl (by simp; omega) (by simp) (by simp [Builtin.firstCells]) (fun i c hc => by simp at hc) (fun i j y u hg _ => by simp [get2] at hg) (fun _ _ h => h) hK
  case ref id' s0 off len =>
    obtain ⟨hend, hK⟩ := hK
    have hh0 : ∀ i e, upd st.h id' none i = some e → st.h i = some e := by
      intro i e h
      by_cases hi : i = id'
      · subst hi; simp at h
      · rwa [upd_ne _ _ _ _ hi] at h
    obtain ⟨sb, sl, sc, hs1, hsl', olds, hol, hof, hxl, hxr⟩ := rowOf_cells r.hp hpos hxs hsv
    subst hsl'
    by_cases hroom : xs.length + ys.length ≤ sc
    · generalize hsv' : a.eval s = sv' at hsv hs1
      cases hsv with
      | ref0 _ _ _ ba B hB =>
        simp only [Value.slice.injEq] at hs1
        obtain ⟨e1, e2, e3⟩ := hs1
        have hx0 : xs = [] := List.eq_nil_of_length_eq_zero (by omega)
        exact none_room ba _ hsv' hx0 (by omega) hh0 hK
      | ref _ _ _ _ b c B hB hb hs0 hc1 hc2 hc3 =>
        simp only [Value.slice.injEq] at hs1
        obtain ⟨e1, rfl, rfl⟩ := hs1
        simp only [rowOf] at hxs
        cases hrow : st.h id' with
        | none => rw [hrow] at hxs; cases hxs
        | some ent =>
          rw [hrow] at hxs
          cases ent with
          | obj => cases hxs
          | row s' ws =>
            simp only at hxs
            split at hxs
            · rename_i hc
              obtain ⟨rfl, rfl, hle⟩ := hc
              simp only [Option.some.injEq] at hxs
              obtain ⟨B', g1, g2, g3, g4, g5, g6⟩ := r.hp.row id' _ ws hrow
              rw [hB] at g1; cases g1
              rcases g6 with ⟨g6, _⟩ | ⟨b', cur, ty, k1, k2, k3, k4, k5, k6⟩
              · rw [hb] at g6; cases g6
              · rw [hb] at k1; cases k1
                have hoffc := Nat.mul_le_mul_right de.size hc1
                rw [Nat.add_mul] at hoffc
                have hroomc := Nat.mul_le_mul_right de.size hroom
                rw [Nat.add_mul] at hroomc
                have hst := run_storeCells_at C.P b (B.off + off * B.sz + xs.length * de.size) ty news 0 cur w k2 (by rw [hnl, g2]; omega) hones
                simp only [Nat.add_zero] at hst
                have hr : (Builtin.append_ #[t, t] o.type #[a.eval s, a.eval x]).run C.P w = .ok (.slice (some ⟨b, B.off + off * B.sz, none⟩) (xs.length + ys.length) c)
                    (w.setRow b (cur.toList.take (B.off + off * B.sz + xs.length * de.size) ++ news ++ cur.toList.drop (B.off + off * B.sz + xs.length * de.size + news.length)).toArray) := by
                  rw [hsv']
                  rw [run_append_room' (P := C.P) (w := w) (ty := o.type) hsl F.info (hlo w) (by rw [F.size]; exact hnf w (fun _ _ => rfl) C.P) hroom]
                  simp only [Addr.add_lit, F.size, hst, Result.andThen_ok]
                have hidne : id ≠ id' := fun e => by rw [← e, hn] at hB; cases hB
                have hρ : ∀ j B', ρ j = some B' → upd ρ id (some (⟨some b, B.off + off * B.sz, c, de.size⟩ : Base)) j = some B' := by
                  intro j B' hB'
                  have : j ≠ id := fun e => by subst e; rw [hn] at hB'; cases hB'
                  rw [upd_ne _ _ _ _ this]; exact hB'
                have hold : ∀ i e, i ≠ id → upd (upd st.h id' none) id (some (Ent.row de.size (xs ++ ys))) i = some e → st.h i = some e := fun i e hne h => hh0 i e (by rwa [upd_ne _ _ _ _ hne] at h)
                have hw : ∀ k, k < w.heap.size → some b ≠ some k → (w.setRow b (cur.toList.take (B.off + off * B.sz + xs.length * de.size) ++ news ++ cur.toList.drop (B.off + off * B.sz + xs.length * de.size + news.length)).toArray).heap[k]? = w.heap[k]? :=
                  fun k hk hne => setRow_other w b k _ (fun e => hne (by rw [e]))
                have hmono : ∀ x u, VR ρ I w x u → VR (upd ρ id (some (⟨some b, B.off + off * B.sz, c, de.size⟩ : Base))) I (w.setRow b (cur.toList.take (B.off + off * B.sz + xs.length * de.size) ++ news ++ cur.toList.drop (B.off + off * B.sz + xs.length * de.size + news.length)).toArray) x u :=
                  fun x u hv => hv.mono hρ (fun _ _ h => h) (fun p k hk => setRow_other w b k _ (by rintro rfl; exact r.hp.imm id' _ B k p hrow hB hb hk))
                have hlenws : off + xs.length = ws.length := hend _ _ hrow
                have hrel : EntR (upd ρ id (some (⟨some b, B.off + off * B.sz, c, de.size⟩ : Base))) I (w.setRow b (cur.toList.take (B.off + off * B.sz + xs.length * de.size) ++ news ++ cur.toList.drop (B.off + off * B.sz + xs.length * de.size + news.length)).toArray) id (.row de.size (xs ++ ys)) := by
                  have hsp : B.off + off * B.sz + xs.length * de.size + news.length ≤ cur.toList.length := by simp only [Array.length_toList]; rw [hnl, g2]; omega
                  refine ⟨_, upd_same .., rfl, hpos, by simpa using hlim, fun i c hc => ?_, .inr ⟨b, _, ty, rfl, setRow_heap w b cur _ ty _ k2, ?_, by simpa using hroom, (by show c ≤ maxLen; omega), fun k j y u hg hu => hmono _ _ ?_⟩⟩
                  · by_cases hi : i < xs.length
                    · rw [List.getElem?_append_left hi] at hc; exact hxl _ _ hc
                    · rw [List.getElem?_append_right (by omega)] at hc; exact hyl _ _ hc
                  · have e2 := splice_len cur.toList news (B.off + off * B.sz + xs.length * de.size) hsp
                    rw [List.size_toArray, e2, Array.length_toList]
                    simp only [g2]; omega
                  · have e2 := splice_get cur.toList news (B.off + off * B.sz + xs.length * de.size) (B.off + off * B.sz + k * de.size + j) hsp
                    rw [List.getElem?_toArray, e2] at hu
                    obtain ⟨cs, q1, q2⟩ := get2_some hg
                    by_cases hk : k < xs.length
                    · rw [List.getElem?_append_left hk] at q1
                      have hj : j < de.size := by rw [← hxl _ _ q1]; exact (List.getElem?_eq_some_iff.1 q2).1
                      have hkk := Nat.mul_le_mul_right de.size (show k + 1 ≤ xs.length from hk)
                      rw [Nat.add_mul, Nat.one_mul] at hkk
                      rw [if_neg (by omega), Array.getElem?_toList] at hu
                      refine k6 (off + k) j y u ?_ ?_
                      · have q1' : ((ws.drop off).take xs.length)[k]? = some cs := by rw [hxs]; exact q1
                        rw [List.getElem?_take, if_pos hk, List.getElem?_drop] at q1'
                        simp [get2, q1', q2]
                      · rw [← hu, g2, Nat.add_mul, ← Nat.add_assoc]
                    · rw [List.getElem?_append_right (by omega)] at q1
                      have hj : j < de.size := by rw [← hyl _ _ q1]; exact (List.getElem?_eq_some_iff.1 q2).1
                      have hi2 : k - xs.length < ys.length := (List.getElem?_eq_some_iff.1 q1).1
                      have hkk := Nat.mul_le_mul_right de.size (show k - xs.length + 1 ≤ ys.length from hi2)
                      rw [Nat.add_mul, Nat.one_mul] at hkk
                      have hks : k * de.size = xs.length * de.size + (k - xs.length) * de.size := by rw [← Nat.add_mul]; congr 1; omega
                      rw [if_pos (by rw [hnl]; omega)] at hu
                      have : B.off + off * B.sz + k * de.size + j - (B.off + off * B.sz + xs.length * de.size) = (k - xs.length) * de.size + j := by omega
                      rw [this] at hu
                      exact hyr _ j y u (by simp [get2, q1, q2]) hu
                have hdisj : ∀ i e B' b', i ≠ id → upd (upd st.h id' none) id (some (Ent.row de.size (xs ++ ys))) i = some e → ρ i = some B' → some b = some b' → B'.blk ≠ some b' := by
                  intro i e B' b' hne hi hB' hbb
                  cases hbb
                  rw [upd_ne _ _ _ _ hne] at hi
                  have hi' : i ≠ id' := fun e => by subst e; simp at hi
                  exact r.hp.sep id' i _ e B B' b hrow (hh0 i e hi) (fun e => hi' e.symm) hB hB' hb
                have H' := HRel.replace (h' := upd (upd st.h id' none) id (some (Ent.row de.size (xs ++ ys)))) r.hp (B0 := ⟨some b, B.off + off * B.sz, c, de.size⟩) hρ hold (upd_same ..) (upd_same ..) hdisj
                  (fun b' p hb' hi => by cases hb'; exact r.hp.imm id' _ B b p hrow hB hb hi) hw (by simp) hrel
                have E' := Ext.replace (h' := upd (upd st.h id' none) id (some (Ent.row de.size (xs ++ ys)))) r.hp (B0 := ⟨some b, B.off + off * B.sz, c, de.size⟩) hρ hold (upd_same ..) (upd_same ..)
                  (fun b' hb' => by cases hb'; exact .inl ⟨id', _, B, hrow, hB, hb⟩) hw (by simp) rfl rfl rfl
                unfold Oper.wp
                rw [hexec _ _ hr]
                show After N st ρ I w id K (a.put o.dst _) _
                refine ⟨_, _, I, hK, ?_, by rw [put_h]; exact E', fun i B' h => ?_, by simp [St.new]⟩
                · refine SRel.put (st := ({ st with h := upd st.h id' none } : St).new id (.row de.size (xs ++ ys))) ⟨r.sz, r.df, fun n => E'.vr r.hp (r.tm n), H', fun i B' h => ?_⟩ ?_ hd
                  · show i < st.nx
                    by_cases hi : i = id
                    · subst hi; exact hid
                    · rw [upd_ne _ _ _ _ hi] at h; exact r.nm i B' h
                  · have := VR.ref (ρ := upd ρ id (some (⟨some b, B.off + off * B.sz, c, de.size⟩ : Base))) (I := I) (w := w.setRow b (cur.toList.take (B.off + off * B.sz + xs.length * de.size) ++ news ++ cur.toList.drop (B.off + off * B.sz + xs.length * de.size + news.length)).toArray) id de.size 0 (xs ++ ys).length b c _ (upd_same ..) rfl rfl (by simp) (by simpa using hroom) (by simpa using hlim)
                    simpa using this
                · by_cases hi : i = id
                  · exact .inr (.inl hi)
                  · rw [upd_ne _ _ _ _ hi] at h; exact .inl h
            · cases hxs
    · exact grow sb xs.length sc olds (upd st.h id' none) hs1 rfl (by omega) hol (by rw [← hs1, F.size]; exact hof w.drew (fun _ _ => rfl) C.P) hxl hxr hh0 hK

end
end Go.AE
