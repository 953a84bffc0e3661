/- Abstract machine: building rows, stores. -/
import Derived.Test.YtkfdpbhjklaecaaAeSound5
namespace Go.AE
set_option linter.unusedVariables false
set_option linter.unusedSimpArgs false

section
variable {C : Ctx} {N : Nat} {ρ : Names} {I : Imm} {w : World} {st : St} {a : Act} {id : Nat} {K : St → Prop} {o : Oper} {Q : Exit → Act → World → Prop}

/-- A list of elements against flat cells. -/
def FlatR (ρ : Names) (I : Imm) (w : World) (sz : Nat) (xs : List (List AV)) (us : Array Value) : Prop :=
  us.size = xs.length * sz ∧ (∀ (i : Nat) x, xs[i]? = some x → x.length = sz) ∧
  ∀ (i j : Nat) x u, get2 xs i j = some x → us[i * sz + j]? = some u → VR ρ I w x u

theorem get2_set {xs : List (List AV)} {i k j : Nat} {cs : List AV} {x : AV} (hk : k < xs.length) (h : get2 (xs.set k cs) i j = some x) :
    (i = k ∧ cs[j]? = some x) ∨ (i ≠ k ∧ get2 xs i j = some x) := by
  obtain ⟨cells, h1, h2⟩ := get2_some h
  by_cases hi : i = k
  · subst hi
    rw [List.getElem?_set_self hk] at h1
    cases h1
    exact .inl ⟨rfl, h2⟩
  · rw [List.getElem?_set_ne (fun e => hi e.symm)] at h1
    exact .inr ⟨hi, by simp [get2, h1, h2]⟩

theorem flat_idx {sz i j k l : Nat} (hj : j < sz) (hl : l < sz) (h : i * sz + j = k * sz + l) : i = k ∧ j = l := by
  have h1 : (i * sz + j) / sz = i := by rw [Nat.add_comm, Nat.add_mul_div_right _ _ (by omega), Nat.div_eq_of_lt hj]; omega
  have h2 : (k * sz + l) / sz = k := by rw [Nat.add_comm, Nat.add_mul_div_right _ _ (by omega), Nat.div_eq_of_lt hl]; omega
  have : i = k := by rw [← h1, h, h2]
  exact ⟨this, by subst this; omega⟩

/-- A part of one element replaced, in the list and in the cells. -/
theorem FlatR.splice {sz : Nat} {xs : List (List AV)} {us : Array Value} (F : FlatR ρ I w sz xs us) {k off : Nat} {cs vs : List AV} {uv : Array Value} (hcs : xs[k]? = some cs)
    (hl : uv.size = vs.length) (hle : off + vs.length ≤ sz) (hv : ∀ (j : Nat) x u, vs[j]? = some x → uv[j]? = some u → VR ρ I w x u) :
    FlatR ρ I w sz (xs.set k (splice cs off vs)) (us.toList.take (k * sz + off) ++ uv.toList ++ us.toList.drop (k * sz + off + uv.size)).toArray := by
  obtain ⟨h1, h2, h3⟩ := F
  have hk : k < xs.length := (List.getElem?_eq_some_iff.1 hcs).1
  have hcl : cs.length = sz := h2 k cs hcs
  have hbound : k * sz + sz ≤ us.size := by
    rw [h1]
    have := Nat.mul_le_mul_right sz (show k + 1 ≤ xs.length from hk)
    rwa [Nat.add_mul, Nat.one_mul] at this
  have hul : (us.toList.take (k * sz + off) ++ uv.toList ++ us.toList.drop (k * sz + off + uv.size)).length = us.size := by
    have := splice_len us.toList uv.toList (k * sz + off) (by simp; omega)
    simpa using this
  refine ⟨by simp only [List.size_toArray]; rw [hul, h1, List.length_set], fun i x hx => ?_, fun i j x u hx hu => ?_⟩
  · by_cases hi : i = k
    · subst hi
      rw [List.getElem?_set_self hk] at hx
      cases hx
      unfold AE.splice
      rw [splice_len _ _ _ (by omega), hcl]
    · rw [List.getElem?_set_ne (fun e => hi e.symm)] at hx
      exact h2 i x hx
  · rw [List.getElem?_toArray] at hu
    have e := splice_get us.toList uv.toList (k * sz + off) (i * sz + j) (by simp; omega)
    simp only [Array.length_toList, Array.getElem?_toList] at e
    rw [e] at hu
    rcases get2_set hk hx with ⟨rfl, hx2⟩ | ⟨hne, hx2⟩
    · have hj : j < sz := by
        have := (List.getElem?_eq_some_iff.1 hx2).1
        unfold AE.splice at this
        rw [splice_len _ _ _ (by omega)] at this
        omega
      unfold AE.splice at hx2
      rw [splice_get _ _ _ _ (by omega)] at hx2
      by_cases hin : off ≤ j ∧ j < off + vs.length
      · rw [if_pos hin] at hx2
        rw [if_pos (by omega)] at hu
        have : i * sz + j - (i * sz + off) = j - off := by omega
        rw [this] at hu
        exact hv _ x u hx2 hu
      · rw [if_neg hin] at hx2
        rw [if_neg (by omega)] at hu
        exact h3 i j x u (by simp [get2, hcs, hx2]) hu
    · have hj : j < sz := by
        obtain ⟨cells, q1, q2⟩ := get2_some hx2
        rw [← h2 i cells q1]; exact (List.getElem?_eq_some_iff.1 q2).1
      have hout : ¬ (k * sz + off ≤ i * sz + j ∧ i * sz + j < k * sz + off + uv.size) := by
        rintro ⟨g1, g2⟩
        have : i * sz + j = k * sz + (i * sz + j - k * sz) := by omega
        exact hne (flat_idx hj (by omega) this).1
      rw [if_neg hout] at hu
      exact h3 i j x u hx2 hu

theorem FlatR.mono {ρ' I' w'} {sz : Nat} {xs : List (List AV)} {us : Array Value} (F : FlatR ρ I w sz xs us) (h : ∀ x u, VR ρ I w x u → VR ρ' I' w' x u) : FlatR ρ' I' w' sz xs us :=
  ⟨F.1, F.2.1, fun i j x u hx hu => h _ _ (F.2.2 i j x u hx hu)⟩

theorem rowA_sound {n : Nat} (place : Nat → Option (Nat × Nat)) (hp : ∀ i, place i = some (i * n, n)) : ∀ (parts : List (Nat × AV)) (vparts : List (Nat × Value)) (h h' : Heap) (I : Imm) (xs xs' : List (List AV)) (us : Array Value),
    HRel ρ I w h → parts.length = vparts.length → (∀ (j : Nat) i x i' v, parts[j]? = some (i, x) → vparts[j]? = some (i', v) → i = i' ∧ VR ρ I w x v) →
    FlatR ρ I w n xs us → rowA n h parts xs = some (xs', h') →
    ∃ us' I', Instr.fill place us vparts = some us' ∧ HRel ρ I' w h' ∧ Ext h ρ I w h' ρ I' w ∧ FlatR ρ I' w n xs' us' ∧ xs'.length = xs.length := by
  intro parts
  induction parts with
  | nil =>
    intro vparts h h' I xs xs' us H hl _ F hf
    cases vparts with
    | nil => simp [rowA] at hf; obtain ⟨rfl, rfl⟩ := hf; exact ⟨us, I, rfl, H, Ext.refl, F, rfl⟩
    | cons => simp at hl
  | cons p parts ih =>
    intro vparts h h' I xs xs' us H hl hrel F hf
    cases vparts with
    | nil => simp at hl
    | cons q vparts =>
      obtain ⟨i, x⟩ := p
      obtain ⟨i', v⟩ := q
      obtain ⟨rfl, hx⟩ := hrel 0 i x i' v rfl rfl
      simp only [rowA] at hf
      split at hf
      · rename_i hc
        obtain ⟨hc1, hc2, hk⟩ := hc
        cases hz : frz h x.cells with
        | none => rw [hz] at hf; cases hf
        | some q =>
          obtain ⟨cs, h1⟩ := q
          rw [hz] at hf
          simp only at hf
          obtain ⟨g1, g2⟩ := hx.cellsOf hk
          obtain ⟨I1, H1, E1, hl1, hv1⟩ := frz_sound x.cells h h1 I cs v.cells.toList H hz (by simpa using g1) (fun i y u hy hu => g2 i y u hy (by simpa using hu))
          have hxi := List.getElem?_eq_getElem hc2
          have hlen : (xs[i]).length = n := F.2.1 i _ hxi
          have F1 := (F.mono (fun x u h => E1.vr H h)).splice (k := i) (off := 0) (vs := cs) (uv := v.cells) hxi (by omega) (by omega) (fun j y u hy hu => hv1 j y u hy (by simpa using hu))
          have hsp : splice xs[i] 0 cs = cs := by
            unfold splice
            rw [List.drop_eq_nil_of_le (by omega)]
            simp
          rw [hsp] at F1
          have hbound : i * n + n ≤ us.size := by
            rw [F.1]
            have := Nat.mul_le_mul_right n (show i + 1 ≤ xs.length from hc2)
            rwa [Nat.add_mul, Nat.one_mul] at this
          obtain ⟨us', I', r1, r2, r3, r4, r5⟩ := ih vparts h1 h' I1 (xs.set i cs) xs' _ H1 (by simpa using hl)
            (fun j i y i' u h h' => by have := hrel (j + 1) i y i' u h h'; exact ⟨this.1, E1.vr H this.2⟩) F1 hf
          refine ⟨us', I', ?_, r2, E1.trans r3, r4, by rw [r5, List.length_set]⟩
          have hfold := foldl_set_get v.cells.toList (i * n) 0 us (by simp; omega)
          simp only [Nat.add_zero, Array.length_toList] at hfold
          have hz : (v.cells.zipIdx.foldl (fun cs (c, j) => cs.setIfInBounds (i * n + j) c) us) = (us.toList.take (i * n) ++ v.cells.toList ++ us.toList.drop (i * n + v.cells.size)).toArray := by
            apply Array.ext'
            rw [← Array.foldl_toList, Array.toList_zipIdx]
            simpa using hfold
          simp only [Instr.fill, hp]
          rw [hz]
          rw [if_neg (by simp; omega)]
          exact r1
      · cases hf

theorem zeroRow_flat {z : Value} {d : TyD} {n : Nat} (hpos : 0 < d.size) (hzl : d.zero.length = d.size) (hzs : z.cells.size = d.size)
    (hz : ∀ (j : Nat) x u, d.zero[j]? = some x → z.cells[j]? = some u → VR ρ I w x u) :
    FlatR ρ I w d.size (List.replicate n d.zero) ((Array.range (n * d.size)).map (z.cells[· % z.cells.size]!)) := by
  refine ⟨by simp, fun i x hx => ?_, fun i j x u hx hu => ?_⟩
  · rw [List.getElem?_replicate] at hx
    split at hx
    · cases hx; exact hzl
    · cases hx
  · obtain ⟨cells, h1, h2⟩ := get2_some hx
    rw [List.getElem?_replicate] at h1
    split at h1
    · rename_i hi
      cases h1
      have hj : j < d.size := by rw [← hzl]; exact (List.getElem?_eq_some_iff.1 h2).1
      refine hz j x u h2 ?_
      have hlt : i * d.size + j < n * d.size := by
        have := Nat.mul_le_mul_right d.size (show i + 1 ≤ n from hi)
        rw [Nat.add_mul, Nat.one_mul] at this
        omega
      have hmod : (i * d.size + j) % d.size = j := by rw [Nat.add_comm, Nat.add_mul_mod_self_right, Nat.mod_eq_of_lt hj]
      have hjz : j < z.cells.size := by omega
      simp [hlt, hzs, hmod, hjz] at hu
      rw [← hu]; simp [hjz]
    · cases h1

theorem row_of_flat {us : Array Value} {xs : List (List AV)} {sz : Nat} {ty : TypeId} {ρ' : Names} {w' : World} (hpos : 0 < sz) (hlim : xs.length ≤ LIM) (F : FlatR ρ' I w' sz xs us) {b : Nat}
    (hB : ρ' id = some ⟨some b, 0, xs.length, sz⟩) (hheap : w'.heap[b]? = some (.cells us ty (0, 0))) : EntR ρ' I w' id (.row sz xs) := by
  refine ⟨_, hB, rfl, hpos, hlim, F.2.1, .inr ⟨b, us, ty, rfl, hheap, by simp [F.1], Nat.le_refl _, by simp only [maxLen]; simp only [LIM] at hlim; omega, fun i j x u hx hu => ?_⟩⟩
  simp only [Nat.zero_add] at hu
  exact F.2.2 i j x u hx hu

theorem mono_new {ρ : Names} {I : Imm} {w : World} {h : Heap} (H : HRel ρ I w h) {id : Nat} {B : Base} (hn : ρ id = none) (ob : Obj) {x u} (hv : VR ρ I w x u) : VR (upd ρ id (some B)) I (w.alloc ob) x u := by
  refine hv.mono (fun j B' hB => ?_) (fun _ _ h => h) (fun p b hb => heap_alloc_old w _ _ (H.immlt p b hb))
  have : j ≠ id := fun e => by subst e; rw [hn] at hB; cases hB
  rw [upd_ne _ _ _ _ this]; exact hB

theorem s_makeSlice (ok : C.Ok) (r : SRel N ρ I w st a) (hd : dstOk N o) (hn : ρ id = none) (hid : id < st.nx) (t l c) (ho : o.op = .makeSlice t l c) {d e de} {k k' n}
    (ht : C.ty t = some d) (he : d.elem = some e) (hde : C.ty e = some de) (hpos : 0 < de.size) (hby : de.bytes ≤ 128) (hl : st.ev l = .int k n) (hc : st.ev c = .int k' n) (h0 : 0 ≤ n) (hlim : n ≤ LIM)
    (hK : K ((st.new id (.row de.size (List.replicate n.toNat de.zero))).put o.dst (.ref id de.size 0 n.toNat))) : o.wp C.P a w (After N st ρ I w id K) Q := by
  obtain ⟨i, u, z, F⟩ := ok.facts hde
  have hsl := ok.slice ht he
  have hlv := (hl ▸ r.ev l : VR ρ I w (.int k n) (a.eval l)).int_inv
  have hcv := (hc ▸ r.ev c : VR ρ I w (.int k' n) (a.eval c)).int_inv
  have hnn : n.toNat ≤ LIM := by omega
  have hw63 : IntKind.i64.wrap n = n := by
    simp only [LIM] at hlim
    unfold IntKind.wrap
    simp [IntKind.bits, IntKind.signed]
    omega
  have hbytes : i.bytes * n ≤ 2 ^ 48 := by
    rw [F.bytes]
    have h1 : (de.bytes : Int) ≤ 128 := by omega
    have h2 : (de.bytes : Int) * n ≤ 128 * n := Int.mul_le_mul_of_nonneg_right h1 h0
    simp only [LIM] at hlim
    omega
  have hfl := zeroRow_flat (ρ := ρ) (I := I) (w := w) (z := z) (d := de) (n := n.toNat) hpos F.zlen F.zsize (fun j x u hx hu => F.zvr j x u hx hu ρ I w)
  have hrun : (execOp a.eval o).run C.P w = .ok (.value (.slice (some ⟨w.heap.size, 0, none⟩) n.toNat n.toNat)) (w.alloc (.cells ((Array.range (n.toNat * de.size)).map (z.cells[· % z.cells.size]!)) e)) := by
    simp only [execOp, ho]
    refine run_v (a := a) ?_
    have g1 : ¬ (n < 0) := by omega
    have g2 : ¬ (2 ^ 48 < (i.bytes : Int) * n) := by omega
    simp [Instr.makeSlice, run_underlying hsl, hlv, hcv, asInt, asIntOf, typeInfo, F.info, hw63, g1, run_sizeOf' F.info, F.size, newRow]
    rw [if_neg (by omega)]
    by_cases hz : n.toNat * de.size = 0
    · have : n.toNat = 0 := by rcases Nat.mul_eq_zero.1 hz with h | h <;> omega
      simp only [this, Nat.zero_mul, true_or, if_true, Sem.run_pure, Result.andThen_ok]
      have hr : Array.range 0 = #[] := by simp [Array.range]
      simp [hr]
    · have : ¬ (n.toNat = 0 ∨ de.size = 0) := by intro h; rcases h with h | h <;> simp [h] at hz
      simp [this, zeroValue, typeInfo, F.info, F.zero]
      exact fun h => absurd h hz
  have hlen : (List.replicate n.toNat de.zero).length = n.toNat := by simp
  refine s_new (B0 := ⟨some w.heap.size, 0, n.toNat, de.size⟩) (h0 := st.h) r hd hn hid hrun (fun _ _ h => h) (.inr rfl) (fun k hk => heap_alloc_old w _ k hk) (by simp) rfl rfl rfl ?_ ?_ hK
  · refine row_of_flat hpos (by rw [hlen]; exact hnn) (hfl.mono fun x u h => mono_new r.hp hn _ h) (b := w.heap.size) ?_ (heap_alloc_new w _)
    rw [hlen]; exact upd_same ..
  · have := VR.ref (ρ := upd ρ id (some ⟨some w.heap.size, 0, n.toNat, de.size⟩)) (I := I) (w := w.alloc (.cells ((Array.range (n.toNat * de.size)).map (z.cells[· % z.cells.size]!)) e)) id de.size 0 n.toNat w.heap.size n.toNat _ (upd_same ..) rfl rfl (by simp) (Nat.le_refl _) hnn
    simpa using this

end
end Go.AE
