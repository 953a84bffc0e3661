/- An abstract machine over the model: its states, its steps, and that what it shows holds of the model. -/
import Derived.Test.YtfffnioddgeohaaGreatA2
import Derived.ChangeShapes
import Derived.Deep.Slices
import Derived.DataReads
import Derived.Below
import Derived.WideShapes
import GoSem.ClaimJoined
set_option linter.unusedVariables false
set_option linter.unusedSimpArgs false
set_option linter.deprecated false
section
/- What the reference's readers answer, against the program's. -/
namespace Go.AE

theorem cmp2_lt (a b : Int) : (cmp2 a b < 0) = (a < b) := by
  unfold cmp2; split
  · simp [*]
  · split <;> simp [*] <;> omega
theorem cmp2_z (a b : Int) : (cmp2 a b = 0) = (a = b) := by
  unfold cmp2; split
  · simp; omega
  · split <;> simp <;> omega
theorem twgCmp_lt (a b : Twg) : decide (twgCmp a b < 0) = (decide (a.due < b.due) || (a.due == b.due && decide (a.seq < b.seq))) := by
  have e : twgCmp a b = if cmp2 a.due b.due ≠ 0 then cmp2 a.due b.due else if cmp2 a.seq b.seq ≠ 0 then cmp2 a.seq b.seq else 0 := by
    simp only [twgCmp, orI, bne_iff_ne]
  have h1 := cmp2_lt a.due b.due
  have h2 := cmp2_z a.due b.due
  have h3 := cmp2_lt a.seq b.seq
  have h4 := cmp2_z a.seq b.seq
  simp only [eq_iff_iff] at h1 h2 h3 h4
  rw [e, Bool.eq_iff_iff]
  simp only [Bool.or_eq_true, Bool.and_eq_true, decide_eq_true_eq, beq_iff_eq]
  generalize cmp2 a.due b.due = x at *
  generalize cmp2 a.seq b.seq = y at *
  split <;> (try split) <;> omega
def seqsOk (h : List Twg) : Bool := allI (fun i x => !(decide (0 ≤ seqAt (h.take i.toNat) x.seq))) h 0
structure Odr where
  kind : Int
  a : Int
  b : Int
  c : Int
  d : Int
  deriving DecidableEq, Inhabited
def odrC (x : Odr) : List AV := [.int .i64 x.kind, .int .i64 x.a, .int .i64 x.b, .int .i64 x.c, .int .i64 x.d]
@[simp] theorem odrC_len (x : Odr) : (odrC x).length = 5 := rfl
@[simp] theorem odrC_take (x : Odr) : (odrC x).take 5 = odrC x := rfl
@[simp] theorem odrC_one (x : Odr) : (odrC x).all AV.one = true := rfl
@[simp] theorem frz_odrC (h x) : frz h (odrC x) = some (odrC x, h) := by simp [odrC]
def lsum {α : Type} (f : α → Nat) : List α → Nat
  | [] => 0
  | x :: xs => f x + lsum f xs
theorem lsum_mem {α : Type} (f : α → Nat) {x : α} : ∀ {xs : List α}, x ∈ xs → f x ≤ lsum f xs
  | y :: ys, h => by
    rcases List.mem_cons.1 h with rfl | h
    · simp only [lsum]; omega
    · have := lsum_mem f h; simp only [lsum]; omega
def sltsz (s : Slt) : Nat := s.ages.length + s.used.length
def sprsz (s : Spr) : Nat := s.told.length + s.work.length
def tmssz (s : Tms) : Nat := s.heap.length + s.list.length
def afssz (s : Afs) : Nat := sltsz s.slots + s.list.length
def wldsz (s : Wld) : Nat := (s.progs.length + lsum (·.length) s.progs) + s.tree.length + s.events.length + sprsz s.spread + tmssz s.timers + afssz s.afters + s.tasks.length + (s.groups.length + lsum (·.waits.length) s.groups) + s.sights.length + s.began.length + s.rang.length
theorem prgV_fz (x : List Inn) : ∀ c ∈ prgV true x, Fz c := by simp [prgV]; exact .vmap innC_fz
theorem grpV_fz (x : Grp) : ∀ c ∈ grpV true x, Fz c := by simp [grpV]; exact .vmap iv_fz
theorem sltV_fz {F} (x : Slt) : ∀ c ∈ sltV F x, Fz c := by simp [sltV]; exact ⟨.vmap iv_fz, .vmap bv_fz⟩
theorem wldV_fz (x : Wld) : ∀ c ∈ wldV (fun _ => true) x, Fz c := by
  simp [wldV]
  exact ⟨.vmap prgV_fz, .vmap nodC_fz, .vmap evtC_fz, .vmap bv_fz, .vmap iv_fz, .vmap twgC_fz, .vmap tmrC_fz, .vmap iv_fz, .vmap bv_fz, .vmap afrC_fz, .vmap tskC_fz, .vmap grpV_fz, .vmap sgtC_fz, .vmap iv_fz, .vmap iv_fz⟩

theorem eventsOk_tree {t : List Nod} {l : List Evt} (h : eventsOk t l = true) : treeOk t = true := by
  simp only [eventsOk, Bool.and_eq_true] at h; exact h.1
theorem eventsOk_at {t : List Nod} {l : List Evt} (h : eventsOk t l = true) (i : Nat) (hi : i < l.length) : fits t (l.take i) l[i] = true := by
  simp only [eventsOk, Bool.and_eq_true] at h
  have := allI_iff.1 h.2 i hi
  simpa using this
theorem fits_step {t : List Nod} {l : List Evt} {e : Evt} (h : fits t l e = true) : isEvent t e = true ∧ (0 < l.length → (gt l ((l.length : Int) - 1)).time ≤ e.time) ∧ (firstOf t l e.node).isSome = false := by
  unfold fits at h
  split at h
  · cases h
  · rename_i g; simp at g h; exact ⟨g.1, fun hp => g.2 hp, by simpa using h⟩
theorem isEvent_in {t : List Nod} {e : Evt} (h : isEvent t e = true) : 0 ≤ e.node ∧ e.node < t.length := by
  unfold isEvent at h; split at h
  · cases h
  · rename_i g; simpa [isIn_true] using g
theorem afsAt_here {l : List Afr} {i : Nat} (hi : i < l.length) : (afsAt l (gt l (i : Int)).han == (i : Int)) = decide (idxI (fun y => y.han == (gt l (i : Int)).han) (l.take i) 0 < 0) := by
  have key : ∀ (q : Afr → Bool) (l : List Afr) (i : Nat) (hi : i < l.length) (k : Int), 0 ≤ k → q l[i] = true → ((idxI q l k = k + i) ↔ idxI q (l.take i) k < 0) := by
    intro q l
    induction l with
    | nil => intro i hi; simp at hi
    | cons x xs ih =>
      intro i hi k hk hq
      cases i with
      | zero => simp at hq; simp [idxI, hq]
      | succ i =>
        simp only [List.take_succ_cons, idxI]
        by_cases hx : q x = true
        · rw [if_pos hx, if_pos hx]; omega
        · rw [if_neg hx, if_neg hx]
          have := ih i (by simpa using hi) (k + 1) (by omega) (by simpa using hq)
          rw [← this]; omega
  have := key (fun y => y.han == (gt l (i : Int)).han) l i hi 0 (Int.le_refl 0) (by rw [gt_nat hi]; simp)
  rw [Bool.eq_iff_iff]; simp only [afsAt, beq_iff_eq, decide_eq_true_eq]; rw [← this]; omega
end Go.AE
end

section
/- Heaps of timers: joining, merging, taking out, in plain terms; a heap stays a heap. -/
namespace Go.AE
def lt2 (x y : Twg) : Prop := x.due < y.due ∨ (x.due = y.due ∧ x.seq < y.seq)
theorem cmp_lt {x y : Twg} : twgCmp x y < 0 ↔ lt2 x y := by
  have := twgCmp_lt x y
  rw [Bool.eq_iff_iff] at this
  simpa [lt2] using this
instance (x y : Twg) : Decidable (lt2 x y) := by unfold lt2; infer_instance
theorem lt2_trans {x y z : Twg} (h : lt2 x y) (h2 : lt2 y z) : lt2 x z := by unfold lt2 at *; omega
theorem lt2_tot {x y : Twg} (h : x.seq ≠ y.seq) : lt2 x y ∨ lt2 y x := by unfold lt2; omega
def ky (x : Twg) : Int × Int := (x.due, x.seq)
theorem lt2_ky {x y x' y' : Twg} (hx : ky x = ky x') (hy : ky y = ky y') : lt2 x y ↔ lt2 x' y' := by
  simp only [ky, Prod.mk.injEq] at hx hy
  unfold lt2; omega
def isH (h : List Twg) : Prop := (rk h).isSome = true
def rk0 (h : List Twg) : Nat := (rk h).getD 0
theorem isH_nil : isH [] := rfl
theorem isH_cons {x : Twg} {xs : List Twg} : isH (x :: xs) ↔ (0 ≤ x.lefts ∧ x.lefts ≤ xs.length) ∧ isH (xs.take x.lefts.toNat) ∧ isH (xs.drop x.lefts.toNat) ∧ rk0 (xs.drop x.lefts.toNat) ≤ rk0 (xs.take x.lefts.toNat) ∧
    (∀ y ∈ (xs.take x.lefts.toNat).head?, lt2 x y) ∧ (∀ y ∈ (xs.drop x.lefts.toNat).head?, lt2 x y) := by
  unfold isH rk0
  rw [rk_cons]
  simp only [cmp_lt]
  by_cases hx : 0 ≤ x.lefts ∧ x.lefts ≤ xs.length
  · rw [if_pos hx]
    cases h1 : rk (xs.take x.lefts.toNat) with
    | none => simp
    | some a =>
      cases h2 : rk (xs.drop x.lefts.toNat) with
      | none => simp
      | some b =>
        simp only [Option.isSome_some, Option.getD_some, true_and]
        by_cases hc : b ≤ a ∧ (∀ y ∈ (xs.take x.lefts.toNat).head?, lt2 x y) ∧ (∀ y ∈ (xs.drop x.lefts.toNat).head?, lt2 x y)
        · rw [if_pos hc]; simp only [Option.isSome_some, true_iff]; exact ⟨hx, hc⟩
        · rw [if_neg hc]; simp only [Option.isSome_none, Bool.false_eq_true, false_iff]; exact fun h => hc h.2
  · rw [if_neg hx]; simp [hx]
theorem isH_min : ∀ (n : Nat) {x : Twg} {xs : List Twg}, xs.length ≤ n → isH (x :: xs) → ∀ y ∈ xs, lt2 x y := by
  intro n
  induction n with
  | zero => intro x xs hl h y hy; have : xs = [] := List.eq_nil_of_length_eq_zero (by omega); subst this; simp at hy
  | succ n ih =>
    intro x xs hl h y hy
    obtain ⟨⟨h1, h2⟩, h3, h4, h5, h6, h7⟩ := isH_cons.1 h
    rw [← List.take_append_drop x.lefts.toNat xs] at hy
    have key : ∀ l : List Twg, l.length ≤ n + 1 → isH l → (∀ y ∈ l.head?, lt2 x y) → y ∈ l → lt2 x y := by
      intro l hl hh hx hy
      cases l with
      | nil => simp at hy
      | cons z zs =>
        have hz := hx z (by simp)
        rcases List.mem_cons.1 hy with rfl | hy
        · exact hz
        · exact lt2_trans hz (ih (by simpa using hl) hh y hy)
    rcases List.mem_append.1 hy with hy | hy
    · exact key _ (by simp; omega) h3 h6 hy
    · exact key _ (by simp; omega) h4 h7 hy
def joinH (x : Twg) (l r : List Twg) : List Twg := if rk0 l < rk0 r then { x with lefts := r.length } :: (r ++ l) else { x with lefts := l.length } :: (l ++ r)
theorem joinH_len (x : Twg) (l r : List Twg) : (joinH x l r).length = l.length + r.length + 1 := by
  unfold joinH; split <;> simp <;> omega
theorem joinH_isH {x : Twg} {l r : List Twg} (hl : isH l) (hr : isH r) (h1 : ∀ y ∈ l, lt2 x y) (h2 : ∀ y ∈ r, lt2 x y) : isH (joinH x l r) := by
  have key : ∀ (n : Nat) (a b : List Twg), n = a.length → isH a → isH b → rk0 b ≤ rk0 a → (∀ y ∈ a, lt2 x y) → (∀ y ∈ b, lt2 x y) → isH ({ x with lefts := (n : Int) } :: (a ++ b)) := by
    intro n a b hn ha hb hk g1 g2
    subst hn
    rw [isH_cons]
    simp only [Int.toNat_natCast]
    have e1 : (a ++ b).take a.length = a := by simp
    have e2 : (a ++ b).drop a.length = b := by simp
    rw [e1, e2]
    have up : ∀ y, lt2 x y → lt2 { x with lefts := (a.length : Int) } y := fun y h => h
    exact ⟨by simp; omega, ha, hb, hk, fun y hy => up y (g1 y (List.mem_of_mem_head? hy)), fun y hy => up y (g2 y (List.mem_of_mem_head? hy))⟩
  unfold joinH; split
  · exact key _ r l rfl hr hl (by omega) h2 h1
  · exact key _ l r rfl hl hr (by omega) h1 h2
theorem joinH_perm (x : Twg) (l r : List Twg) : ((joinH x l r).map ky).Perm (ky x :: (l.map ky ++ r.map ky)) := by
  unfold joinH; split
  · simp only [List.map_cons, List.map_append]
    refine List.Perm.cons _ List.perm_append_comm
  · simp [ky]
def mrgN : Nat → List Twg → List Twg → List Twg
  | _, [], b => b
  | _, a, [] => a
  | 0, a, _ => a
  | n + 1, x :: xs, y :: ys =>
    if lt2 y x then joinH y (ys.take y.lefts.toNat) (mrgN n (ys.drop y.lefts.toNat) (x :: xs))
    else joinH x (xs.take x.lefts.toNat) (mrgN n (xs.drop x.lefts.toNat) (y :: ys))
def mrg (a b : List Twg) : List Twg := mrgN (a.length + b.length) a b
def apart (a b : List Twg) : Prop := ∀ x ∈ a, ∀ y ∈ b, x.seq ≠ y.seq
theorem apart_symm {a b : List Twg} (h : apart a b) : apart b a := fun x hx y hy e => h y hy x hx e.symm
theorem mem_of_ky {l m : List Twg} (h : (l.map ky).Perm (m.map ky)) {y : Twg} (hy : y ∈ l) : ∃ z ∈ m, ky z = ky y := by
  have := h.mem_iff.1 (List.mem_map.2 ⟨y, hy, rfl⟩)
  obtain ⟨z, hz, e⟩ := List.mem_map.1 this
  exact ⟨z, hz, e⟩
theorem mrgN_ok : ∀ (n : Nat) (a b : List Twg), a.length + b.length ≤ n → isH a → isH b → apart a b → isH (mrgN n a b) ∧ ((mrgN n a b).map ky).Perm (a.map ky ++ b.map ky) := by
  intro n
  induction n with
  | zero =>
    intro a b hl ha hb hd
    have : a = [] := List.eq_nil_of_length_eq_zero (by omega)
    subst this
    exact ⟨by simpa [mrgN] using hb, by simp [mrgN]⟩
  | succ n ih =>
    intro a b hl ha hb hd
    match a, b with
    | [], b => exact ⟨by simpa [mrgN] using hb, by simp [mrgN]⟩
    | x :: xs, [] => exact ⟨by simpa [mrgN] using ha, by simp [mrgN]⟩
    | x :: xs, y :: ys =>
      have key : ∀ (x : Twg) (xs : List Twg) (b : List Twg), xs.length + b.length ≤ n → isH (x :: xs) → isH b → apart (x :: xs) b → (∀ z ∈ b, lt2 x z) →
          isH (joinH x (xs.take x.lefts.toNat) (mrgN n (xs.drop x.lefts.toNat) b)) ∧ ((joinH x (xs.take x.lefts.toNat) (mrgN n (xs.drop x.lefts.toNat) b)).map ky).Perm (ky x :: (xs.map ky ++ b.map ky)) := by
        intro x xs b hl ha hb hd hm
        obtain ⟨⟨h1, h2⟩, h3, h4, h5, h6, h7⟩ := isH_cons.1 ha
        have hmin := isH_min _ (Nat.le_refl _) ha
        obtain ⟨g1, g2⟩ := ih (xs.drop x.lefts.toNat) b (by simp; omega) h4 hb (fun p hp q hq => hd p (List.mem_cons_of_mem _ (List.mem_of_mem_drop hp)) q hq)
        refine ⟨joinH_isH h3 g1 (fun y hy => hmin y (List.mem_of_mem_take hy)) (fun y hy => ?_), ?_⟩
        · have hp : ((mrgN n (xs.drop x.lefts.toNat) b).map ky).Perm ((xs.drop x.lefts.toNat ++ b).map ky) := by simpa using g2
          obtain ⟨z, hz, e⟩ := mem_of_ky hp hy
          rw [lt2_ky (rfl : ky x = ky x) e.symm]
          rcases List.mem_append.1 hz with hz | hz
          · exact hmin z (List.mem_of_mem_drop hz)
          · exact hm z hz
        · refine (joinH_perm _ _ _).trans (List.Perm.cons _ ?_)
          refine (List.Perm.append_left _ g2).trans ?_
          rw [← List.append_assoc, ← List.map_append, List.take_append_drop]
      have hmx := isH_min _ (Nat.le_refl _) ha
      have hmy := isH_min _ (Nat.le_refl _) hb
      simp only [mrgN]
      split
      · rename_i hyx
        obtain ⟨k1, k2⟩ := key y ys (x :: xs) (by simp at hl ⊢; omega) hb ha (apart_symm hd) (fun z hz => by
          rcases List.mem_cons.1 hz with rfl | hz
          · exact hyx
          · exact lt2_trans hyx (hmx z hz))
        refine ⟨k1, k2.trans ?_⟩
        have : (ky y :: (ys.map ky ++ (x :: xs).map ky)) = (y :: ys).map ky ++ (x :: xs).map ky := rfl
        rw [this]; exact List.perm_append_comm
      · rename_i hyx
        have hxy : lt2 x y := by
          rcases lt2_tot (hd x (by simp) y (by simp)) with h | h
          · exact h
          · exact absurd h hyx
        exact key x xs (y :: ys) (by simp at hl ⊢; omega) ha hb hd (fun z hz => by
          rcases List.mem_cons.1 hz with rfl | hz
          · exact hxy
          · exact lt2_trans hxy (hmy z hz))
theorem mrg_ok {a b : List Twg} (ha : isH a) (hb : isH b) (hd : apart a b) : isH (mrg a b) ∧ ((mrg a b).map ky).Perm (a.map ky ++ b.map ky) := mrgN_ok _ _ _ (Nat.le_refl _) ha hb hd
theorem isH_one (d s : Int) : isH [⟨d, s, 0⟩] := by
  rw [isH_cons]; exact ⟨by simp, isH_nil, isH_nil, Nat.le_refl _, by simp, by simp⟩
def putH (h : List Twg) (d s : Int) : List Twg := mrg h [⟨d, s, 0⟩]
def woN : Nat → List Twg → Int → List Twg
  | _, [], _ => []
  | 0, h, _ => h
  | n + 1, x :: xs, s =>
    if x.seq = s then mrg (xs.take x.lefts.toNat) (xs.drop x.lefts.toNat)
    else if (xs.take x.lefts.toNat).any (fun y => y.seq == s) then joinH x (woN n (xs.take x.lefts.toNat) s) (xs.drop x.lefts.toNat)
    else joinH x (xs.take x.lefts.toNat) (woN n (xs.drop x.lefts.toNat) s)
def wo (h : List Twg) (s : Int) : List Twg := woN h.length h s
def once (h : List Twg) : Prop := h.Pairwise (fun x y => x.seq ≠ y.seq)
theorem once_ky {l m : List Twg} (h : (l.map ky).Perm (m.map ky)) (ho : once m) : once l := by
  have e : ∀ l : List Twg, once l ↔ ((l.map ky).map (·.2)).Nodup := fun l => by
    simp only [once, List.Nodup, List.pairwise_map, List.map_map]; rfl
  rw [e] at ho ⊢
  exact (h.map _).nodup_iff.2 ho
theorem woN_ok : ∀ (n : Nat) (h : List Twg) (s : Int), h.length ≤ n → isH h → once h → (∃ x ∈ h, x.seq = s) → isH (woN n h s) ∧ ∃ x ∈ h, x.seq = s ∧ (h.map ky).Perm (ky x :: (woN n h s).map ky) := by
  intro n
  induction n with
  | zero =>
    intro h s hl hh ho ⟨x, hx, _⟩
    have : h = [] := List.eq_nil_of_length_eq_zero (by omega)
    subst this; simp at hx
  | succ n ih =>
    intro h s hl hh ho hx
    match h with
    | [] => obtain ⟨x, hx, _⟩ := hx; simp at hx
    | x :: xs =>
      obtain ⟨⟨h1, h2⟩, h3, h4, h5, h6, h7⟩ := isH_cons.1 hh
      have hmin := isH_min _ (Nat.le_refl _) hh
      obtain ⟨o1, o2⟩ := List.pairwise_cons.1 ho
      have osp : once (xs.take x.lefts.toNat) ∧ once (xs.drop x.lefts.toNat) ∧ apart (xs.take x.lefts.toNat) (xs.drop x.lefts.toNat) := by
        have := o2
        rw [← List.take_append_drop x.lefts.toNat xs] at this
        obtain ⟨a1, a2, a3⟩ := List.pairwise_append.1 this
        exact ⟨a1, a2, a3⟩
      have hxs : xs.map ky = (xs.take x.lefts.toNat).map ky ++ (xs.drop x.lefts.toNat).map ky := by rw [← List.map_append, List.take_append_drop]
      have sm : ∀ {l : List Twg} {z : Twg}, (l.map ky).Perm (ky z :: (woN n l s).map ky) → ∀ y ∈ woN n l s, ∃ q ∈ l, ky q = ky y := by
        intro l z hp y hy
        have := hp.symm.mem_iff.1 (List.mem_cons_of_mem _ (List.mem_map.2 ⟨y, hy, rfl⟩))
        obtain ⟨q, hq, e⟩ := List.mem_map.1 this
        exact ⟨q, hq, e⟩
      simp only [woN]
      split
      · rename_i hs
        obtain ⟨g1, g2⟩ := mrg_ok h3 h4 osp.2.2
        refine ⟨g1, x, by simp, hs, ?_⟩
        simp only [List.map_cons]
        rw [hxs]
        exact List.Perm.cons _ g2.symm
      · rename_i hs
        split
        · rename_i ha
          rw [List.any_eq_true] at ha
          obtain ⟨z, hz, hzs⟩ := ha
          obtain ⟨g1, q, hq, hqs, g2⟩ := ih (xs.take x.lefts.toNat) s (by simp at hl ⊢; omega) h3 osp.1 ⟨z, hz, by simpa using hzs⟩
          refine ⟨joinH_isH g1 h4 (fun y hy => ?_) (fun y hy => hmin y (List.mem_of_mem_drop hy)), q, List.mem_cons_of_mem _ (List.mem_of_mem_take hq), hqs, ?_⟩
          · obtain ⟨p, hp, e⟩ := sm g2 y hy
            rw [← lt2_ky (rfl : ky x = ky x) e]
            exact hmin p (List.mem_of_mem_take hp)
          · simp only [List.map_cons]
            rw [hxs]
            refine (List.Perm.cons _ (List.Perm.append_right _ g2)).trans ?_
            refine List.Perm.trans ?_ (List.Perm.cons _ (joinH_perm _ _ _).symm)
            exact List.Perm.swap _ _ _
        · rename_i ha
          have hin : ∃ z ∈ xs.drop x.lefts.toNat, z.seq = s := by
            obtain ⟨z, hz, hzs⟩ := hx
            rcases List.mem_cons.1 hz with rfl | hz
            · exact absurd hzs hs
            · rw [← List.take_append_drop x.lefts.toNat xs] at hz
              rcases List.mem_append.1 hz with hz | hz
              · exact absurd (List.any_eq_true.2 ⟨z, hz, by simpa using hzs⟩) ha
              · exact ⟨z, hz, hzs⟩
          obtain ⟨g1, q, hq, hqs, g2⟩ := ih (xs.drop x.lefts.toNat) s (by simp at hl ⊢; omega) h4 osp.2.1 hin
          refine ⟨joinH_isH h3 g1 (fun y hy => hmin y (List.mem_of_mem_take hy)) (fun y hy => ?_), q, List.mem_cons_of_mem _ (List.mem_of_mem_drop hq), hqs, ?_⟩
          · obtain ⟨p, hp, e⟩ := sm g2 y hy
            rw [← lt2_ky (rfl : ky x = ky x) e]
            exact hmin p (List.mem_of_mem_drop hp)
          · simp only [List.map_cons]
            rw [hxs]
            refine (List.Perm.cons _ (List.Perm.append_left _ g2)).trans ?_
            refine List.Perm.trans ?_ (List.Perm.cons _ (joinH_perm _ _ _).symm)
            refine (List.Perm.cons _ List.perm_middle).trans ?_
            exact List.Perm.swap _ _ _
end Go.AE
end

section
/- What the conditions of a world answer. -/
namespace Go.AE

end Go.AE
end

section
/- What the reference asks of tasks, against the program. -/
namespace Go.AE
end Go.AE
end

section
/- What the reference asks of sights, against the program. -/
namespace Go.AE
end Go.AE
end

section
/- What a valid world gives; lists that are picked. -/
namespace Go.AE

theorem wldOk_all {w : Wld} (h : wldOk w = true) : 0 ≤ w.now ∧ w.progs.length ≤ 8 ∧ w.progs.all progOk = true ∧ eventsOk w.tree w.events = true ∧ isSpread w.spread w.tree = true ∧ w.events.all (fun e => inR e.time 0 w.now) = true ∧
    tmsOk w.timers = true ∧ w.timers.list.all (isTimer w) = true ∧ afsOk w.afters = true ∧ w.afters.list.all (fun a => isIn a.node w.tree) = true ∧ tasksOk w.tasks = true ∧ w.tasks.all (isTask w) = true ∧
    w.groups.length ≤ 8 ∧ w.groups.all (isGroup w) = true ∧ w.sights.length ≤ 2000 ∧ w.began.length ≤ 2000 ∧ w.rang.length ≤ 2000 ∧ w.sights.all (isSight w) = true ∧ w.began.all (fun n => inR n 0 99) = true ∧ w.rang.all (fun n => inR n 0 99) = true := by
  simpa only [wldOk, Bool.and_eq_true, decide_eq_true_eq] using h
theorem wldOk_ev {w : Wld} (h : wldOk w = true) : eventsOk w.tree w.events = true := (wldOk_all h).2.2.2.1
end Go.AE
end

section
/- Abstract machine: names that are not yet given. -/
namespace Go.AE
def Fr (n : Nat) (h : Heap) : Prop := ∀ k, n ≤ k → h k = none
theorem Fr.upd {m id : Nat} {f : Heap} {e : Option Ent} (hi : id < m) (hf : Fr m f) : Fr m (upd f id e) := fun k hk => by
  rw [upd_at, if_neg (by omega)]; exact hf k hk
theorem Fr.mono {n m : Nat} {f : Heap} (h : Fr n f) (hl : n ≤ m) : Fr m f := fun k hk => h k (by omega)
theorem Fr.start {nx m : Nat} {h : Heap} (hnx : ∀ j, h j ≠ none → j < nx) (hl : nx ≤ m) : Fr m h := fun k hk => by
  cases hh : h k with
  | none => rfl
  | some e => have := hnx k (by rw [hh]; simp); omega
theorem Fr.at {n : Nat} {h : Heap} (hf : Fr n h) : ∀ k, h (n + k) = none := fun k => hf _ (by omega)
section
variable {C : Ctx}
def minS (C : Ctx) (n : Nxt) (d : Option Tmp) (x y : AV) (st : St) : Prop :=
  match x, y with
  | .int k m, .int _ z => runN C n (st.put d (.int k (if z < m then z else m)))
  | _, _ => False
@[simp] theorem run_min (d x y ts ty ps af n0 gd i os) (st : St) (k : Kont) :
    runS C n0 gd i (⟨d, .call ⟨.builtin .min, #[x, y], ts⟩, ty, ps, af, none⟩ :: os) st k = minS C ⟨n0, gd, i + 1, os, k⟩ d (st.ev x) (st.ev y) st := propext Iff.rfl
@[simp] theorem minS_int (n d k k' m z) (st : St) : minS C n d (.int k m) (.int k' z) st = runN C n (st.put d (.int k (if z < m then z else m))) := propext Iff.rfl
end
end Go.AE
end

section
/- Abstract machine: what the arguments read as. -/
namespace Go.AE
open Go.ChangeShapes Go.Deep

inductive Sh where
  | int (k : IntKind)
  | bool
  | str
  | slice (e : Sh)
  | nil
  | cons (s r : Sh)

def Sh.size : Sh → Nat
  | .nil => 0
  | .cons s r => s.size + r.size
  | _ => 1
def ShR (B : Nat) : Sh → List AV → Prop
  | .int k, l => ∃ n, l = [.int k n] ∧ (Lit.int k n).wf = true
  | .bool, l => ∃ b, l = [.bool b]
  | .str, l => ∃ s, l = [.str s] ∧ s.size ≤ B
  | .slice e, l => l = [.nil] ∨ ∃ xs, l = [.view true e.size xs] ∧ xs.length ≤ B ∧ ∀ c ∈ xs, ShR B e c
  | .nil, l => l = []
  | .cons s r, l => ∃ x y, l = x ++ y ∧ ShR B s x ∧ ShR B r y

theorem ShR.length {B : Nat} : ∀ {s : Sh} {l : List AV}, ShR B s l → l.length = s.size
  | .int k, l, ⟨n, h, _⟩ => by subst h; rfl
  | .bool, l, ⟨n, h⟩ => by subst h; rfl
  | .str, l, ⟨n, h, _⟩ => by subst h; rfl
  | .slice e, l, h => by rcases h with h | ⟨xs, h, _⟩ <;> subst h <;> rfl
  | .nil, l, h => by simp only [ShR] at h; subst h; rfl
  | .cons s r, l, ⟨x, y, h, h1, h2⟩ => by subst h; simp [Sh.size, h1.length, h2.length]

def fsOk (P : Program) (ok : TypeId → Sh → Bool) : Nat → List Field → Sh → Bool
  | _, [], .nil => true
  | off, f :: fs, .cons a b => f.offset == off && ok f.type a && P.cellsOf f.type == a.size && fsOk P ok (off + a.size) fs b
  | _, _, _ => false
section
variable {H : Type} {enc : TypeId × Value → H} {P : Program} {w : World} {base : Nat} {spare : Nat → Bool} {held : Bool} {ρ : Names} {I : Imm}

def VRl (ρ : Names) (I : Imm) (w : World) (l : List AV) (cs : List Value) : Prop := cs.length = l.length ∧ ∀ (i : Nat) a u, l[i]? = some a → cs[i]? = some u → VR ρ I w a u

theorem VRl.one {a : AV} {u : Value} (h : VR ρ I w a u) : VRl ρ I w [a] [u] := ⟨rfl, fun i x v hx hv => by
  cases i with
  | zero => simp at hx hv; subst hx; subst hv; exact h
  | succ => simp at hx⟩
theorem VRl.append {a b : List AV} {u v : List Value} (h1 : VRl ρ I w a u) (h2 : VRl ρ I w b v) : VRl ρ I w (a ++ b) (u ++ v) := by
  refine ⟨by simp [h1.1, h2.1], fun i x y hx hy => ?_⟩
  by_cases hi : i < a.length
  · rw [List.getElem?_append_left hi] at hx
    rw [List.getElem?_append_left (by rw [h1.1]; exact hi)] at hy
    exact h1.2 i x y hx hy
  · rw [List.getElem?_append_right (by omega)] at hx
    rw [List.getElem?_append_right (by rw [h1.1]; omega), h1.1] at hy
    exact h2.2 _ x y hx hy

structure Blk (blk : DataW H → Nat) : Prop where
  str : ∀ b, b.length ≤ blk (.lit (.string b))
  len : ∀ es sp, es.length ≤ blk (.slice es sp)
  elem : ∀ es sp, ∀ e ∈ es, blk e ≤ blk (.slice es sp)
  part : ∀ ps, ∀ e ∈ ps, blk e ≤ blk (.agg ps)

mutual
def abulk {H : Type} : DataW H → Nat
  | .lit (.string bytes) => bytes.length + 1
  | .lit _ => 1
  | .nil => 1
  | .ptr d => abulk d + 1
  | .slice elems spare => abulks elems + abulks spare + 1
  | .agg parts => abulks parts + 1
  | .iface _ d => abulk d + 1
  | .map _ => 1
  | .held _ => 1
def abulks {H : Type} : List (DataW H) → Nat
  | [] => 0
  | d :: r => abulk d + abulks r
end
end
end Go.AE
end

section
/- Abstract machine: a law's row. -/
namespace Go.AE
open Go.RowKit Go.ChangeAt

def topA : Sh → List AV → AV
  | .nil, l => .agg l
  | .cons .., l => .agg l
  | _, l => l.headD .dead

def Imm0 (w : World) : Imm := fun _ b => b < w.heap.size

section
variable {H : Type} {enc : TypeId × Value → H} {P : Program} {w : World} {base : Nat} {spare : Nat → Bool} {held : Bool} {ρ : Names} {I : Imm}

theorem VRl.head {a : AV} {l : List AV} {u : Value} {us : List Value} (h : VRl ρ I w (a :: l) (u :: us)) : VR ρ I w a u := h.2 0 a u rfl rfl

end

theorem law_calls {P : Program} {f : FuncId} {args : List AV} {W : World} {vs : Array Value} (hc : PC P f args (.bool true)) (hv : VRs (fun _ => none) (Imm0 W) W args vs) :
    Calls P f vs W fun e w' => e = .returned (.bool true) ∧ Below W.heap.size W w' := by
  have := hc (fun _ => none) 0 (fun r _ _ => r = .bool true) rfl
  refine (this.2 (fun _ => none) (Imm0 W) W vs (fun _ _ h => (by cases h)) ⟨fun _ _ h => (by cases h), fun _ _ _ h => (by cases h), fun _ _ _ _ _ _ _ h => (by cases h), fun _ _ _ _ _ h => (by cases h), fun _ _ h => h⟩ hv).mono ?_
  rintro e w' ⟨v, r, h', nx', ρ', I', rfl, rfl, hvr, H', E, _, _, _⟩
  cases hvr
  exact ⟨rfl, E.os, E.tape, E.output, E.size, fun k hk => E.frame k hk fun ⟨_, _, _, h, _⟩ => (by cases h)⟩

theorem vrs1 {ρ I w} {a : AV} {u : Value} (h : VR ρ I w a u) : VRs ρ I w [a] #[u] := ⟨rfl, fun i x v hx hv => by
  match i with
  | 0 => simp at hx hv; subst hx; subst hv; exact h
  | _ + 1 => simp at hx⟩
end Go.AE
end

section
/- Abstract machine: arguments of a law, as the program's data. -/
namespace Go.AE

def Up (x y : AV) : Prop := ∀ (ρ : Names) (I : Imm) (w : World) (u : Value), VR ρ I w x u → VR ρ I w y u
theorem Up.refl (x : AV) : Up x x := fun _ _ _ _ h => h
theorem Up.nil (p : Bool) (sz : Nat) : Up .nil (.view p sz []) := fun ρ I w u h => by cases h; exact .viewNil p sz none 0
def UpL (l l' : List AV) : Prop := l'.length = l.length ∧ ∀ (i : Nat) x y, l[i]? = some x → l'[i]? = some y → Up x y
theorem UpL.refl (l : List AV) : UpL l l := ⟨rfl, fun i x y hx hy => by rw [hx] at hy; cases hy; exact .refl _⟩
theorem UpL.one {x y : AV} (h : Up x y) : UpL [x] [y] := ⟨rfl, fun i a b ha hb => by
  cases i with
  | zero => simp at ha hb; subst ha; subst hb; exact h
  | succ i => simp at ha⟩
theorem UpL.append {a b c d : List AV} (h1 : UpL a c) (h2 : UpL b d) : UpL (a ++ b) (c ++ d) := by
  refine ⟨by simp [h1.1, h2.1], fun i x y hx hy => ?_⟩
  by_cases hi : i < a.length
  · rw [List.getElem?_append_left hi] at hx
    rw [List.getElem?_append_left (by rw [h1.1]; exact hi)] at hy
    exact h1.2 i x y hx hy
  · rw [List.getElem?_append_right (by omega)] at hx
    rw [List.getElem?_append_right (by rw [h1.1]; omega), h1.1] at hy
    exact h2.2 _ x y hx hy
theorem UpL.agg {a b : List AV} (h : UpL a b) : Up (.agg a) (.agg b) := fun ρ I w u hv => by
  cases hv with
  | agg _ vs h1 h2 =>
    refine .agg b vs (by rw [h1, h.1]) fun i y u hy hu => ?_
    have hi : i < a.length := by rw [← h.1]; exact (List.getElem?_eq_some_iff.1 hy).1
    exact h.2 i _ y (List.getElem?_eq_getElem hi) hy _ _ _ _ (h2 i _ u (List.getElem?_eq_getElem hi) hu)
theorem Up.view {p : Bool} {sz : Nat} {xs ys : List (List AV)} (hl : ys.length = xs.length) (hc : ∀ (i : Nat) c d, xs[i]? = some c → ys[i]? = some d → UpL c d) : Up (.view p sz xs) (.view p sz ys) := fun ρ I w u hv => by
  have back : ∀ {i j : Nat} {y : AV}, get2 ys i j = some y → ∃ x, get2 xs i j = some x ∧ Up x y := by
    intro i j y hy
    obtain ⟨d, hd, hj⟩ := get2_some hy
    have hi : i < xs.length := by rw [← hl]; exact (List.getElem?_eq_some_iff.1 hd).1
    have hx := List.getElem?_eq_getElem hi
    have hu := hc i _ d hx hd
    have hj' : j < (xs[i]).length := by rw [← hu.1]; exact (List.getElem?_eq_some_iff.1 hj).1
    exact ⟨(xs[i])[j], by simp [get2, hx], hu.2 j _ y (List.getElem?_eq_getElem hj') hj⟩
  generalize hz : AV.view p sz xs = z at hv
  cases hv <;> simp at hz
  · obtain ⟨rfl, rfl, rfl⟩ := hz
    obtain rfl : ys = [] := by simpa using hl
    exact .viewNil ..
  · obtain ⟨rfl, rfl, rfl⟩ := hz
    rename_i b off c h1 h2 h3 h4 h5 h6
    rw [← hl]
    refine .view p sz ys b off c h1 (by omega) (by omega) (fun i d hd => ?_) (fun i j y hy => ?_) (fun i j y u hy hu => ?_)
    · have hi : i < xs.length := by rw [← hl]; exact (List.getElem?_eq_some_iff.1 hd).1
      rw [(hc i _ d (List.getElem?_eq_getElem hi) hd).1]; exact h4 i _ (List.getElem?_eq_getElem hi)
    · obtain ⟨x, hx, _⟩ := back hy
      exact h5 i j x hx
    · obtain ⟨x, hx, hup⟩ := back hy
      exact hup _ _ _ _ (h6 i j x u hx hu)

def Rdr {α : Type} (sh : Sh) (c : α → List AV) (ok : Nat → α → Prop) : Prop := ∀ (B : Nat) (l : List AV), ShR B sh l → ∃ x, UpL l (c x) ∧ ok B x
def okT {α : Type} (B : Nat) (x : α) : Prop := True
theorem Rdr.int : Rdr (.int .i64) iv okT := fun B l h => by obtain ⟨n, rfl, _⟩ := h; exact ⟨n, UpL.refl _, trivial⟩
theorem Rdr.bool : Rdr .bool bv okT := fun B l h => by obtain ⟨n, rfl⟩ := h; exact ⟨n, UpL.refl _, trivial⟩
theorem Rdr.str : Rdr .str (fun s => [.str s]) (fun B (s : ByteArray) => s.size ≤ B) := fun B l h => by obtain ⟨n, rfl, h⟩ := h; exact ⟨n, UpL.refl _, h⟩
theorem Rdr.slice {α : Type} {e : Sh} {c : α → List AV} {ok : Nat → α → Prop} {sz : Nat} (hsz : e.size = sz) (h : Rdr e c ok) : Rdr (.slice e) (fun xs => [.view true sz (xs.map c)]) (fun B (xs : List α) => xs.length ≤ B ∧ ∀ x ∈ xs, ok B x) := fun B l hl => by
  subst hsz
  rcases hl with rfl | ⟨xs, rfl, hle, hx⟩
  · exact ⟨[], UpL.one (Up.nil _ _), by simp, by simp⟩
  · have : ∀ xs : List (List AV), (∀ c ∈ xs, ShR B e c) → ∃ ys : List α, ys.length = xs.length ∧ (∀ (i : Nat) a b, xs[i]? = some a → (ys.map c)[i]? = some b → UpL a b) ∧ ∀ y ∈ ys, ok B y := by
      intro xs
      induction xs with
      | nil => intro _; exact ⟨[], rfl, fun i a b h => by simp at h, by simp⟩
      | cons a xs ih =>
        intro hx
        obtain ⟨ys, h1, h2, h3⟩ := ih fun c hc => hx c (by simp [hc])
        obtain ⟨y, g1, g2⟩ := h B a (hx a (by simp))
        refine ⟨y :: ys, by simp [h1], fun i p q hp hq => ?_, fun z hz => ?_⟩
        · cases i with
          | zero => simp at hp hq; subst hp; subst hq; exact g1
          | succ i => exact h2 i p q (by simpa using hp) (by simpa using hq)
        · rcases List.mem_cons.1 hz with rfl | hz
          · exact g2
          · exact h3 z hz
    obtain ⟨ys, h1, h2, h3⟩ := this xs hx
    exact ⟨ys, UpL.one (Up.view (by simp [h1]) h2), by omega, h3⟩
theorem Rdr.nil : Rdr .nil (fun (_ : Unit) => []) okT := fun B l h => by simp only [ShR] at h; subst h; exact ⟨(), UpL.refl _, trivial⟩
theorem Rdr.cons {α β : Type} {s r : Sh} {c : α → List AV} {d : β → List AV} {ok1 : Nat → α → Prop} {ok2 : Nat → β → Prop} (h1 : Rdr s c ok1) (h2 : Rdr r d ok2) :
    Rdr (.cons s r) (fun p : α × β => c p.1 ++ d p.2) (fun B p => ok1 B p.1 ∧ ok2 B p.2) := fun B l hl => by
  obtain ⟨x, y, rfl, g1, g2⟩ := hl
  obtain ⟨a, u1, o1⟩ := h1 B x g1
  obtain ⟨b, u2, o2⟩ := h2 B y g2
  exact ⟨(a, b), u1.append u2, o1, o2⟩
theorem Rdr.map {α γ : Type} {s : Sh} {c : α → List AV} {ok : Nat → α → Prop} {c' : γ → List AV} {ok' : Nat → γ → Prop} (f : α → γ) (h : Rdr s c ok) (hc : ∀ x, c' (f x) = c x) (ho : ∀ B x, ok B x → ok' B (f x)) : Rdr s c' ok' := fun B l hl => by
  obtain ⟨x, u, o⟩ := h B l hl
  exact ⟨f x, by rw [hc]; exact u, ho B x o⟩

def i64S : Sh := .int .i64
def shInts : Nat → Sh → Sh
  | 0, r => r
  | n + 1, r => .cons i64S (shInts n r)
def shHan : Sh := shInts 2 .nil
def shInn : Sh := shInts 3 .nil
def shNod : Sh := shInts 5 .nil
def shEvt : Sh := shInts 4 .nil
def shTwg : Sh := shInts 3 .nil
def shTmr : Sh := shInts 4 (.cons .bool .nil)
def shAfr : Sh := .cons shHan (shInts 2 (.cons .bool .nil))
def shTsk : Sh := shInts 9 .nil
def shSgt : Sh := shInts 4 .nil
def shPik : Sh := shInts 2 .nil
def shOdr : Sh := shInts 5 .nil
def shGrp : Sh := shInts 3 (.cons (.slice i64S) (.cons i64S .nil))
def shSlt : Sh := .cons (.slice i64S) (.cons (.slice .bool) .nil)
def shSpr : Sh := .cons (.slice .bool) (.cons (.slice i64S) .nil)
def shTms : Sh := .cons (.slice shTwg) (.cons (.slice shTmr) (.cons i64S .nil))
def shAfs : Sh := .cons shSlt (.cons (.slice shAfr) .nil)
def shWld : Sh := .cons i64S (.cons (.slice (.slice shInn)) (.cons (.slice shNod) (.cons (.slice shEvt) (.cons shSpr (.cons shTms (.cons shAfs (.cons (.slice shTsk) (.cons (.slice shGrp) (.cons (.slice shSgt) (.cons (.slice i64S) (.cons (.slice i64S) .nil)))))))))))
end Go.AE
end

section
/- Abstract machine: arguments of a law whose numbers are in their range. -/
namespace Go.AE
end Go.AE
end

section
/- Bytes as a law's argument, and the bounds of what is drawn from them. -/
namespace Go.AE
def uv (n : Int) : List AV := [.int .u8 n]
def InU8 (n : Int) : Prop := 0 ≤ n ∧ n ≤ 255
theorem inU8_of {n : Int} (h : (Lit.int .u8 n).wf = true) : InU8 n := by
  have e1 : IntKind.min .u8 = 0 := by rfl
  have e2 : IntKind.max .u8 = 255 := by rfl
  simp only [Lit.wf, e1, e2, Bool.and_eq_true, decide_eq_true_eq] at h
  exact h
theorem Rdr.byte : Rdr (.int .u8) uv (fun _ n => InU8 n) := fun B l h => by obtain ⟨n, rfl, hw⟩ := h; exact ⟨n, UpL.refl _, inU8_of hw⟩
theorem rdBytes : Rdr (.slice (.int .u8)) (fun xs => [.view true 1 (xs.map uv)]) (fun B (xs : List Int) => xs.length ≤ B ∧ ∀ x ∈ xs, InU8 x) := Rdr.slice rfl Rdr.byte
theorem Rdr.argS {α : Type} {e : Sh} {c : α → List AV} {sz : Nat} {ok : Nat → List α → Prop} (h : Rdr (.slice e) (fun xs => [.view true sz (xs.map c)]) ok) {B : Nat} {l : List AV} (hl : ShR B (.slice e) l) : ∃ x : List α, Up (topA (.slice e) l) (.view true sz (x.map c)) ∧ ok B x := by
  obtain ⟨x, u, o⟩ := h B l hl
  refine ⟨x, ?_, o⟩
  have hlen : l.length = 1 := u.1.symm
  match l, hlen with
  | [a], _ => exact u.2 0 a _ rfl rfl
theorem u64_wrap (n : Int) : IntKind.u64.wrap n = n % 18446744073709551616 := by rfl
theorem band_in {a b : Int} (h0 : 0 ≤ b) (h1 : b < 18446744073709551616) : 0 ≤ bandA .u64 a b ∧ bandA .u64 a b ≤ b := by
  have hb : (BitVec.ofInt (IntKind.bits .u64) a &&& BitVec.ofInt (IntKind.bits .u64) b).toNat ≤ b.toNat := by
    rw [BitVec.toNat_and]
    refine Nat.le_trans Nat.and_le_right ?_
    rw [BitVec.toNat_ofInt]
    have : ((2 ^ IntKind.bits .u64 : Nat) : Int) = 18446744073709551616 := by rfl
    rw [this]; omega
  unfold bandA
  rw [u64_wrap]
  omega
theorem KeepT.u {ms : List Nat} {i : Nat} {f t : Nat → AV} {v : AV} (hi : ms.contains i = true) (h : KeepT ms f t) : KeepT ms (upd f i v) t := by
  rw [keepT_upd (by simpa using hi)]; exact h
theorem KeepT.o {ms : List Nat} {f t : Nat → AV} {i : Nat} {v l} (hi : ms.contains i = true) (h : KeepT ms (ov l f) t) : KeepT ms (ov ((i, v) :: l) f) t := by
  rw [keepT_ov (by simpa using hi)]; exact h
theorem KeepT.on {ms : List Nat} {f t : Nat → AV} (h : KeepT ms f t) : KeepT ms (ov [] f) t := h
theorem KeepT.m {ms : List Nat} {tm t : Nat → AV} : KeepT ms (mask ms tm t) t := by rw [keepT_mask]; trivial
theorem KeepT.mm {ms ms' : List Nat} {tm t t' : Nat → AV} (hs : ms'.all ms.contains = true) (h : KeepT ms t' t) : KeepT ms (mask ms' tm t') t := by
  rw [keepT_mask' (by simpa using hs)]; exact h
def DiceO (h : Heap) (q : Nat) (xs : List Int) : Prop := ∃ (i : Nat) (H : Int), i ≤ xs.length ∧ h q = some (.obj [.view true 1 (xs.map uv), .int .i64 i, .int .u64 H])
theorem DiceO.upd {h : Heap} {q : Nat} {xs : List Int} {id : Nat} {e : Option Ent} (d : DiceO h q xs) (hn : q ≠ id) : DiceO (Go.AE.upd h id e) q xs := by
  obtain ⟨i, H, g1, g2⟩ := d
  exact ⟨i, H, g1, by rw [upd_ne _ _ _ _ hn]; exact g2⟩
def RollQ (xs : List Int) (h : Heap) (nx : Nat) (r : AV) (h' : Heap) (nx' : Nat) : Prop := ∃ q, nx ≤ q ∧ q < nx' ∧ r = .ptr q 0 ∧ DiceO h' q xs ∧ ∀ j, j < nx → h' j = h j
def BelQ (xs : List Int) (q : Nat) (n : Int) (h : Heap) (nx : Nat) (r : AV) (h' : Heap) (nx' : Nat) : Prop := ∃ v, 0 ≤ v ∧ v < n ∧ r = .int .i64 v ∧ DiceO h' q xs ∧ ∀ j, j < nx → j ≠ q → h' j = h j
theorem gt_byte {xs : List Int} (hx : ∀ x ∈ xs, InU8 x) {i : Nat} (hi : i < xs.length) : 0 ≤ gt xs (i : Int) ∧ gt xs (i : Int) ≤ 255 := hx _ (gt_mem (by omega) (by omega))
end Go.AE
end

section
/- Abstract machine: what the arguments read as, by their weights: every slice and string takes at most so many bytes. -/
namespace Go.AE
open Go.ChangeShapes Go.Deep Go.RowKit Go.ChangeAt

def shOkW (P : Program) : Nat → TypeId → Sh → Bool
  | 0, _, _ => false
  | n + 1, t, s =>
    match P.underlying t, s with
    | some (.int k), .int k' => decide (k = k')
    | some .bool, .bool => true
    | some .string, .str => true
    | some (.slice e), .slice s => shOkW P n e s && P.cellsOf e == s.size && (decide (0 < s.size) && decide (0 < P.bytesOf e))
    | some (.struct fs), s => fsOk P (shOkW P n) 0 fs.toList s && P.cellsOf t == s.size
    | _, _ => false

section
variable {H : Type} {enc : TypeId × Value → H} {P : Program} {w : World} {base : Nat} {spare : Nat → Bool} {held : Bool} {ρ : Names} {I : Imm}

def Light (P : Program) (t : TypeId) (d : DataW H) : Prop := (d.weights P t).all (· ≤ reachBytes) = true
theorem light_str {t : TypeId} {b : List UInt8} (h : Light (H := H) P t (.lit (.string b))) : b.length ≤ reachBytes := by
  simp only [Light, DataW.weights, List.all_cons, Bool.and_eq_true, decide_eq_true_eq] at h; exact h.1
theorem light_len {t e : TypeId} {es sp : List (DataW H)} (hu : P.underlying t = some (.slice e)) (hb : 0 < P.bytesOf e) (h : Light P t (.slice es sp)) : es.length ≤ reachBytes := by
  simp only [Light, DataW.weights, hu, List.all_cons, Bool.and_eq_true, decide_eq_true_eq] at h
  have h1 := h.1
  have h2 : (es.length + sp.length) * 1 ≤ (es.length + sp.length) * P.bytesOf e := Nat.mul_le_mul_left _ hb
  omega
theorem light_all {e : TypeId} : ∀ {es : List (DataW H)}, (DataW.weightsAll P e es).all (· ≤ reachBytes) = true → ∀ d ∈ es, Light P e d
  | [], _, d, hd => by simp at hd
  | x :: xs, h, d, hd => by
    simp only [DataW.weightsAll, List.all_append, Bool.and_eq_true] at h
    rcases List.mem_cons.1 hd with rfl | hd
    · exact h.1
    · exact light_all h.2 d hd
theorem light_elem {t e : TypeId} {es sp : List (DataW H)} (hu : P.underlying t = some (.slice e)) (h : Light P t (.slice es sp)) : ∀ d ∈ es, Light P e d := by
  simp only [Light, DataW.weights, hu, List.all_cons, List.all_append, Bool.and_eq_true] at h
  exact light_all h.2.1
theorem light_each : ∀ {ts : List TypeId} {ps : List (DataW H)}, (DataW.weightsEach P ts ps).all (· ≤ reachBytes) = true → ∀ (i : Nat) t d, ts[i]? = some t → ps[i]? = some d → Light P t d
  | [], _, _, i, t, d, h1, _ => by simp at h1
  | t0 :: ts, [], _, i, t, d, _, h2 => by simp at h2
  | t0 :: ts, p :: ps, h, i, t, d, h1, h2 => by
    simp only [DataW.weightsEach, List.all_append, Bool.and_eq_true] at h
    cases i with
    | zero => simp at h1 h2; subst h1; subst h2; exact h.1
    | succ i => exact light_each h.2 i t d (by simpa using h1) (by simpa using h2)
theorem light_part {t : TypeId} {fs : Array Field} {ps : List (DataW H)} (hu : P.underlying t = some (.struct fs)) (h : Light P t (.agg ps)) : ∀ (i : Nat) f d, fs.toList[i]? = some f → ps[i]? = some d → Light P f.type d := by
  simp only [Light, DataW.weights, hu] at h
  intro i f d hf hd
  exact light_each h i f.type d (by rw [List.getElem?_map, hf]; rfl) hd

theorem fields_vrW {ok : TypeId → Sh → Bool} {m : Nat} {cs : List Value}
    (ih : ∀ (s : Sh) (t : TypeId) (cs : List Value) (x : DataW H × List MemPlace), ok t s = true → DataW.trod enc P w base spare held m t cs = some x → Light P t x.1 → ∃ l, ShR reachBytes s l ∧ VRl ρ I w l cs) :
    ∀ (s : Sh) (fs : List Field) (off : Nat) (xs : List (DataW H × List MemPlace)), fsOk P ok off fs s = true → xs.length = fs.length →
      (∀ (i : Nat) (f : Field), fs[i]? = some f → DataW.trod enc P w base spare held m f.type ((cs.drop f.offset).take (P.cellsOf f.type)) = xs[i]?) →
      (∀ (i : Nat) f x, fs[i]? = some f → xs[i]? = some x → Light P f.type x.1) → off + s.size ≤ cs.length → ∃ l, ShR reachBytes s l ∧ VRl ρ I w l ((cs.drop off).take s.size) := by
  intro s
  induction s with
  | nil =>
    intro fs off xs hok hl hx hb hle
    exact ⟨[], rfl, by simp [Sh.size], fun i a u h => by simp at h⟩
  | cons a b _ ihb =>
    intro fs off xs hok hl hx hb hle
    cases fs with
    | nil => simp [fsOk] at hok
    | cons f fs =>
      cases xs with
      | nil => simp at hl
      | cons x xs =>
        simp only [fsOk, Bool.and_eq_true, beq_iff_eq] at hok
        obtain ⟨⟨⟨h1, h2⟩, h3⟩, h4⟩ := hok
        simp only [Sh.size] at hle
        have ht := hx 0 f rfl
        rw [h1, h3] at ht
        obtain ⟨la, ra, va⟩ := ih a f.type _ x h2 ht (hb 0 f x rfl rfl)
        obtain ⟨lb, rb, vb⟩ := ihb fs (off + a.size) xs h4 (by simpa using hl) (fun i g hg => by
          have := hx (i + 1) g (by simpa using hg)
          simpa using this) (fun i g y hg hy => hb (i + 1) g y (by simpa using hg) (by simpa using hy)) (by omega)
        refine ⟨la ++ lb, ⟨la, lb, rfl, ra, rb⟩, ?_⟩
        have e : (cs.drop off).take (Sh.cons a b).size = (cs.drop off).take a.size ++ (cs.drop (off + a.size)).take b.size := by
          simp only [Sh.size]
          rw [List.take_add, List.drop_drop]
        rw [e]
        exact va.append vb
  | _ =>
    intro fs off xs hok
    cases fs <;> simp [fsOk] at hok

theorem trod_vrW (hI : ∀ b, b < w.heap.size → I true b) : ∀ (n : Nat) (s : Sh) (t : TypeId) (fuel : Nat) (cs : List Value) (x : DataW H × List MemPlace),
    shOkW P n t s = true → DataW.trod enc P w base spare held fuel t cs = some x → Light P t x.1 → ∃ l, ShR reachBytes s l ∧ VRl ρ I w l cs := by
  have hB : reachBytes ≤ LIM := by decide
  intro n
  induction n with
  | zero => intro s t fuel cs x h; simp [shOkW] at h
  | succ n ih =>
    intro s t fuel cs x hs ht hb
    unfold shOkW at hs
    split at hs
    · rename_i k k' hu
      simp only [decide_eq_true_eq] at hs
      subst hs
      obtain ⟨z, rfl, rfl, hw⟩ := DataW.trod_int hu ht
      exact ⟨[.int k z], ⟨z, rfl, hw⟩, VRl.one (.int k z)⟩
    · rename_i hu
      obtain ⟨z, rfl, rfl⟩ := DataW.trod_bool hu ht
      exact ⟨[.bool z], ⟨z, rfl⟩, VRl.one (.bool z)⟩
    · rename_i hu
      obtain ⟨z, rfl, rfl, hw⟩ := DataW.trod_string hu ht
      refine ⟨[.str z], ⟨z, rfl, ?_⟩, VRl.one (.str z)⟩
      exact light_str (b := z.data.toList) hb
    · rename_i e se hu
      simp only [Bool.and_eq_true, beq_iff_eq, decide_eq_true_eq] at hs
      obtain ⟨⟨h1, h2⟩, h3, h3b⟩ := hs
      rcases open_slice hu ht with ⟨rfl, rfl⟩ | ⟨a, len, cap, m, n', D, Pl, rfl, hba, hl, hm, hmm, rfl, hx⟩
      · exact ⟨[.nil], .inl rfl, VRl.one .nil⟩
      · have hlm : len ≤ m := by rw [hmm]; split <;> omega
        have hlen : len ≤ reachBytes := by
          have := light_len hu h3b hb
          simp only [List.length_map, List.length_range] at this
          exact this
        rw [h2] at hx
        have hx' : ∀ i, i < len → ∃ l, ShR reachBytes se l ∧ ∃ cs', w.cells? base (a.add (i * se.size)) se.size = some cs' ∧ VRl ρ I w l cs' := by
          intro i hi
          obtain ⟨cs', g1, g2⟩ := hx i (by omega)
          obtain ⟨l, g3, g4⟩ := ih se e n' cs' _ h1 g2 (light_elem hu hb _ (List.mem_map.2 ⟨i, List.mem_range.2 hi, rfl⟩))
          exact ⟨l, g3, cs', g1, g4⟩
        obtain ⟨f, hf⟩ := choose_lt hx'
        refine ⟨[.view true se.size ((List.range len).map f)], .inr ⟨_, rfl, by simpa using hlen, fun c hc => ?_⟩, VRl.one ?_⟩
        · obtain ⟨i, hi, rfl⟩ := List.mem_map.1 hc
          exact (hf i (List.mem_range.1 hi)).1
        · cases len with
          | zero => exact .viewNil ..
          | succ len =>
            have hcell : ∀ i j, i < len + 1 → j < se.size → ∃ u, w.cell? ⟨a.block, a.off + i * se.size + j, none⟩ = some u ∧ ∀ y, (f i)[j]? = some y → VR ρ I w y u := by
              intro i j hi hj
              obtain ⟨_, cs', g1, g2⟩ := hf i hi
              obtain ⟨q1, q2, q3⟩ := World.cells?_some g1
              have q4 := q3 j hj
              rw [List.getElem?_eq_getElem (by omega)] at q4
              have hsp : ((a.add (i * se.size)).add j).spot = none := by
                cases hs : ((a.add (i * se.size)).add j).spot with
                | none => rfl
                | some _ =>
                  unfold World.cell? at q4
                  simp only [hs, Option.isSome_some, if_true] at q4
                  split at q4 <;> cases q4
              have hadd : (a.add (i * se.size)).add j = ⟨a.block, a.off + i * se.size + j, none⟩ := by
                rw [add_add] at hsp ⊢
                unfold Addr.add at hsp ⊢
                split
                · rename_i h0
                  rw [if_pos h0] at hsp
                  cases a; simp_all
                · simp [Nat.add_assoc]
              rw [hadd] at q4
              refine ⟨_, q4, fun y hy => g2.2 j y _ hy (List.getElem?_eq_getElem (by omega))⟩
            have hlt : a.block < w.heap.size := by
              obtain ⟨u, hu, _⟩ := hcell 0 0 (by omega) h3
              unfold World.cell? at hu
              split at hu
              · rename_i heq
                exact (Array.getElem?_eq_some_iff.1 heq).1
              · cases hu
            have hsp : a.spot = none := by
              obtain ⟨_, cs', g1, g2⟩ := hf 0 (by omega)
              obtain ⟨q1, q2, q3⟩ := World.cells?_some g1
              have q4 := q3 0 h3
              rw [List.getElem?_eq_getElem (by omega)] at q4
              simp only [Nat.zero_mul, Addr.add, if_true] at q4
              cases hs : a.spot with
              | none => rfl
              | some _ =>
                unfold World.cell? at q4
                simp only [hs, Option.isSome_some, if_true] at q4
                split at q4 <;> cases q4
            have ha : a = ⟨a.block, a.off, none⟩ := by cases a; simp_all
            have hl1 : ((List.range (len + 1)).map f).length = len + 1 := by simp
            have := VR.view (ρ := ρ) (I := I) (w := w) true se.size ((List.range (len + 1)).map f) a.block a.off cap (hI _ hlt) (by rw [hl1]; omega) (by rw [hl1]; exact hl) (fun i x hx => ?_) (fun i j x hx => ?_) (fun i j x u hx hu => ?_)
            · rw [hl1, ← ha] at this; exact this
            · rw [List.getElem?_map, Option.map_eq_some_iff] at hx
              obtain ⟨i', hi', rfl⟩ := hx
              have := (List.getElem?_eq_some_iff.1 hi')
              obtain ⟨q1, q2⟩ := this
              simp at q1 q2; subst q2
              exact (hf i (by omega)).1.length
            · obtain ⟨cells, q1, q2⟩ := get2_some hx
              rw [List.getElem?_map, Option.map_eq_some_iff] at q1
              obtain ⟨i', hi', rfl⟩ := q1
              obtain ⟨q3, q4⟩ := (List.getElem?_eq_some_iff.1 hi')
              simp at q3 q4; subst q4
              have hj : j < se.size := by rw [← (hf i (by omega)).1.length]; exact (List.getElem?_eq_some_iff.1 q2).1
              obtain ⟨u, hu, _⟩ := hcell i j (by omega) hj
              exact ⟨u, hu⟩
            · obtain ⟨cells, q1, q2⟩ := get2_some hx
              rw [List.getElem?_map, Option.map_eq_some_iff] at q1
              obtain ⟨i', hi', rfl⟩ := q1
              obtain ⟨q3, q4⟩ := (List.getElem?_eq_some_iff.1 hi')
              simp at q3 q4; subst q4
              have hj : j < se.size := by rw [← (hf i (by omega)).1.length]; exact (List.getElem?_eq_some_iff.1 q2).1
              obtain ⟨u', hu', h'⟩ := hcell i j (by omega) hj
              rw [hu'] at hu; cases hu
              exact h' x q2
    · rename_i fs hu

      simp only [Bool.and_eq_true, beq_iff_eq] at hs
      obtain ⟨h1, h2⟩ := hs
      obtain ⟨xs, m, rfl, rfl, hl, hlen, hf⟩ := DataW.trod_struct hu ht
      have := fields_vrW (enc := enc) (P := P) (w := w) (base := base) (spare := spare) (held := held) (ρ := ρ) (I := I) (ok := shOkW P n) (m := m) (cs := cs)
        (fun s t cs x => ih s t m cs x) _ fs.toList 0 xs h1 (by simpa using hlen) (fun i f hi => hf i f (by simpa using hi)) (fun i f x hf hx => light_part hu hb i f x.1 hf (by rw [List.getElem?_map, hx]; rfl)) (by omega)
      rw [List.drop_zero, List.take_of_length_le (by omega)] at this
      exact this
    · cases hs
theorem arg_vrW {n : Nat} {s : Sh} {t : TypeId} {v : Value} {d : DataW H} {ps : List MemPlace} {r : Reach} {b0 : Nat} {W : World}
    (hs : shOkW P n t s = true) (ht : DataW.Trod enc P W base spare held t v d ps) (hok : Value.okWide P W r b0 t v) (hb : Light P t d) :
    ∃ l, ShR reachBytes s l ∧ VR ρ (Imm0 W) W (topA s l) v := by
  obtain ⟨fuel, ht⟩ := ht
  obtain ⟨l, h1, h2⟩ := trod_vrW (ρ := ρ) (I := Imm0 W) (fun b hb => hb) n s t fuel _ _ hs ht hb
  refine ⟨l, h1, ?_⟩
  have hlen := h1.length
  cases n with
  | zero => simp [shOkW] at hs
  | succ n =>
    unfold shOkW at hs
    have one : ∀ (x : Value), v = x → (v.cells.toList = [x]) → l.length = 1 → VR ρ (Imm0 W) W (l.headD .dead) v := by
      intro x hx hc hl
      match l, hl with
      | [a], _ => rw [hc] at h2; rw [hx]; exact h2.head
    have agg : ∀ cs, v = .agg cs → VR ρ (Imm0 W) W (.agg l) v := by
      rintro cs rfl
      exact .agg l cs (by simpa [Value.cells] using h2.1) fun i x u hx hu => h2.2 i x u hx (by simpa [Value.cells] using hu)
    split at hs
    · rename_i k k' hu
      obtain ⟨z, rfl⟩ := WideShapes.okWide_int hu hok
      exact one _ rfl rfl hlen
    · rename_i hu
      have : ∃ z, v = .bool z := by
        simp only [Value.okWide, hu, Cell.okWide] at hok
        cases v <;> simp_all [Cell.ok]
      obtain ⟨z, rfl⟩ := this
      exact one _ rfl rfl hlen
    · rename_i hu
      obtain ⟨z, rfl⟩ := WideShapes.okWide_string hu hok
      exact one _ rfl rfl hlen
    · rename_i e se hu
      obtain ⟨a, len, cap, rfl⟩ := WideShapes.okWide_slice hu hok
      exact one _ rfl rfl hlen
    · rename_i s1 _ _ fs hu
      simp only [Bool.and_eq_true] at hs
      obtain ⟨h3, _⟩ := hs
      simp only [Value.okWide, hu] at hok
      obtain ⟨cs, rfl, _⟩ := hok
      cases s1 with
      | nil => exact agg _ rfl
      | cons a b => exact agg _ rfl
      | _ => cases hfs : fs.toList <;> simp [hfs, fsOk] at h3
    · cases hs
end

end Go.AE
end

section
/- Abstract machine: a world in owned rows. -/
namespace Go.AE

structure WI where
  top : Nat → Nat
  pg : List Nat
  gr : List Nat

def prgR (p : List Inn) (id : Nat) : List AV := [.ref id 3 0 p.length]
def grpR (g : Grp) (id : Nat) : List AV := [.int .i64 g.node, .int .i64 g.limit, .int .i64 g.active, .ref id 1 0 g.waits.length, .int .i64 g.first]
def wldR (X : WI) (w : Wld) : List AV :=
  [.int .i64 w.now, .ref (X.top 0) 1 0 w.progs.length, .ref (X.top 1) 5 0 w.tree.length, .ref (X.top 2) 4 0 w.events.length, .ref (X.top 3) 1 0 w.spread.told.length, .ref (X.top 4) 1 0 w.spread.work.length,
   .ref (X.top 5) 3 0 w.timers.heap.length, .ref (X.top 6) 5 0 w.timers.list.length, .int .i64 w.timers.next, .ref (X.top 7) 1 0 w.afters.slots.ages.length, .ref (X.top 8) 1 0 w.afters.slots.used.length, .ref (X.top 9) 5 0 w.afters.list.length,
   .ref (X.top 10) 9 0 w.tasks.length, .ref (X.top 11) 5 0 w.groups.length, .ref (X.top 12) 4 0 w.sights.length, .ref (X.top 13) 1 0 w.began.length, .ref (X.top 14) 1 0 w.rang.length]
def wRow (X : WI) (w : Wld) : Nat → Ent
  | 0 => .row 1 (List.zipWith prgR w.progs X.pg)
  | 1 => .row 5 (w.tree.map nodC)
  | 2 => .row 4 (w.events.map evtC)
  | 3 => .row 1 (w.spread.told.map bv)
  | 4 => .row 1 (w.spread.work.map iv)
  | 5 => .row 3 (w.timers.heap.map twgC)
  | 6 => .row 5 (w.timers.list.map tmrC)
  | 7 => .row 1 (w.afters.slots.ages.map iv)
  | 8 => .row 1 (w.afters.slots.used.map bv)
  | 9 => .row 5 (w.afters.list.map afrC)
  | 10 => .row 9 (w.tasks.map tskC)
  | 11 => .row 5 (List.zipWith grpR w.groups X.gr)
  | 12 => .row 4 (w.sights.map sgtC)
  | 13 => .row 1 (w.began.map iv)
  | _ => .row 1 (w.rang.map iv)
def WI.ids (X : WI) : List Nat := (List.range 15).map X.top ++ (X.pg ++ X.gr)
structure WV (h : Heap) (X : WI) (w : Wld) : Prop where
  top : ∀ k, k < 15 → h (X.top k) = some (wRow X w k)
  pl : X.pg.length = w.progs.length
  gl : X.gr.length = w.groups.length
  prog : ∀ (j : Nat) p id, w.progs[j]? = some p → X.pg[j]? = some id → h id = some (.row 3 (p.map innC))
  wait : ∀ (j : Nat) g id, w.groups[j]? = some g → X.gr[j]? = some id → h id = some (.row 1 (g.waits.map iv))
  nd : X.ids.Nodup

theorem WV.top_inj {h X w} (v : WV h X w) {i j : Nat} (hi : i < 15) (hj : j < 15) (e : X.top i = X.top j) : i = j := by
  have := (List.nodup_append.1 v.nd).1
  have key := List.pairwise_iff_getElem.1 this
  by_cases hij : i = j
  · exact hij
  · exfalso
    rcases Nat.lt_or_gt_of_ne hij with hlt | hlt
    · exact key i j (by simp; omega) (by simp; omega) hlt (by simp [e])
    · exact key j i (by simp; omega) (by simp; omega) hlt (by simp [e])

theorem WV.keep {h h' X w} (v : WV h X w) (hk : ∀ id ∈ X.ids, h' id = h id) : WV h' X w where
  top k hk' := by rw [hk _ (by simp only [WI.ids, List.mem_append, List.mem_map]; exact .inl ⟨k, by simpa using hk', rfl⟩)]; exact v.top k hk'
  pl := v.pl
  gl := v.gl
  prog j p id hp hi := by rw [hk id (by simp only [WI.ids, List.mem_append]; exact .inr (.inl (List.mem_of_getElem? hi)))]; exact v.prog j p id hp hi
  wait j g id hg hi := by rw [hk id (by simp only [WI.ids, List.mem_append]; exact .inr (.inr (List.mem_of_getElem? hi)))]; exact v.wait j g id hg hi
  nd := v.nd

theorem zip_get {α : Type} {f : α → Nat → List AV} {xs : List α} {is : List Nat} (hl : is.length = xs.length) (i : Nat) : (List.zipWith f xs is)[i]? = (xs[i]?).bind fun x => (is[i]?).map fun k => f x k := by
  rw [List.getElem?_zipWith]
  cases hx : xs[i]? with
  | none => simp
  | some x => cases is[i]? <;> simp
theorem Bor.zip {h : Heap} {α : Type} {f : α → Nat → List AV} {g : α → List AV} {xs : List α} {is : List Nat} {id sz len : Nat} (hl : is.length = xs.length) (hid : h id = some (.row sz (List.zipWith f xs is))) (hlen : len = xs.length)
    (hb : ∀ (j : Nat) x k, xs[j]? = some x → is[j]? = some k → Bors h (f x k) (g x)) : Bor h (.ref id sz 0 len) (.view false sz (xs.map g)) := by
  subst hlen
  have key : ∀ (i : Nat) c d, (List.zipWith f xs is)[i]? = some c → (xs.map g)[i]? = some d → Bors h c d := by
    intro i c d hc hd
    rw [zip_get hl] at hc
    rw [List.getElem?_map] at hd
    cases hx : xs[i]? with
    | none => rw [hx] at hc; cases hc
    | some x =>
      rw [hx] at hc hd
      cases hk : is[i]? with
      | none => rw [hk] at hc; cases hc
      | some k =>
        rw [hk] at hc
        cases hc; cases hd
        exact hb i x k hx hk
  refine Bor.ref id sz 0 xs.length _ _ hid (by simp [hl]) (by simp) (fun i c d hc hd => ?_) (fun i j x y hx hy => ?_)
  · rw [List.drop_zero, List.take_of_length_le (by simp [hl])] at hc
    exact (key i c d hc hd).len
  · rw [List.drop_zero, List.take_of_length_le (by simp [hl])] at hx
    obtain ⟨c, hc, hx⟩ := get2_some hx
    obtain ⟨d, hd, hy⟩ := get2_some hy
    exact (key i c d hc hd).get j x y hx hy
abbrev FF : Nat → Bool := fun _ => false
theorem WV.bors {h X w} (v : WV h X w) : Bors h (wldR X w) (wldV FF w) := by
  have t := v.top
  unfold wldR wldV
  refine .cons (.same _) (.cons (Bor.zip v.pl (t 0 (by omega)) rfl fun j x k hx hk => .cons (.ref0 (v.prog j x k hx hk) rfl (by simp)) .nil) (.cons (.ref0 (t 1 (by omega)) rfl (by simp)) (.cons (.ref0 (t 2 (by omega)) rfl (by simp)) (.cons (.ref0 (t 3 (by omega)) rfl (by simp))
    (.cons (.ref0 (t 4 (by omega)) rfl (by simp)) (.cons (.ref0 (t 5 (by omega)) rfl (by simp)) (.cons (.ref0 (t 6 (by omega)) rfl (by simp)) (.cons (.same _) (.cons (.ref0 (t 7 (by omega)) rfl (by simp)) (.cons (.ref0 (t 8 (by omega)) rfl (by simp)) (.cons (.ref0 (t 9 (by omega)) rfl (by simp))
    (.cons (.ref0 (t 10 (by omega)) rfl (by simp)) (.cons (Bor.zip v.gl (t 11 (by omega)) rfl fun j x k hx hk => .cons (.same _) (.cons (.same _) (.cons (.same _) (.cons (.ref0 (v.wait j x k hx hk) rfl (by simp)) (.cons (.same _) .nil))))) (.cons (.ref0 (t 12 (by omega)) rfl (by simp))
    (.cons (.ref0 (t 13 (by omega)) rfl (by simp)) (.cons (.ref0 (t 14 (by omega)) rfl (by simp)) .nil))))))))))))))))
end Go.AE
end

section
/- Abstract machine: contracts of functions that hand back a world in new rows. -/
namespace Go.AE
theorem fz_mapR {α : Type} {f : α → List AV} (hf : ∀ x, ∀ c ∈ f x, Fz c) (xs : List α) : ∀ i j x, get2 (xs.map f) i j = some x → Fz x := fun i j x hx => by
  obtain ⟨cs, h1, h2⟩ := get2_some hx
  obtain ⟨y, _, rfl⟩ := List.mem_map.1 (List.mem_of_getElem? h1)
  exact hf y x (List.mem_of_getElem? h2)

theorem ACall.ends {P f args h nx} {Q : AV → Heap → Nat → Prop} (hc : ACall P f args h nx Q) : ACall P f args h nx fun r h' nx' => Q r h' nx' ∧ nx ≤ nx' ∧ Fr nx' h' :=
  ⟨hc.1, fun ρ I w vs h1 h2 h3 => (hc.2 ρ I w vs h1 h2 h3).mono fun e w' ⟨v, r, h', nx', ρ', I', g1, hq, g3, g4, g5, g6, g7, g8⟩ =>
    ⟨v, r, h', nx', ρ', I', g1, ⟨hq, g7, fun k hk => by
      cases hh : h' k with
      | none => rfl
      | some e => obtain ⟨B, hB⟩ := (g4.ent hh).base; have := g8 _ B hB; omega⟩, g3, g4, g5, g6, g7, g8⟩⟩

def AC (P : Program) (f : FuncId) (args : List AV) (Pre : Heap → Nat → Prop) (Q : Heap → Nat → AV → Heap → Nat → Prop) : Prop :=
  ∀ (h : Heap) (nx : Nat), Pre h nx → ACall P f args h nx fun r h' nx' => Q h nx r h' nx' ∧ nx ≤ nx' ∧ Fr nx' h'

def RetQ (C : Ctx) (rs : List ResultVar) (Q : AV → Heap → Nat → Prop) : AX → St → Prop := RetK C rs Q
def finQ (Q : AV → Heap → Nat → Prop) (v : Option AV) (s : St) : Prop := ∃ r, v = some r ∧ Q r s.h s.nx
@[simp] theorem finQ_some (Q r) (s : St) : finQ Q (some r) s = Q r s.h s.nx := by simp [finQ]
@[simp] theorem retQ_ret (C rs Q) (s : St) : RetQ C rs Q .ret s = finQ Q (resultsA C s rs) s := propext Iff.rfl
@[simp] theorem retQ_normal (C rs Q) (s : St) : RetQ C rs Q .normal s = finQ Q (resultsA C s rs) s := propext Iff.rfl

theorem AC.of {C : Ctx} (ok : C.Ok) {f : FuncId} {fn : Func} {c : Code} {args : List AV} {Pre : Heap → Nat → Prop} {Q : Heap → Nat → AV → Heap → Nat → Prop} (hf : C.P.funcs[f]? = some fn) (hb : fn.body = some c)
    (hname : (fn.name == "runtime.NumGoroutine") = false) (hc : codeOk fn.ntmps c = true) (hargs : args.length ≤ fn.ntmps)
    (hw : ∀ (h : Heap) (nx : Nat), Fr nx h → (∀ j, h j ≠ none → j < nx) → Pre h nx → goC C c ⟨argT args, h, nx⟩ (.fin (RetQ C fn.results.toList (Q h nx)))) : AC C.P f args Pre Q := by
  intro h nx hp
  refine ⟨⟨fn, hf, hname, by simp [hb]⟩, fun ρ I w vs hnm H hv => ?_⟩
  have hlt : ∀ j, h j ≠ none → j < nx := by
    intro j hj
    cases he : h j with
    | none => exact absurd he hj
    | some e => obtain ⟨B, hB⟩ := (H.ent he).base; exact hnm j B hB
  exact (ACall.ends (ACall.of_body ok hf hb hname hc hargs (hw h nx (Fr.start hlt (Nat.le_refl _)) hlt hp))).2 ρ I w vs hnm H hv

theorem AC.o {C : Ctx} (ok : C.Ok) {f : FuncId} {fn : Func} {c : Code} {args : List AV} {Pre : Heap → Nat → Prop} {Q : Heap → Nat → AV → Heap → Nat → Prop} (hf : C.P.funcs[f]? = some fn) (hb : fn.body = some c)
    (hw : ∀ (h : Heap) (nx : Nat), Fr nx h → (∀ j, h j ≠ none → j < nx) → Pre h nx → goC C c ⟨argT args, h, nx⟩ (.fin (RetQ C fn.results.toList (Q h nx))))
    (hname : (fn.name == "runtime.NumGoroutine") = false := by rfl) (hc : codeOk fn.ntmps c = true := by kernel_rfl) (hargs : args.length ≤ fn.ntmps := by exact Nat.le_of_ble_eq_true rfl) : AC C.P f args Pre Q := AC.of ok hf hb hname hc hargs hw

theorem call_ac {C : Ctx} {n d g args} {Pre : Heap → Nat → Prop} {Q : Heap → Nat → AV → Heap → Nat → Prop} {st : St} (hc : AC C.P g args Pre Q) (hp : Pre st.h st.nx)
    (hr : ∀ r h' n', Q st.h st.nx r h' n' → st.nx ≤ n' → Fr n' h' → runN C n (({ st with h := h', nx := n' } : St).put d r)) : doCall C n d g args st :=
  (hc st.h st.nx hp).mono fun r h' n' ⟨h1, h2, h3⟩ => hr r h' n' h1 h2 h3

section
variable {α : Type} {f : α → Nat → List AV} {z : List AV} {xs : List α} {is : List Nat}
end
structure Subs {α : Type} (h : Heap) (sz : Nat) (c : α → List (List AV)) (xs : List α) (is : List Nat) (lo hi : Nat) : Prop where
  row : ∀ (j : Nat) x id, xs[j]? = some x → is[j]? = some id → h id = some (.row sz (c x))
  nd : is.Nodup
  lo : ∀ id ∈ is, lo ≤ id
  hi : ∀ id ∈ is, id < hi
theorem Subs.nil {α : Type} {h : Heap} {sz c lo hi} {xs : List α} : Subs h sz c xs [] lo hi := ⟨fun j x id _ h => by simp at h, List.nodup_nil, fun id h => by simp at h, fun id h => by simp at h⟩
theorem Subs.snoc {α : Type} [Inhabited α] {h h' : Heap} {sz c lo hi hi'} {xs : List α} {is : List Nat} {id : Nat} (s : Subs h sz c xs is lo hi) (hk : ∀ i ∈ is, h' i = h i) (hn : h' id = some (.row sz (c (gt xs (is.length : Int))))) (hl : lo ≤ id) (h1 : hi ≤ id) (h2 : id < hi') :
    Subs h' sz c xs (is ++ [id]) lo hi' where
  row j x i hx hi2 := by
    by_cases hj : j < is.length
    · rw [List.getElem?_append_left hj] at hi2
      rw [hk i (List.mem_of_getElem? hi2)]; exact s.row j x i hx hi2
    · rw [List.getElem?_append_right (by omega)] at hi2
      by_cases hj2 : j = is.length
      · subst hj2
        simp at hi2; subst hi2
        have hlt := (List.getElem?_eq_some_iff.1 hx).1
        rw [List.getElem?_eq_getElem hlt] at hx; cases hx
        rw [hn, gt_nat hlt]
      · have : j - is.length ≠ 0 := by omega
        obtain ⟨k, hk⟩ := Nat.exists_eq_succ_of_ne_zero this
        rw [hk] at hi2; simp at hi2
  nd := by
    rw [List.nodup_append]
    refine ⟨s.nd, by simp, fun a ha b hb => ?_⟩
    simp at hb; subst hb
    have := s.hi a ha; omega
  lo i hi2 := by
    rcases List.mem_append.1 hi2 with h | h
    · exact s.lo i h
    · simp at h; omega
  hi i hi2 := by
    rcases List.mem_append.1 hi2 with h | h
    · have := s.hi i h; omega
    · simp at h; omega
theorem Subs.keep {α : Type} {h h' : Heap} {sz c lo hi lo' hi'} {xs : List α} {is : List Nat} (s : Subs h sz c xs is lo hi) (hk : ∀ i ∈ is, h' i = h i) (h1 : lo' ≤ lo) (h2 : hi ≤ hi') : Subs h' sz c xs is lo' hi' :=
  ⟨fun j x id hx hi => by rw [hk id (List.mem_of_getElem? hi)]; exact s.row j x id hx hi, s.nd, fun i hi => by have := s.lo i hi; omega, fun i hi => by have := s.hi i hi; omega⟩
theorem storeE_put {C : Ctx} {n d dT p idx sz xs vs cells} {st : St} (hp : st.h p = some (.row sz xs)) (hf : frz st.h vs = some (vs, st.h)) (hl : vs.length = dT.size) (hz : dT.size = sz) (hc : xs[idx]? = some cells) (hcl : cells.length = sz)
    (hr : runN C n ({ st with h := upd st.h p (some (.row sz (xs.set idx vs))) }.put d .dead)) : storeE C n d dT p idx 0 vs st := by
  refine storeE_row hf hp hl (by omega) hc ?_
  have e : splice cells 0 vs = vs := by simp [splice]; omega
  rw [e]; exact hr
def WI.ofL (L pg gr : List Nat) : WI := ⟨fun k => L.getD k 0, pg, gr⟩
theorem WI.ofL_ids {t0 t1 t2 t3 t4 t5 t6 t7 t8 t9 t10 t11 t12 t13 t14 : Nat} {pg gr : List Nat} : (WI.ofL [t0, t1, t2, t3, t4, t5, t6, t7, t8, t9, t10, t11, t12, t13, t14] pg gr).ids = [t0, t1, t2, t3, t4, t5, t6, t7, t8, t9, t10, t11, t12, t13, t14] ++ (pg ++ gr) := rfl
theorem WV.ofL {H : Heap} {w : Wld} {t0 t1 t2 t3 t4 t5 t6 t7 t8 t9 t10 t11 t12 t13 t14 : Nat} {pg gr : List Nat} {a b c d : Nat}
    (r0 : H t0 = some (.row 1 (List.zipWith prgR w.progs pg))) (r1 : H t1 = some (.row 5 (w.tree.map nodC))) (r2 : H t2 = some (.row 4 (w.events.map evtC))) (r3 : H t3 = some (.row 1 (w.spread.told.map bv))) (r4 : H t4 = some (.row 1 (w.spread.work.map iv)))
    (r5 : H t5 = some (.row 3 (w.timers.heap.map twgC))) (r6 : H t6 = some (.row 5 (w.timers.list.map tmrC))) (r7 : H t7 = some (.row 1 (w.afters.slots.ages.map iv))) (r8 : H t8 = some (.row 1 (w.afters.slots.used.map bv))) (r9 : H t9 = some (.row 5 (w.afters.list.map afrC)))
    (r10 : H t10 = some (.row 9 (w.tasks.map tskC))) (r11 : H t11 = some (.row 5 (List.zipWith grpR w.groups gr))) (r12 : H t12 = some (.row 4 (w.sights.map sgtC))) (r13 : H t13 = some (.row 1 (w.began.map iv))) (r14 : H t14 = some (.row 1 (w.rang.map iv)))
    (pl : pg.length = w.progs.length) (gl : gr.length = w.groups.length) (sp : Subs H 3 (fun x : List Inn => x.map innC) w.progs pg a b) (sg : Subs H 1 (fun x : Grp => x.waits.map iv) w.groups gr c d) (hbc : b ≤ c)
    (nt : [t0, t1, t2, t3, t4, t5, t6, t7, t8, t9, t10, t11, t12, t13, t14].Nodup) (np : ∀ t ∈ [t0, t1, t2, t3, t4, t5, t6, t7, t8, t9, t10, t11, t12, t13, t14], ¬ (a ≤ t ∧ t < b) ∧ ¬ (c ≤ t ∧ t < d)) :
    WV H (WI.ofL [t0, t1, t2, t3, t4, t5, t6, t7, t8, t9, t10, t11, t12, t13, t14] pg gr) w where
  top k hk := by
    match k, hk with
    | 0, _ => exact r0
    | 1, _ => exact r1
    | 2, _ => exact r2
    | 3, _ => exact r3
    | 4, _ => exact r4
    | 5, _ => exact r5
    | 6, _ => exact r6
    | 7, _ => exact r7
    | 8, _ => exact r8
    | 9, _ => exact r9
    | 10, _ => exact r10
    | 11, _ => exact r11
    | 12, _ => exact r12
    | 13, _ => exact r13
    | 14, _ => exact r14
    | _ + 15, hk => omega
  pl := pl
  gl := gl
  prog j p id hp hi := sp.row j p id hp hi
  wait j g id hg hi := sg.row j g id hg hi
  nd := by
    rw [WI.ofL_ids, List.nodup_append]
    refine ⟨nt, ?_, fun x hx y hy => ?_⟩
    · rw [List.nodup_append]
      exact ⟨sp.nd, sg.nd, fun x hx y hy => by have := sp.hi x hx; have := sg.lo y hy; omega⟩
    · have := np x hx
      rcases List.mem_append.1 hy with hy | hy
      · have := sp.lo y hy
        have := sp.hi y hy
        omega
      · have := sg.lo y hy
        have := sg.hi y hy
        omega
end Go.AE
end

section
/- Abstract machine: rows that are marked from their beginning on, field by field. -/
namespace Go.AE
def markL {α : Type} (mk : Int → α) (sz : Nat) (k : Int) (n : Nat) : List α := (List.range n).map fun (j : Nat) => mk (k + (sz : Int) * (j : Int))
section
variable {α : Type} {f : α → List AV} {mk : Int → α} {sz : Nat} {k : Int} {xs : List α} {i : Nat}
@[simp] theorem markL_len {n : Nat} : (markL mk sz k n).length = n := by simp [markL]
end
end Go.AE
end

section
/- Abstract machine: programs and groups that are marked, in rows that hold the names of rows. -/
namespace Go.AE
@[simp] theorem lsum_nil {α : Type} (f : α → Nat) : lsum f [] = 0 := rfl
theorem Subs.set {α : Type} {h h' : Heap} {sz c lo hi} {xs : List α} {is : List Nat} {i id : Nat} {x : α} (s : Subs h sz c xs is lo hi) (hid : is[i]? = some id) (hn : h' id = some (.row sz (c x))) (hk : ∀ j ∈ is, j ≠ id → h' j = h j) : Subs h' sz c (xs.set i x) is lo hi where
  row j y jd hy hj := by
    by_cases e : j = i
    · subst e
      rw [hid] at hj; cases hj
      by_cases hlt : j < xs.length
      · rw [List.getElem?_set_self hlt] at hy; cases hy; exact hn
      · rw [List.getElem?_eq_none (by simpa using hlt)] at hy; cases hy
    · rw [List.getElem?_set_ne (by omega)] at hy
      have hne : jd ≠ id := by
        intro e2
        subst e2
        have h1 := (List.getElem?_eq_some_iff.1 hid)
        have h2 := (List.getElem?_eq_some_iff.1 hj)
        obtain ⟨a1, a2⟩ := h1
        obtain ⟨b1, b2⟩ := h2
        have key := List.pairwise_iff_getElem.1 s.nd
        rcases Nat.lt_or_gt_of_ne e with hlt | hlt
        · exact key j i b1 a1 hlt (b2.trans a2.symm)
        · exact key i j a1 b1 hlt (a2.trans b2.symm)
      rw [hk jd (List.mem_of_getElem? hj) hne]
      exact s.row j y jd hy hj
  nd := s.nd
  lo := s.lo
  hi := s.hi
end Go.AE
end

section
/- Abstract machine: one row of a world changes. -/
namespace Go.AE
theorem WI.top_mem {X : WI} {k : Nat} (h : k < 15) : X.top k ∈ X.ids := by
  simp only [WI.ids, List.mem_append, List.mem_map, List.mem_range]; exact .inl ⟨k, h, rfl⟩
theorem WI.pg_mem {X : WI} {i : Nat} (h : i ∈ X.pg) : i ∈ X.ids := by
  simp only [WI.ids, List.mem_append]; exact .inr (.inl h)
theorem WI.gr_mem {X : WI} {i : Nat} (h : i ∈ X.gr) : i ∈ X.ids := by
  simp only [WI.ids, List.mem_append]; exact .inr (.inr h)
theorem WV.top_pg {h X w} (v : WV h X w) {k : Nat} (hk : k < 15) : X.top k ∉ X.pg := fun hm => by
  obtain ⟨_, _, h3⟩ := List.nodup_append.1 v.nd
  exact h3 (X.top k) (List.mem_map.2 ⟨k, by simpa using hk, rfl⟩) (X.top k) (List.mem_append.2 (.inl hm)) rfl
theorem WV.top_gr {h X w} (v : WV h X w) {k : Nat} (hk : k < 15) : X.top k ∉ X.gr := fun hm => by
  obtain ⟨_, _, h3⟩ := List.nodup_append.1 v.nd
  exact h3 (X.top k) (List.mem_map.2 ⟨k, by simpa using hk, rfl⟩) (X.top k) (List.mem_append.2 (.inr hm)) rfl
theorem WV.setTop {h h' : Heap} {X : WI} {w w' : Wld} {i : Nat} (v : WV h X w) (hi : i < 15) (hr : h' (X.top i) = some (wRow X w' i)) (ho : ∀ k, k < 15 → k ≠ i → wRow X w' k = wRow X w k) (hp : w'.progs = w.progs) (hg : w'.groups = w.groups)
    (hf : ∀ j ∈ X.ids, j ≠ X.top i → h' j = h j) : WV h' X w' where
  top k hk := by
    by_cases e : k = i
    · subst e; exact hr
    · rw [ho k hk e, hf _ (WI.top_mem hk) (fun e2 => e (v.top_inj hk hi e2))]; exact v.top k hk
  pl := by rw [hp]; exact v.pl
  gl := by rw [hg]; exact v.gl
  prog j p id h1 h2 := by
    rw [hp] at h1
    have hm := List.mem_of_getElem? h2
    rw [hf id (WI.pg_mem hm) (fun e => v.top_pg hi (e ▸ hm))]
    exact v.prog j p id h1 h2
  wait j g id h1 h2 := by
    rw [hg] at h1
    have hm := List.mem_of_getElem? h2
    rw [hf id (WI.gr_mem hm) (fun e => v.top_gr hi (e ▸ hm))]
    exact v.wait j g id h1 h2
  nd := v.nd
end Go.AE
end

section
/- Abstract machine: a world of which some lists change. -/
namespace Go.AE
theorem lt15 {k : Nat} (h : k < 15) : k = 0 ∨ k = 1 ∨ k = 2 ∨ k = 3 ∨ k = 4 ∨ k = 5 ∨ k = 6 ∨ k = 7 ∨ k = 8 ∨ k = 9 ∨ k = 10 ∨ k = 11 ∨ k = 12 ∨ k = 13 ∨ k = 14 := by omega
section
variable {h h' : Heap} {X : WI} {w : Wld}
theorem WV.setTasks {l : List Tsk} (v : WV h X w) (hr : h' (X.top 10) = some (.row 9 (l.map tskC))) (hf : ∀ j ∈ X.ids, j ≠ X.top 10 → h' j = h j) : WV h' X { w with tasks := l } :=
  v.setTop (i := 10) (by omega) hr (fun k hk hne => by rcases lt15 hk with rfl | rfl | rfl | rfl | rfl | rfl | rfl | rfl | rfl | rfl | rfl | rfl | rfl | rfl | rfl <;> first | exact absurd rfl hne | rfl) rfl rfl hf
end
theorem WV.lt {h : Heap} {X : WI} {w : Wld} {n : Nat} (v : WV h X w) (hn : ∀ j, h j ≠ none → j < n) : ∀ j ∈ X.ids, j < n := by
  intro j hj
  apply hn
  simp only [WI.ids, List.mem_append, List.mem_map, List.mem_range] at hj
  rcases hj with ⟨k, hk, rfl⟩ | hj | hj
  · rw [v.top k hk]; simp
  · obtain ⟨m, hm, rfl⟩ := List.getElem_of_mem hj
    rw [v.prog m (w.progs[m]'(by have := v.pl; omega)) X.pg[m] (List.getElem?_eq_getElem (by have := v.pl; omega)) (List.getElem?_eq_getElem hm)]; simp
  · obtain ⟨m, hm, rfl⟩ := List.getElem_of_mem hj
    rw [v.wait m (w.groups[m]'(by have := v.gl; omega)) X.gr[m] (List.getElem?_eq_getElem (by have := v.gl; omega)) (List.getElem?_eq_getElem hm)]; simp
end Go.AE
end

section
/- Abstract machine: what a callee leaves behind is forgotten; a callee that makes a world and reads its arguments through views. -/
namespace Go.AE
theorem Ext.sub {h : Heap} {ρ : Names} {I : Imm} {w : World} {h' g : Heap} {ρ' : Names} {I' : Imm} {w' : World} (E : Ext h ρ I w h' ρ' I' w') (hs : ∀ id e, g id = some e → h' id = some e) : Ext h ρ I w g ρ' I' w' :=
  ⟨E.rho, E.imm, E.bor, E.immN, fun b ⟨id, e, B, h1, h2, h3⟩ => E.own b ⟨id, e, B, hs _ _ h1, h2, h3⟩, E.os, E.tape, E.output, E.size, E.frame⟩
theorem ACall.sub {P f args h nx} {Q : AV → Heap → Nat → Prop} (hc : ACall P f args h nx fun r h' nx' => ∃ g : Heap, (∀ id e, g id = some e → h' id = some e) ∧ Q r g nx') : ACall P f args h nx Q :=
  ⟨hc.1, fun ρ I w vs h1 h2 h3 => (hc.2 ρ I w vs h1 h2 h3).mono fun e w' ⟨v, r, h', nx', ρ', I', g1, ⟨g, hg, hq⟩, g3, g4, g5, g6, g7, g8⟩ => ⟨v, r, g, nx', ρ', I', g1, hq, g3, g4.sub hg, g5.sub hg, g6, g7, g8⟩⟩

inductive NV : AV → AV → Prop
  | same (x) : NV x x
  | nil (p sz) : NV .nil (.view p sz [])
  | agg (cs ds : List AV) : ds.length = cs.length → (∀ (i : Nat) x y, cs[i]? = some x → ds[i]? = some y → NV x y) → NV (.agg cs) (.agg ds)
  | tup (cs ds : List AV) : ds.length = cs.length → (∀ (i : Nat) x y, cs[i]? = some x → ds[i]? = some y → NV x y) → NV (.tup cs) (.tup ds)
theorem NV.vr {ρ : Names} {I : Imm} {w : World} {x y : AV} {u : Value} (hn : NV x y) : VR ρ I w x u → VR ρ I w y u := by
  induction hn generalizing u with
  | same x => exact id
  | nil p sz => intro hv; rw [hv.nil_inv]; exact .viewNil ..
  | agg cs ds hl hc ih =>
    intro hv
    cases hv with
    | agg _ vs h1 h2 =>
      refine .agg _ vs (by omega) fun i y u hy hu => ?_
      have hi := (List.getElem?_eq_some_iff.1 hy).1
      have hx := List.getElem?_eq_getElem (l := cs) (i := i) (by omega)
      exact ih i _ y hx hy (h2 i _ u hx hu)
  | tup cs ds hl hc ih =>
    intro hv
    cases hv with
    | tup _ vs h1 h2 =>
      refine .tup _ vs (by omega) fun i y u hy hu => ?_
      have hi := (List.getElem?_eq_some_iff.1 hy).1
      have hx := List.getElem?_eq_getElem (l := cs) (i := i) (by omega)
      exact ih i _ y hx hy (h2 i _ u hx hu)
inductive NVs : List AV → List AV → Prop
  | nil : NVs [] []
  | cons {x y xs ys} : NV x y → NVs xs ys → NVs (x :: xs) (y :: ys)
theorem NVs.len {xs ys : List AV} (b : NVs xs ys) : ys.length = xs.length := by
  induction b with
  | nil => rfl
  | cons _ _ ih => simp [ih]
theorem NVs.get {xs ys : List AV} (b : NVs xs ys) : ∀ (i : Nat) x y, xs[i]? = some x → ys[i]? = some y → NV x y := by
  induction b with
  | nil => intro i x y h; simp at h
  | cons hb _ ih =>
    intro i x y hx hy
    cases i with
    | zero => simp at hx hy; subst hx; subst hy; exact hb
    | succ i => exact ih i x y (by simpa using hx) (by simpa using hy)
theorem NV.aggs {cs ds : List AV} (b : NVs cs ds) : NV (.agg cs) (.agg ds) := .agg _ _ b.len b.get
theorem NV.tups {cs ds : List AV} (b : NVs cs ds) : NV (.tup cs) (.tup ds) := .tup _ _ b.len b.get
theorem PC.nv {P f args r r'} (hc : PC P f args r) (hn : NV r r') : PC P f args r' := by
  intro h nx Q hQ
  have := hc h nx (fun r0 h0 n0 => r0 = r ∧ h0 = h ∧ n0 = nx) ⟨rfl, rfl, rfl⟩
  exact ⟨this.1, fun ρ I w vs h1 h2 h3 => (this.2 ρ I w vs h1 h2 h3).mono fun e w' ⟨v, r0, h', nx', ρ', I', g1, ⟨e1, e2, e3⟩, g3, g4, g5, g6, g7, g8⟩ => by
    subst e1 e2 e3
    exact ⟨v, r', _, _, ρ', I', g1, hQ, hn.vr g3, g4, g5, g6, g7, g8⟩⟩
def later (t d : Int) : Int := if t + d > 9223372036854775807 then 9223372036854775807 else if t + d < -9223372036854775808 then -9223372036854775808 else t + d

@[simp] theorem take_len_map {α β : Type} {f : α → β} {xs : List α} : (xs.map f).take xs.length = xs.map f := List.take_of_length_le (by simp)
theorem free_of {h : Heap} {nx : Nat} (hnx : ∀ j, h j ≠ none → j < nx) (k : Nat) : h (nx + k) = none := by
  cases he : h (nx + k) with
  | none => rfl
  | some e => have := hnx (nx + k) (by rw [he]; simp); omega

theorem WV.ex {h : Heap} {X : WI} {w : Wld} (v : WV h X w) : ∀ id ∈ X.ids, h id ≠ none := by
  intro id hid
  simp only [WI.ids, List.mem_append, List.mem_map, List.mem_range] at hid
  rcases hid with ⟨k, hk, rfl⟩ | hj | hj
  · rw [v.top k hk]; simp
  · obtain ⟨m, hm, rfl⟩ := List.getElem_of_mem hj
    rw [v.prog m (w.progs[m]'(by have := v.pl; omega)) X.pg[m] (List.getElem?_eq_getElem (by have := v.pl; omega)) (List.getElem?_eq_getElem hm)]; simp
  · obtain ⟨m, hm, rfl⟩ := List.getElem_of_mem hj
    rw [v.wait m (w.groups[m]'(by have := v.gl; omega)) X.gr[m] (List.getElem?_eq_getElem (by have := v.gl; omega)) (List.getElem?_eq_getElem hm)]; simp

def WC (P : Program) (f : FuncId) (args : List AV) (rr : WI → AV) (w : Wld) : Prop :=
  ∀ (h : Heap) (nx : Nat), ACall P f args h nx fun r h' nx' => ∃ X : WI, r = rr X ∧ WV h' X w ∧ (∀ id ∈ X.ids, nx ≤ id ∧ id < nx') ∧ nx ≤ nx' ∧ ∀ j, j ∉ X.ids → h' j = h j
def MkQ (rr : WI → AV) (w : Wld) (h : Heap) (nx : Nat) (r : AV) (h' : Heap) (nx' : Nat) : Prop := KeepB nx h' h ∧ ∃ X : WI, r = rr X ∧ WV h' X w ∧ ∀ id ∈ X.ids, nx ≤ id ∧ id < nx'
theorem WC.of {P f args} {rr : WI → AV} {w : Wld} (hc : AC P f args (fun _ _ => True) (MkQ rr w)) : WC P f args rr w := by
  intro h nx
  refine ⟨(hc h nx trivial).1, fun ρ I w0 vs hnm H hv => ?_⟩
  have hlt : ∀ j, h j ≠ none → j < nx := by
    intro j hj
    cases he : h j with
    | none => exact absurd he hj
    | some e => obtain ⟨B, hB⟩ := (H.ent he).base; exact hnm j B hB
  refine (ACall.sub ((hc h nx trivial).mono ?_)).2 ρ I w0 vs hnm H hv
  rintro r h' nx' ⟨⟨hk, X, rfl, hX, hids⟩, hle, _⟩
  have hin : ∀ j ∈ X.ids, (if j < nx ∨ j ∈ X.ids then h' j else none) = h' j := fun j hj => if_pos (.inr hj)
  refine ⟨fun j => if j < nx ∨ j ∈ X.ids then h' j else none, fun id e he => ?_, X, rfl, hX.keep hin, hids, hle, fun j hj => ?_⟩
  · dsimp only at he
    split at he
    · exact he
    · cases he
  · dsimp only
    by_cases hj2 : j < nx
    · rw [if_pos (.inl hj2)]; exact hk j hj2
    · rw [if_neg (by simp [hj2, hj])]
      cases he : h j with
      | none => rfl
      | some e => exact absurd (hlt j (by rw [he]; simp)) hj2
section
variable {C : Ctx}
theorem call_wc {n d g args} {rr : WI → AV} {w : Wld} {st : St} (hc : WC C.P g args rr w)
    (hr : ∀ X h' n', WV h' X w → (∀ id ∈ X.ids, st.nx ≤ id ∧ id < n') → st.nx ≤ n' → (∀ j, j ∉ X.ids → h' j = st.h j) → runN C n (({ st with h := h', nx := n' } : St).put d (rr X))) : doCall C n d g args st :=
  (hc st.h st.nx).mono fun r h' n' ⟨X, e, h1, h2, h3, h4⟩ => by subst e; exact hr X h' n' h1 h2 h3 h4
end
end Go.AE
end

section
/- Abstract machine: a world that is nothing, in a result of several values, seen as a world in empty rows. -/
namespace Go.AE
inductive Gt (Q : AV → Heap → Nat → Prop) : AV → Heap → Nat → Prop
  | done {r h nx} : Q r h nx → Gt Q r h nx
  | nil {cells rest h nx i sz} : cells[i]? = some .nil → 0 < sz → Gt Q (.tup (.agg (cells.set i (.ref nx sz 0 0)) :: rest)) (upd h nx (some (.row sz []))) (nx + 1) → Gt Q (.tup (.agg cells :: rest)) h nx
theorem Gt.sound {Q : AV → Heap → Nat → Prop} {h0 : Heap} {ρ0 : Names} {I0 : Imm} {w0 : World} {n0 : Nat} {v : Value} {r : AV} {h : Heap} {nx : Nat} (g : Gt Q r h nx) : ∀ {ρ : Names} {I : Imm} {w : World}, VR ρ I w r v → HRel ρ I w h → Ext h0 ρ0 I0 w0 h ρ I w → Fresh n0 ρ0 ρ → n0 ≤ nx → (∀ id B, ρ id = some B → id < nx) →
    ∃ r' h' nx' ρ', Q r' h' nx' ∧ VR ρ' I w r' v ∧ HRel ρ' I w h' ∧ Ext h0 ρ0 I0 w0 h' ρ' I w ∧ Fresh n0 ρ0 ρ' ∧ n0 ≤ nx' ∧ ∀ id B, ρ' id = some B → id < nx' := by
  induction g with
  | done hq => intro ρ I w h1 h2 h3 h4 h5 h6; exact ⟨_, _, _, ρ, hq, h1, h2, h3, h4, h5, h6⟩
  | @nil cells rest h nx i sz hi hsz _ ih =>
    intro ρ I w h1 h2 h3 h4 h5 h6
    have nofree : ρ nx = none := by
      cases hh : ρ nx with
      | none => rfl
      | some B => have := h6 nx B hh; omega
    obtain ⟨H', E'⟩ := nil_ext h2 hsz nofree
    have hic : i < cells.length := (List.getElem?_eq_some_iff.1 hi).1
    have gr : ∀ i B, ρ i = some B → upd ρ nx (some ⟨none, 0, 0, sz⟩) i = some B := fun i B hB => by
      rw [upd_ne _ _ _ _ (by have := h6 i B hB; omega)]; exact hB
    have hv : VR (upd ρ nx (some ⟨none, 0, 0, sz⟩)) I w (.tup (.agg (cells.set i (.ref nx sz 0 0)) :: rest)) v := by
      cases h1 with
      | tup _ vs q1 q2 =>
        refine .tup _ vs (by simpa using q1) fun j y u hy hu => ?_
        cases j with
        | zero =>
          simp only [List.getElem?_cons_zero, Option.some.injEq] at hy
          subst hy
          have h0 := q2 0 (.agg cells) u rfl hu
          cases h0 with
          | agg _ ws p1 p2 =>
            refine .agg _ ws (by simpa using p1) fun j y u hy hu => ?_
            by_cases hj : j = i
            · subst hj
              rw [List.getElem?_set_self hic] at hy; cases hy
              rw [(p2 j _ u hi hu).nil_inv]
              exact .ref0 nx sz 0 none _ (upd_same ..) rfl
            · rw [List.getElem?_set_ne (by omega)] at hy
              exact (p2 j y u hy hu).mono gr (fun _ _ h => h) fun _ _ _ => rfl
        | succ j =>
          exact (q2 (j + 1) y u (by simpa using hy) hu).mono gr (fun _ _ h => h) fun _ _ _ => rfl
    refine ih hv H' (h3.trans E') (fun i B hB => ?_) (by omega) fun i B hB => ?_
    · by_cases hi : i = nx
      · exact .inr (by omega)
      · rw [upd_ne _ _ _ _ hi] at hB; exact h4 i B hB
    · by_cases hi : i = nx
      · omega
      · rw [upd_ne _ _ _ _ hi] at hB; have := h6 i B hB; omega
theorem ACall.ghostT {P f args h nx} {Q : AV → Heap → Nat → Prop} (hc : ACall P f args h nx (Gt Q)) : ACall P f args h nx Q :=
  ⟨hc.1, fun ρ I w vs h1 h2 h3 => (hc.2 ρ I w vs h1 h2 h3).mono fun e w' ⟨v, r, h', nx', ρ', I', g1, hq, g3, g4, g5, g6, g7, g8⟩ => by
    obtain ⟨r2, h2', nx2, ρ2, q1, q2, q3, q4, q5, q6, q7⟩ := Gt.sound hq g3 g4 g5 g6 g7 g8
    exact ⟨v, r2, h2', nx2, ρ2, I', g1, q1, q2, q3, q4, q5, q6, q7⟩⟩
def zeroC : List AV := [.int .i64 0, .nil, .nil, .nil, .nil, .nil, .nil, .nil, .int .i64 0, .nil, .nil, .nil, .nil, .nil, .nil, .nil, .nil]
theorem Gt.zero {Q : AV → Heap → Nat → Prop} {rest : List AV} {h : Heap} {nx : Nat} (hq : ∀ (X : WI) (h' : Heap), WV h' X default → (∀ id ∈ X.ids, nx ≤ id ∧ id < nx + 15) → (∀ j, j < nx → h' j = h j) → Q (.tup (.agg (wldR X default) :: rest)) h' (nx + 15)) :
    Gt Q (.tup (.agg zeroC :: rest)) h nx := by
  unfold zeroC
  refine .nil (i := 1) (sz := 1) rfl (by decide) ?_
  simp only [List.set_cons_succ, List.set_cons_zero, Nat.add_assoc, Nat.reduceAdd]
  refine .nil (i := 2) (sz := 5) rfl (by decide) ?_
  simp only [List.set_cons_succ, List.set_cons_zero, Nat.add_assoc, Nat.reduceAdd]
  refine .nil (i := 3) (sz := 4) rfl (by decide) ?_
  simp only [List.set_cons_succ, List.set_cons_zero, Nat.add_assoc, Nat.reduceAdd]
  refine .nil (i := 4) (sz := 1) rfl (by decide) ?_
  simp only [List.set_cons_succ, List.set_cons_zero, Nat.add_assoc, Nat.reduceAdd]
  refine .nil (i := 5) (sz := 1) rfl (by decide) ?_
  simp only [List.set_cons_succ, List.set_cons_zero, Nat.add_assoc, Nat.reduceAdd]
  refine .nil (i := 6) (sz := 3) rfl (by decide) ?_
  simp only [List.set_cons_succ, List.set_cons_zero, Nat.add_assoc, Nat.reduceAdd]
  refine .nil (i := 7) (sz := 5) rfl (by decide) ?_
  simp only [List.set_cons_succ, List.set_cons_zero, Nat.add_assoc, Nat.reduceAdd]
  refine .nil (i := 9) (sz := 1) rfl (by decide) ?_
  simp only [List.set_cons_succ, List.set_cons_zero, Nat.add_assoc, Nat.reduceAdd]
  refine .nil (i := 10) (sz := 1) rfl (by decide) ?_
  simp only [List.set_cons_succ, List.set_cons_zero, Nat.add_assoc, Nat.reduceAdd]
  refine .nil (i := 11) (sz := 5) rfl (by decide) ?_
  simp only [List.set_cons_succ, List.set_cons_zero, Nat.add_assoc, Nat.reduceAdd]
  refine .nil (i := 12) (sz := 9) rfl (by decide) ?_
  simp only [List.set_cons_succ, List.set_cons_zero, Nat.add_assoc, Nat.reduceAdd]
  refine .nil (i := 13) (sz := 5) rfl (by decide) ?_
  simp only [List.set_cons_succ, List.set_cons_zero, Nat.add_assoc, Nat.reduceAdd]
  refine .nil (i := 14) (sz := 4) rfl (by decide) ?_
  simp only [List.set_cons_succ, List.set_cons_zero, Nat.add_assoc, Nat.reduceAdd]
  refine .nil (i := 15) (sz := 1) rfl (by decide) ?_
  simp only [List.set_cons_succ, List.set_cons_zero, Nat.add_assoc, Nat.reduceAdd]
  refine .nil (i := 16) (sz := 1) rfl (by decide) ?_
  simp only [List.set_cons_succ, List.set_cons_zero, Nat.add_assoc, Nat.reduceAdd]
  refine .done (hq (WI.ofL [nx, nx + 1, nx + 2, nx + 3, nx + 4, nx + 5, nx + 6, nx + 7, nx + 8, nx + 9, nx + 10, nx + 11, nx + 12, nx + 13, nx + 14] [] []) _
    (WV.ofL (a := 0) (b := 0) (c := 0) (d := 0) ?_ ?_ ?_ ?_ ?_ ?_ ?_ ?_ ?_ ?_ ?_ ?_ ?_ ?_ ?_ rfl rfl .nil .nil (Nat.le_refl _) ?_ (fun t ht => by omega)) (fun id hid => ?_) (fun j hj => ?_))
  case refine_16 =>
    simp only [List.nodup_cons, List.mem_cons, List.not_mem_nil, or_false, not_or, List.nodup_nil, and_true, not_false_eq_true]
    omega
  case refine_17 =>
    rw [WI.ofL_ids] at hid
    simp only [List.append_nil, List.mem_cons, List.not_mem_nil, or_false] at hid
    omega
  case refine_18 =>
    repeat rw [upd_ne _ _ _ _ (by omega)]
  all_goals
    first
    | exact upd_same ..
    | (repeat (first | exact upd_same .. | rw [upd_ne _ _ _ _ (by omega)]))
end Go.AE
end

section
/- Abstract machine: a request's own part, which changes a world that lies in an object of its caller. -/
namespace Go.AE
def DoQ (p : Nat) (X : WI) (qs : List (Nat × List AV × List AV)) (w' : Wld) (b : Bool) (h : Heap) (nx : Nat) (r : AV) (h' : Heap) (nx' : Nat) : Prop :=
  r = .bool b ∧ (b = true → ∃ X' : WI, h' p = some (.obj (wldR X' w')) ∧ WV h' X' w' ∧ ∀ id ∈ X'.ids, id ∈ X.ids ∨ nx ≤ id ∧ id < nx') ∧ (∀ q ∈ qs, h' q.1 = some (.obj q.2.2)) ∧
      ∀ j, j < nx → j ≠ p → j ∉ X.ids → (∀ q ∈ qs, j ≠ q.1) → h' j = h j
def DoOk (P : Program) (g : FuncId) (qs : List (Nat × List AV × List AV)) (w w' : Wld) (b : Bool) : Prop :=
  ∀ (p : Nat) (X : WI), AC P g (.ptr p 0 :: qs.map fun q => .ptr q.1 0)
    (fun h nx => h p = some (.obj (wldR X w)) ∧ WV h X w ∧ ∀ q ∈ qs, h q.1 = some (.obj q.2.1) ∧ q.1 ≠ p) (DoQ p X qs w' b)
def askW (w w' : Wld) (b : Bool) : Wld := if wldOk w = true then (if b = true ∧ wldOk w' = true then w' else w) else default
def askB (w w' : Wld) (b : Bool) : Bool := wldOk w && (b && wldOk w')
def AskQ (qs : List (Nat × List AV × List AV)) (w w' : Wld) (b : Bool) (h : Heap) (nx : Nat) (r : AV) (h' : Heap) (nx' : Nat) : Prop :=
  (∃ X : WI, r = .tup [.agg (wldR X (askW w w' b)), .bool (askB w w' b)] ∧ WV h' X (askW w w' b) ∧ ∀ id ∈ X.ids, nx ≤ id ∧ id < nx') ∧ (∀ q ∈ qs, h' q.1 = some (.obj (if wldOk w = true then q.2.2 else q.2.1))) ∧ ∀ j, j < nx → (∀ q ∈ qs, j ≠ q.1) → h' j = h j
theorem AskQ.bad {qs : List (Nat × List AV × List AV)} {w w' : Wld} {b : Bool} {h h2 : Heap} {nx n2 : Nat} (hw : ¬ wldOk w = true) (hq : ∀ q ∈ qs, h q.1 = some (.obj q.2.1)) (hqn : ∀ q ∈ qs, q.1 < nx) (hk : ∀ j, j < nx → h2 j = h j) (hn : nx ≤ n2) :
    Gt (AskQ qs w w' b h nx) (.tup (.agg zeroC :: [.bool false])) h2 n2 := by
  refine Gt.zero fun X h' hX hid hf => ⟨⟨X, ?_, ?_, fun id hi => ?_⟩, fun q hm => ?_, fun j hj _ => ?_⟩
  · have e1 : askW w w' b = default := if_neg hw
    have e2 : askB w w' b = false := by simp [askB, hw]
    rw [e1, e2]
  · have e1 : askW w w' b = default := if_neg hw
    rw [e1]; exact hX
  · have := hid id hi; omega
  · rw [if_neg hw, hf q.1 (by have := hqn q hm; omega), hk q.1 (hqn q hm)]; exact hq q hm
  · rw [hf j (by omega), hk j hj]
theorem AC.ghostT {P : Program} {f : FuncId} {args : List AV} {Pre : Heap → Nat → Prop} {Q : Heap → Nat → AV → Heap → Nat → Prop} (hc : AC P f args Pre (fun h nx r h' nx' => Gt (Q h nx) r h' nx')) : AC P f args Pre Q := fun h nx hp =>
  (((hc h nx hp).mono fun _ _ _ hq => hq.1).ghostT).ends
theorem AC.ghost {P : Program} {f : FuncId} {args : List AV} {Pre : Heap → Nat → Prop} {Q : Heap → Nat → AV → Heap → Nat → Prop} (hc : AC P f args Pre (fun h nx r h' nx' => Gh (Q h nx) r h' nx')) : AC P f args Pre Q := fun h nx hp =>
  (((hc h nx hp).mono fun _ _ _ hq => hq.1).ghost).ends
theorem WV.obj {h : Heap} {X : WI} {w : Wld} (v : WV h X w) {p : Nat} {cs : List AV} (hp : h p = some (Ent.obj cs)) : p ∉ X.ids := fun hm => by
  simp only [WI.ids, List.mem_append, List.mem_map, List.mem_range] at hm
  rcases hm with ⟨k, hk, rfl⟩ | hj | hj
  · rw [v.top k hk] at hp
    rcases lt15 hk with rfl | rfl | rfl | rfl | rfl | rfl | rfl | rfl | rfl | rfl | rfl | rfl | rfl | rfl | rfl <;> cases hp
  · obtain ⟨m, hm, rfl⟩ := List.getElem_of_mem hj
    rw [v.prog m (w.progs[m]'(by have := v.pl; omega)) X.pg[m] (List.getElem?_eq_getElem (by have := v.pl; omega)) (List.getElem?_eq_getElem hm)] at hp; cases hp
  · obtain ⟨m, hm, rfl⟩ := List.getElem_of_mem hj
    rw [v.wait m (w.groups[m]'(by have := v.gl; omega)) X.gr[m] (List.getElem?_eq_getElem (by have := v.gl; omega)) (List.getElem?_eq_getElem hm)] at hp; cases hp
theorem WV.ofM {H : Heap} {w : Wld} {t0 t1 t2 t3 t4 t5 t6 t7 t8 t9 t10 t11 t12 t13 t14 : Nat} {pg gr : List Nat} {a b c d : Nat}
    (r0 : H t0 = some (.row 1 (List.zipWith prgR w.progs pg))) (r1 : H t1 = some (.row 5 (w.tree.map nodC))) (r2 : H t2 = some (.row 4 (w.events.map evtC))) (r3 : H t3 = some (.row 1 (w.spread.told.map bv))) (r4 : H t4 = some (.row 1 (w.spread.work.map iv)))
    (r5 : H t5 = some (.row 3 (w.timers.heap.map twgC))) (r6 : H t6 = some (.row 5 (w.timers.list.map tmrC))) (r7 : H t7 = some (.row 1 (w.afters.slots.ages.map iv))) (r8 : H t8 = some (.row 1 (w.afters.slots.used.map bv))) (r9 : H t9 = some (.row 5 (w.afters.list.map afrC)))
    (r10 : H t10 = some (.row 9 (w.tasks.map tskC))) (r11 : H t11 = some (.row 5 (List.zipWith grpR w.groups gr))) (r12 : H t12 = some (.row 4 (w.sights.map sgtC))) (r13 : H t13 = some (.row 1 (w.began.map iv))) (r14 : H t14 = some (.row 1 (w.rang.map iv)))
    (pl : pg.length = w.progs.length) (gl : gr.length = w.groups.length) (sp : Subs H 3 (fun x : List Inn => x.map innC) w.progs pg a b) (sg : Subs H 1 (fun x : Grp => x.waits.map iv) w.groups gr c d) (hd : ∀ x ∈ pg, ∀ y ∈ gr, x ≠ y)
    (nt : [t0, t1, t2, t3, t4, t5, t6, t7, t8, t9, t10, t11, t12, t13, t14].Nodup) (np : ∀ t ∈ [t0, t1, t2, t3, t4, t5, t6, t7, t8, t9, t10, t11, t12, t13, t14], t ∉ pg ∧ t ∉ gr) :
    WV H (WI.ofL [t0, t1, t2, t3, t4, t5, t6, t7, t8, t9, t10, t11, t12, t13, t14] pg gr) w where
  top k hk := by
    match k, hk with
    | 0, _ => exact r0
    | 1, _ => exact r1
    | 2, _ => exact r2
    | 3, _ => exact r3
    | 4, _ => exact r4
    | 5, _ => exact r5
    | 6, _ => exact r6
    | 7, _ => exact r7
    | 8, _ => exact r8
    | 9, _ => exact r9
    | 10, _ => exact r10
    | 11, _ => exact r11
    | 12, _ => exact r12
    | 13, _ => exact r13
    | 14, _ => exact r14
    | _ + 15, hk => omega
  pl := pl
  gl := gl
  prog j p id hp hi := sp.row j p id hp hi
  wait j g id hg hi := sg.row j g id hg hi
  nd := by
    rw [WI.ofL_ids, List.nodup_append]
    refine ⟨nt, ?_, fun x hx y hy e => ?_⟩
    · rw [List.nodup_append]
      exact ⟨sp.nd, sg.nd, hd⟩
    · subst e
      rcases List.mem_append.1 hy with hy | hy
      · exact (np x hx).1 hy
      · exact (np x hx).2 hy
theorem zip_snoc {α : Type} [Inhabited α] {f : α → Nat → List AV} {xs : List α} {is : List Nat} (h : is.length < xs.length) (id : Nat) : List.zipWith f xs (is ++ [id]) = List.zipWith f xs is ++ [f (gt xs (is.length : Int)) id] := by
  apply List.ext_getElem?
  intro j
  have e : (List.zipWith f xs is).length = is.length := by simp; omega
  rw [List.getElem?_zipWith]
  by_cases hj : j < is.length
  · rw [List.getElem?_append_left hj, List.getElem?_append_left (by rw [e]; exact hj), List.getElem?_zipWith]
  · rw [List.getElem?_append_right (by omega), List.getElem?_append_right (by rw [e]; omega), e]
    by_cases hj2 : j = is.length
    · subst hj2
      rw [List.getElem?_eq_getElem h, gt_nat h]; simp
    · have : j - is.length ≠ 0 := by omega
      obtain ⟨k, hk⟩ := Nat.exists_eq_succ_of_ne_zero this
      rw [hk]; simp
theorem WV.setNow {h : Heap} {X : WI} {w : Wld} (v : WV h X w) (n : Int) : WV h X { w with now := n } where
  top k hk := by
    rw [v.top k hk]
    rcases lt15 hk with rfl | rfl | rfl | rfl | rfl | rfl | rfl | rfl | rfl | rfl | rfl | rfl | rfl | rfl | rfl <;> rfl
  pl := v.pl
  gl := v.gl
  prog := v.prog
  wait := v.wait
  nd := v.nd
end Go.AE
end

section
/- Abstract machine: rows of rows are made immutable. -/
namespace Go.AE
inductive Fro (h : Heap) : AV → AV → Prop
  | same (x) : Fro h x x
  | ref (id sz off len xs ys) : h id = some (.row sz xs) → off + len ≤ xs.length → ys.length = len → (∀ (i : Nat) c d, ((xs.drop off).take len)[i]? = some c → ys[i]? = some d → d.length = c.length) →
      (∀ (i j : Nat) x y, get2 ((xs.drop off).take len) i j = some x → get2 ys i j = some y → Fro h x y) → Fro h (.ref id sz off len) (.view true sz ys)
  | agg (cells cells') : cells'.length = cells.length → (∀ (i : Nat) x y, cells[i]? = some x → cells'[i]? = some y → Fro h x y) → Fro h (.agg cells) (.agg cells')
  | tup (cells cells') : cells'.length = cells.length → (∀ (i : Nat) x y, cells[i]? = some x → cells'[i]? = some y → Fro h x y) → Fro h (.tup cells) (.tup cells')
def ImmT (h : Heap) (ρ : Names) (I : Imm) : Imm := fun p b => I p b ∨ (p = true ∧ Owns h ρ b)
section
variable {ρ : Names} {I : Imm} {w : World}
theorem Fro.vr {h : Heap} {x y : AV} {u : Value} (H : HRel ρ I w h) (hb : Fro h x y) : VR ρ I w x u → VR ρ (ImmT h ρ I) w y u := by
  have up : ∀ {x u}, VR ρ I w x u → VR ρ (ImmT h ρ I) w x u := fun hv => hv.mono (fun _ _ h => h) (fun _ _ h => .inl h) fun _ _ _ => rfl
  induction hb generalizing u with
  | same x => exact up
  | ref id sz off len xs ys hid hle hlen hw hc ih =>
    intro hv
    obtain ⟨B, h1, h2, h3, h4, h5, h6⟩ := H.row id sz xs hid
    have hlen0 : ((xs.drop off).take len).length = len := by simp; omega
    have back : ∀ {i j : Nat} {y}, get2 ys i j = some y → ∃ x, get2 ((xs.drop off).take len) i j = some x := by
      intro i j y hy
      obtain ⟨d, q1, q2⟩ := get2_some hy
      have hi : i < ((xs.drop off).take len).length := by rw [hlen0, ← hlen]; exact (List.getElem?_eq_some_iff.1 q1).1
      have hc0 := List.getElem?_eq_getElem hi
      have hj : j < (((xs.drop off).take len)[i]).length := by rw [← hw i _ d hc0 q1]; exact (List.getElem?_eq_some_iff.1 q2).1
      exact ⟨_, by simp only [get2, hc0, Option.bind_some]; exact List.getElem?_eq_getElem hj⟩
    generalize hz : AV.ref id sz off len = z at hv
    cases hv <;> simp at hz
    · obtain ⟨rfl, rfl, rfl, rfl⟩ := hz
      obtain rfl : ys = [] := List.eq_nil_of_length_eq_zero hlen
      exact .viewNil ..
    · rename_i b c B' q2 q1 q3 q4 q5 q6
      obtain ⟨rfl, rfl, rfl, rfl⟩ := hz
      have q7 : ρ id = some B' := by assumption
      have q8 : B'.blk = some b := by assumption
      rw [h1] at q7; cases q7
      clear q1 q2
      have q2 := q8
      rcases h6 with ⟨g1, g2, g3⟩ | ⟨b', cur, ty, g1, g2, g3, g4, g5, g6⟩
      · rw [g1] at q2; cases q2
      · rw [g1] at q2; cases q2
        have hown : Owns h ρ b := ⟨id, _, B, hid, h1, g1⟩
        have hv := VR.view (ρ := ρ) (I := ImmT h ρ I) (w := w) true sz ys b (B.off + off * sz) c (.inr ⟨rfl, hown⟩) (by omega) (by omega) (fun i d hd => ?_) (fun i j y hy => ?_) (fun i j y u hy hu => ?_)
        · rw [hlen] at hv
          exact h2 ▸ hv
        · have hi : i < ((xs.drop off).take len).length := by rw [hlen0, ← hlen]; exact (List.getElem?_eq_some_iff.1 hd).1
          have hc0 := List.getElem?_eq_getElem hi
          rw [hw i _ d hc0 hd]
          have hx := hc0
          rw [List.getElem?_take] at hx
          split at hx
          · rw [List.getElem?_drop] at hx; exact h5 _ _ hx
          · cases hx
        · obtain ⟨x, hx⟩ := back hy
          obtain ⟨hg, hi⟩ := get2_drop_take hx
          obtain ⟨cells, q1, q2⟩ := get2_some hg
          have hj : j < sz := by rw [← h5 _ _ q1]; exact (List.getElem?_eq_some_iff.1 q2).1
          rw [cell_of_row w b _ cur ty _ g2]
          have e1 : off + i + 1 ≤ B.cap := by have := (List.getElem?_eq_some_iff.1 q1).1; omega
          have e2 := Nat.mul_le_mul_right sz e1
          rw [Nat.add_mul, Nat.add_mul, Nat.one_mul] at e2
          have : B.off + off * sz + i * sz + j < cur.size := by omega
          exact ⟨_, Array.getElem?_eq_getElem this⟩
        · obtain ⟨x, hx⟩ := back hy
          obtain ⟨hg, hi⟩ := get2_drop_take hx
          rw [cell_of_row w b _ cur ty _ g2] at hu
          refine ih i j x y hx hy (g6 (off + i) j x u hg ?_)
          rw [← hu, Nat.add_mul, ← Nat.add_assoc]
  | agg cells cells' hl hc ih =>
    intro hv
    cases hv with
    | agg _ vs q1 q2 =>
      refine .agg cells' vs (by rw [q1, hl]) fun i y u hy hu => ?_
      have hi := (List.getElem?_eq_some_iff.1 hy).1
      rw [hl] at hi
      exact ih i _ y (List.getElem?_eq_getElem hi) hy (q2 i _ u (List.getElem?_eq_getElem hi) hu)
  | tup cells cells' hl hc ih =>
    intro hv
    cases hv with
    | tup _ vs q1 q2 =>
      refine .tup cells' vs (by rw [q1, hl]) fun i y u hy hu => ?_
      have hi := (List.getElem?_eq_some_iff.1 hy).1
      rw [hl] at hi
      exact ih i _ y (List.getElem?_eq_getElem hi) hy (q2 i _ u (List.getElem?_eq_getElem hi) hu)
end
theorem ACall.freezeD {P f args h nx} {Q : AV → Heap → Nat → Prop} (hc : ACall P f args h nx fun r h' nx' => ∃ (g k : Heap) (r' : AV), (∀ id e, g id = some e → h' id = some e) ∧ (∀ id e, k id = some e → h' id = some e) ∧ (∀ id, g id = none ∨ k id = none) ∧ Fro g r r' ∧ Q r' k nx') : ACall P f args h nx Q :=
  ⟨hc.1, fun ρ I w vs h1 h2 h3 => (hc.2 ρ I w vs h1 h2 h3).mono fun e w' ⟨v, r, h', nx', ρ', I', g1, ⟨g, k, r', hg, hk, hd, hfr, hq⟩, H, hv, E, g6, g7, g8⟩ => by
    have hgO : ∀ b, Owns g ρ' b → Owns h' ρ' b := fun b ⟨id, e, B, a1, a2, a3⟩ => ⟨id, e, B, hg _ _ a1, a2, a3⟩
    have Hk := HRel.sub hv hk
    have grow : ∀ {x u}, VR ρ' I' w' x u → VR ρ' (ImmT g ρ' I') w' x u := fun hv => hv.mono (fun _ _ h => h) (fun _ _ h => .inl h) fun _ _ _ => rfl
    refine ⟨v, r', k, nx', ρ', ImmT g ρ' I', g1, hq, hfr.vr (HRel.sub hv hg) H, ⟨fun id c he => ?_, fun id s x he => ?_, Hk.sep, fun i e B b p hi hB hb hI => ?_, fun p b hb => ?_⟩, ⟨E.rho, fun p b hb => .inl (E.imm p b hb), fun b hb => ?_, fun b hb => ?_, fun b ⟨id, e, B, a1, a2, a3⟩ => E.own b ⟨id, e, B, hk _ _ a1, a2, a3⟩, E.os, E.tape, E.output, E.size, E.frame⟩, g6, g7, g8⟩
    · obtain ⟨B, b, cur, ty, a1, a2, a3, a4, a5⟩ := Hk.obj id c he
      exact ⟨B, b, cur, ty, a1, a2, a3, a4, fun i x u hx hu => grow (a5 i x u hx hu)⟩
    · obtain ⟨B, a1, a2, a3, a4, a5, a6⟩ := Hk.row id s x he
      refine ⟨B, a1, a2, a3, a4, a5, ?_⟩
      rcases a6 with a6 | ⟨b, cur, ty, k1, k2, k3, k4, k5, k6⟩
      · exact .inl a6
      · exact .inr ⟨b, cur, ty, k1, k2, k3, k4, k5, fun i j x u hx hu => grow (k6 i j x u hx hu)⟩
    · rcases hI with hI | ⟨_, id, e2, B2, a1, a2, a3⟩
      · exact Hk.imm i e B b p hi hB hb hI
      · have hne : i ≠ id := fun e3 => by
          subst e3
          rcases hd i with q | q
          · rw [q] at a1; cases a1
          · rw [q] at hi; cases hi
        exact hv.sep i id e e2 B B2 b (hk _ _ hi) (hg _ _ a1) hne hB a2 hb a3
    · rcases hb with hb | ⟨_, hb⟩
      · exact hv.immlt p b hb
      · exact Owns.lt hv (hgO b hb)
    · rcases hb with hb | ⟨hb, _⟩
      · exact E.bor b hb
      · cases hb
    · rcases hb with hb | ⟨_, hb⟩
      · exact E.immN b hb
      · exact .inr (E.own b (hgO b hb))⟩
theorem WC.pc {P : Program} {f : FuncId} {args : List AV} {rr : WI → AV} {w : Wld} {r' : AV} (hc : WC P f args rr w) (hz : Fz r') (hv : ∀ (g : Heap) (X : WI), WV g X w → Fro g (rr X) r') : PC P f args r' := by
  intro h nx Q hQ
  refine ⟨(hc h nx).1, fun ρ I w0 vs hnm H hvs => ?_⟩
  have hlt : ∀ j, h j ≠ none → j < nx := by
    intro j hj
    cases he : h j with
    | none => exact absurd he hj
    | some e => obtain ⟨B, hB⟩ := (H.ent he).base; exact hnm j B hB
  have := ACall.pureF (R := fun r => r = r') (Q := Q) (ACall.freezeD ((hc h nx).mono (Q' := fun r h' nx' => ∃ (g k : Heap) (r0 : AV), (∀ id e, g id = some e → h' id = some e) ∧ (∀ id e, k id = some e → h' id = some e) ∧ (∀ id, g id = none ∨ k id = none) ∧ Fro g r r0 ∧ ((∀ id e, h id = some e → k id = some e) ∧ Fz r0 ∧ r0 = r')) ?_)) (fun r' hr => hr ▸ hQ)
  · exact this.2 ρ I w0 vs hnm H hvs
  · rintro r h' nx' ⟨X, rfl, hX, hids, hle, hfr⟩
    refine ⟨fun j => if j ∈ X.ids then h' j else none, fun j => if j ∈ X.ids then none else h' j, r', fun id e he => ?_, fun id e he => ?_, fun id => ?_, hv _ X (hX.keep fun id hid => if_pos hid), fun id e he => ?_, hz, rfl⟩
    · dsimp only at he; split at he
      · exact he
      · cases he
    · dsimp only at he; split at he
      · cases he
      · exact he
    · by_cases hid : id ∈ X.ids
      · right; exact if_pos hid
      · left; exact if_neg hid
    · have hn : id ∉ X.ids := fun hm => by
        have := hids id hm
        have := hlt id (by rw [he]; simp)
        omega
      dsimp only
      rw [if_neg hn, hfr id hn]; exact he
inductive Fros (h : Heap) : List AV → List AV → Prop
  | nil : Fros h [] []
  | cons {x y xs ys} : Fro h x y → Fros h xs ys → Fros h (x :: xs) (y :: ys)
theorem Fros.len {h : Heap} {xs ys : List AV} (b : Fros h xs ys) : ys.length = xs.length := by
  induction b with
  | nil => rfl
  | cons _ _ ih => simp [ih]
theorem Fros.get {h : Heap} {xs ys : List AV} (b : Fros h xs ys) : ∀ (i : Nat) x y, xs[i]? = some x → ys[i]? = some y → Fro h x y := by
  induction b with
  | nil => intro i x y h; simp at h
  | cons hb _ ih =>
    intro i x y hx hy
    cases i with
    | zero => simp at hx hy; subst hx; subst hy; exact hb
    | succ i => exact ih i x y (by simpa using hx) (by simpa using hy)
theorem Fro.aggs {h : Heap} {cs cs' : List AV} (b : Fros h cs cs') : Fro h (.agg cs) (.agg cs') := .agg _ _ b.len b.get
theorem Fro.tups {h : Heap} {cs cs' : List AV} (b : Fros h cs cs') : Fro h (.tup cs) (.tup cs') := .tup _ _ b.len b.get
theorem Fro.ref0 {h : Heap} {id sz len : Nat} {xs : List (List AV)} (hid : h id = some (.row sz xs)) (hl : len = xs.length) : Fro h (.ref id sz 0 len) (.view true sz xs) := by
  subst hl
  refine .ref id sz 0 xs.length xs xs hid (by omega) rfl (fun i c d hc hd => ?_) (fun i j x y hx hy => ?_)
  · simp at hc
    rw [hc] at hd; cases hd; rfl
  · simp at hx
    rw [hx] at hy; cases hy; exact .same _
theorem Fro.zip {h : Heap} {α : Type} {f : α → Nat → List AV} {g : α → List AV} {xs : List α} {is : List Nat} {id sz len : Nat} (hl : is.length = xs.length) (hid : h id = some (.row sz (List.zipWith f xs is))) (hlen : len = xs.length)
    (hb : ∀ (j : Nat) x k, xs[j]? = some x → is[j]? = some k → Fros h (f x k) (g x)) : Fro h (.ref id sz 0 len) (.view true sz (xs.map g)) := by
  subst hlen
  have key : ∀ (i : Nat) c d, (List.zipWith f xs is)[i]? = some c → (xs.map g)[i]? = some d → Fros h c d := by
    intro i c d hc hd
    rw [zip_get hl] at hc
    rw [List.getElem?_map] at hd
    cases hx : xs[i]? with
    | none => rw [hx] at hc; cases hc
    | some x =>
      rw [hx] at hc hd
      cases hk : is[i]? with
      | none => rw [hk] at hc; cases hc
      | some k =>
        rw [hk] at hc
        cases hc; cases hd
        exact hb i x k hx hk
  refine Fro.ref id sz 0 xs.length _ _ hid (by simp [hl]) (by simp) (fun i c d hc hd => ?_) (fun i j x y hx hy => ?_)
  · rw [List.drop_zero, List.take_of_length_le (by simp [hl])] at hc
    exact (key i c d hc hd).len
  · rw [List.drop_zero, List.take_of_length_le (by simp [hl])] at hx
    obtain ⟨c, hc, hx⟩ := get2_some hx
    obtain ⟨d, hd, hy⟩ := get2_some hy
    exact (key i c d hc hd).get j x y hx hy
theorem WV.fros {h : Heap} {X : WI} {w : Wld} (v : WV h X w) : Fros h (wldR X w) (wldV (fun _ => true) w) := by
  have t := v.top
  unfold wldR wldV
  refine .cons (.same _) (.cons (Fro.zip v.pl (t 0 (by omega)) rfl fun j x k hx hk => .cons (.ref0 (v.prog j x k hx hk) (by simp)) .nil) (.cons (.ref0 (t 1 (by omega)) (by simp)) (.cons (.ref0 (t 2 (by omega)) (by simp)) (.cons (.ref0 (t 3 (by omega)) (by simp))
    (.cons (.ref0 (t 4 (by omega)) (by simp)) (.cons (.ref0 (t 5 (by omega)) (by simp)) (.cons (.ref0 (t 6 (by omega)) (by simp)) (.cons (.same _) (.cons (.ref0 (t 7 (by omega)) (by simp)) (.cons (.ref0 (t 8 (by omega)) (by simp)) (.cons (.ref0 (t 9 (by omega)) (by simp))
    (.cons (.ref0 (t 10 (by omega)) (by simp)) (.cons (Fro.zip v.gl (t 11 (by omega)) rfl fun j x k hx hk => .cons (.same _) (.cons (.same _) (.cons (.same _) (.cons (.ref0 (v.wait j x k hx hk) (by simp)) (.cons (.same _) .nil))))) (.cons (.ref0 (t 12 (by omega)) (by simp))
    (.cons (.ref0 (t 13 (by omega)) (by simp)) (.cons (.ref0 (t 14 (by omega)) (by simp)) .nil))))))))))))))))
end Go.AE
end

section
/- The clock of a world goes on: what a request for it makes of the world, in plain terms. -/
namespace Go.AE
def tickW (w : Wld) (d : Int) : Wld := if wldOk w = true then (if 0 ≤ d then { w with now := later w.now d } else w) else default
def tickB (w : Wld) (d : Int) : Bool := wldOk w && decide (0 ≤ d)
theorem later_ge {t d : Int} (h : 0 ≤ d) (ht : t ≤ 9223372036854775807) : t ≤ later t d := by
  unfold later; split
  · omega
  · split <;> omega
theorem wldOk_now {w : Wld} {n : Int} (h : wldOk w = true) (hn : w.now ≤ n) : wldOk { w with now := n } = true := by
  have e1 : isTask { w with now := n } = isTask w := rfl
  have e2 : isGroup { w with now := n } = isGroup w := rfl
  have e3 : isTimer { w with now := n } = isTimer w := rfl
  have e4 : isSight { w with now := n } = isSight w := rfl
  simp only [wldOk, e1, e2, e3, e4, Bool.and_eq_true, decide_eq_true_eq] at h ⊢
  obtain ⟨h1, h2, h3, h4, h5, h6, h7⟩ := h
  refine ⟨by omega, h2, h3, h4, h5, ?_, h7⟩
  simp only [List.all_eq_true, inR, Bool.and_eq_true, decide_eq_true_eq] at h6 ⊢
  intro e he
  have := h6 e he
  omega
theorem tick_ask {w : Wld} {d : Int} (ht : w.now ≤ 9223372036854775807) : askW w { w with now := later w.now d } (decide (0 ≤ d)) = tickW w d ∧ askB w { w with now := later w.now d } (decide (0 ≤ d)) = tickB w d := by
  by_cases hw : wldOk w = true
  · by_cases h0 : 0 ≤ d
    · have := wldOk_now hw (later_ge h0 ht)
      simp [askW, askB, tickW, tickB, hw, h0, this]
    · simp [askW, askB, tickW, tickB, hw, h0]
  · simp [askW, askB, tickW, tickB, hw]
end Go.AE
end

section
/- Functions that are started: what becomes of slots and lists, in plain terms. -/
namespace Go.AE
def canDrop (s : Slt) (x : Han) : Bool := sltHolds s x && x.age != 1000000
def dropS (s : Slt) (x : Han) : Slt := ⟨s.ages.set x.slot.toNat (x.age + 1), s.used.set x.slot.toNat false⟩
def goA (a : Afs) (i : Nat) : Afs := ⟨dropS a.slots (gt a.list (i : Int)).han, a.list.eraseIdx i⟩
def isGo (a : Afs) (x : Afr) : Bool := x.queued && canDrop a.slots x.han
def goAt (a : Afs) : Option Nat := a.list.findIdx? (isGo a)
inductive Gr (Q : AV → Heap → Nat → Prop) : AV → Heap → Nat → Prop
  | done {r h nx} : Q r h nx → Gr Q r h nx
  | trim {id sz off len xs h nx} : h id = some (.row sz xs) → off + len ≤ xs.length → Gr Q (.ref nx sz 0 len) (upd (upd h id none) nx (some (.row sz ((xs.drop off).take len)))) (nx + 1) → Gr Q (.ref id sz off len) h nx
theorem Gr.sound {Q : AV → Heap → Nat → Prop} {h0 : Heap} {ρ0 : Names} {I0 : Imm} {w0 : World} {n0 : Nat} {v : Value} {r : AV} {h : Heap} {nx : Nat} (g : Gr Q r h nx) : ∀ {ρ : Names} {I : Imm} {w : World}, VR ρ I w r v → HRel ρ I w h → Ext h0 ρ0 I0 w0 h ρ I w → Fresh n0 ρ0 ρ → n0 ≤ nx → (∀ id B, ρ id = some B → id < nx) →
    ∃ r' h' nx' ρ', Q r' h' nx' ∧ VR ρ' I w r' v ∧ HRel ρ' I w h' ∧ Ext h0 ρ0 I0 w0 h' ρ' I w ∧ Fresh n0 ρ0 ρ' ∧ n0 ≤ nx' ∧ ∀ id B, ρ' id = some B → id < nx' := by
  induction g with
  | done hq => intro ρ I w h1 h2 h3 h4 h5 h6; exact ⟨_, _, _, ρ, hq, h1, h2, h3, h4, h5, h6⟩
  | @trim id sz off len xs h nx hid hle _ ih =>
    intro ρ I w h1 h2 h3 h4 h5 h6
    have nofree : ρ nx = none := by
      cases hh : ρ nx with
      | none => rfl
      | some B => have := h6 nx B hh; omega
    obtain ⟨B, hB⟩ := (h2.ent hid).base
    obtain ⟨H', E'⟩ := trim_ext h2 hid hB hle nofree
    refine ih (h1.trim hB (upd_same ..)) H' (h3.trans E') (fun i B hB => ?_) (by omega) fun i B hB => ?_
    · by_cases hi : i = nx
      · exact .inr (by omega)
      · rw [upd_ne _ _ _ _ hi] at hB; exact h4 i B hB
    · by_cases hi : i = nx
      · omega
      · rw [upd_ne _ _ _ _ hi] at hB; have := h6 i B hB; omega
theorem app_mid {C : Ctx} {id n d t e sz r off len x ws ys} {st : St} (he : elemOf C t = some e) (hs : e.size = sz) (hp : 0 < sz) (hb : e.bytes ≤ 128) (hrow : st.h r = some (.row sz ws)) (hx : rowOf st.h sz x = some ys)
    (hle : off + len ≤ ws.length) (hl : len + ys.length ≤ MLIM) (ho : ys.all (fun cs => cs.all AV.one) = true)
    (hr : runN C n ((({ st with h := upd st.h r none } : St).new id (.row sz ((ws.drop off).take len ++ ys ++ ws.drop (off + len + ys.length)))).put d (.ref id sz 0 (len + ys.length)))) :
    appS C id n d t (.ref r sz off len) x st := by
  subst hs
  exact app_ref he hp hb hrow hx hle hl ho hr
def WI.setTop (X : WI) (i id : Nat) : WI := ⟨fun k => if k = i then id else X.top k, X.pg, X.gr⟩
theorem WI.setTop_ids {X : WI} {i id j : Nat} (h : j ∈ (X.setTop i id).ids) : j ∈ X.ids ∨ j = id := by
  simp only [WI.ids, WI.setTop, List.mem_append, List.mem_map, List.mem_range] at h ⊢
  rcases h with ⟨k, hk, rfl⟩ | h
  · by_cases e : k = i
    · right; rw [if_pos e]
    · left; left; exact ⟨k, hk, by rw [if_neg e]⟩
  · left; right; exact h
theorem wRow_setTop (X : WI) (w : Wld) (i id : Nat) : ∀ k, wRow (X.setTop i id) w k = wRow X w k := fun k => by unfold wRow; rfl
theorem WV.newTop {h h' : Heap} {X : WI} {w w' : Wld} {i id : Nat} (S : List Nat) (v : WV h X w) (hi : i < 15) (hn : id ∉ X.ids) (hr : h' id = some (wRow X w' i)) (hS : ∀ k ∈ S, k < 15) (hrS : ∀ k ∈ S, h' (X.top k) = some (wRow X w' k))
    (ho : ∀ k, k < 15 → k ∉ S → k ≠ i → wRow X w' k = wRow X w k) (hp : w'.progs = w.progs) (hg : w'.groups = w.groups) (hf : ∀ j ∈ X.ids, (∀ k ∈ S, j ≠ X.top k) → j ≠ X.top i → h' j = h j) : WV h' (X.setTop i id) w' where
  top k hk := by
    rw [wRow_setTop]
    by_cases e : k = i
    · subst e
      have : (X.setTop k id).top k = id := if_pos rfl
      rw [this]; exact hr
    · have : (X.setTop i id).top k = X.top k := if_neg e
      rw [this]
      by_cases e2 : k ∈ S
      · exact hrS k e2
      · rw [ho k hk e2 e, hf _ (WI.top_mem hk) (fun l hl e3 => e2 (v.top_inj hk (hS l hl) e3 ▸ hl)) (fun e3 => e (v.top_inj hk hi e3))]
        exact v.top k hk
  pl := by rw [hp]; exact v.pl
  gl := by rw [hg]; exact v.gl
  prog j p id h1 h2 := by
    rw [hp] at h1
    have hm : id ∈ X.pg := List.mem_of_getElem? h2
    rw [hf id (WI.pg_mem hm) (fun l hl e => v.top_pg (hS l hl) (e ▸ hm)) (fun e => v.top_pg hi (e ▸ hm))]
    exact v.prog j p id h1 h2
  wait j g id h1 h2 := by
    rw [hg] at h1
    have hm : id ∈ X.gr := List.mem_of_getElem? h2
    rw [hf id (WI.gr_mem hm) (fun l hl e => v.top_gr (hS l hl) (e ▸ hm)) (fun e => v.top_gr hi (e ▸ hm))]
    exact v.wait j g id h1 h2
  nd := by
    obtain ⟨n1, n2, n3⟩ := List.nodup_append.1 v.nd
    have tne : ∀ k, k < 15 → X.top k ≠ id := fun k hk e => hn (e ▸ WI.top_mem hk)
    refine List.nodup_append.2 ⟨?_, n2, fun a ha b hb => ?_⟩
    · refine List.pairwise_map.2 (List.Pairwise.imp_of_mem ?_ (List.nodup_range (n := 15)))
      intro a b ha hb hab
      have ha := List.mem_range.1 ha
      have hb := List.mem_range.1 hb
      show (if a = i then id else X.top a) ≠ (if b = i then id else X.top b)
      by_cases e1 : a = i
      · rw [if_pos e1, if_neg (fun e => hab (e1.trans e.symm))]
        exact fun e => tne b hb e.symm
      · rw [if_neg e1]
        by_cases e2 : b = i
        · rw [if_pos e2]; exact tne a ha
        · rw [if_neg e2]; exact fun e => hab (v.top_inj ha hb e)
    · obtain ⟨k, hk, rfl⟩ := List.mem_map.1 ha
      have hk2 := List.mem_range.1 hk
      show (if k = i then id else X.top k) ≠ b
      by_cases e : k = i
      · rw [if_pos e]
        intro e2
        exact hn (by rw [e2]; simp only [WI.ids, List.mem_append] at hb ⊢; exact .inr hb)
      · rw [if_neg e]
        exact n3 (X.top k) (List.mem_map.2 ⟨k, hk, rfl⟩) b hb
theorem goAt_some {a : Afs} {i : Nat} (hi : i < a.list.length) (h0 : ∀ k : Nat, k < i → isGo a (gt a.list (k : Int)) = false) (h1 : isGo a (gt a.list (i : Int)) = true) : goAt a = some i := by
  unfold goAt
  rw [List.findIdx?_eq_some_iff_getElem]
  refine ⟨hi, ?_, fun j hj => ?_⟩
  · rw [gt_nat hi] at h1; exact h1
  · have := h0 j hj
    rw [gt_nat (by omega)] at this
    rw [this]; decide
theorem goAt_none {a : Afs} (h0 : ∀ k : Nat, k < a.list.length → isGo a (gt a.list (k : Int)) = false) : goAt a = none := by
  unfold goAt
  rw [List.findIdx?_eq_none_iff]
  intro x hx
  obtain ⟨k, hk, rfl⟩ := List.getElem_of_mem hx
  have := h0 k hk
  rw [gt_nat hk] at this
  exact this
theorem cntB_le {α : Type} (q : α → Bool) (l : List α) : cntB q l ≤ l.length := by
  simp only [cntB]; exact Int.ofNat_le.2 List.countP_le_length
theorem afs_facts {a : Afs} (h : afsOk a = true) : a.slots.used.length = a.slots.ages.length ∧ a.list.length ≤ 64 ∧
    ∀ k : Nat, k < a.list.length → canDrop a.slots (gt a.list (k : Int)).han = true → 0 ≤ (gt a.list (k : Int)).han.age ∧ (gt a.list (k : Int)).han.age < 1000000 := by
  simp only [afsOk, sltOk, Bool.and_eq_true, beq_iff_eq, Bool.not_eq_true', inR, decide_eq_true_eq] at h
  obtain ⟨⟨⟨h1, h2⟩, h3, h4⟩, h5, h6⟩ := h
  have h7 := cntB_le id a.slots.used
  refine ⟨by omega, by omega, fun k hk hc => ?_⟩
  simp only [canDrop, sltHolds, Bool.and_eq_true, beq_iff_eq, isIn, inR, decide_eq_true_eq, bne_iff_ne] at hc
  obtain ⟨⟨⟨c1, c2⟩, c3, c4⟩, c5⟩ := hc
  rw [List.any_eq_false] at h4
  have hm : gt a.slots.ages (gt a.list (k : Int)).han.slot ∈ a.slots.ages := gt_mem c1 (by omega)
  have := h4 _ hm
  simp at this
  rw [← c4] at c5 ⊢
  omega
theorem allI_get {α : Type} [Inhabited α] {q : Int → α → Bool} : ∀ {l : List α} {k : Int}, allI q l k = true → ∀ i : Nat, i < l.length → q (k + i) (gt l (i : Int)) = true
  | x :: xs, k, h, 0, _ => by
    simp only [allI, Bool.and_eq_true] at h
    rw [gt_nat (by simp)]; simpa using h.1
  | x :: xs, k, h, i + 1, hi => by
    simp only [allI, Bool.and_eq_true] at h
    have := allI_get h.2 i (by simpa using hi)
    rw [gt_nat (by simpa using hi)] at this
    rw [gt_nat hi]
    simp only [List.getElem_cons_succ]
    rw [show k + ((i + 1 : Nat) : Int) = k + 1 + (i : Int) by omega]
    exact this
theorem afs_held {a : Afs} (h : afsOk a = true) : ∀ k : Nat, k < a.list.length → sltHolds a.slots (gt a.list (k : Int)).han = true := fun k hk => by
  simp only [afsOk, Bool.and_eq_true] at h
  have := allI_get h.2.2 k hk
  simp only [Bool.and_eq_true] at this
  exact this.2.1
def PdQ (r' : AV) (h : Heap) (nx : Nat) (r : AV) (h' : Heap) (nx' : Nat) : Prop := ∃ g : Heap, (∀ id e, g id = some e → h' id = some e ∧ nx ≤ id) ∧ Fro g r r' ∧ KeepB nx h' h
theorem AC.pcD {P : Program} {f : FuncId} {args : List AV} {r' : AV} (hz : Fz r') (hc : AC P f args (fun _ _ => True) (PdQ r')) : PC P f args r' := by
  intro h nx Q hQ
  refine ⟨(hc h nx trivial).1, fun ρ I w0 vs hnm H hvs => ?_⟩
  have hlt : ∀ j, h j ≠ none → j < nx := by
    intro j hj
    cases he : h j with
    | none => exact absurd he hj
    | some e => obtain ⟨B, hB⟩ := (H.ent he).base; exact hnm j B hB
  have := ACall.pureF (R := fun r => r = r') (Q := Q) (ACall.freezeD ((hc h nx trivial).mono (Q' := fun r h' nx' => ∃ (g k : Heap) (r0 : AV), (∀ id e, g id = some e → h' id = some e) ∧ (∀ id e, k id = some e → h' id = some e) ∧ (∀ id, g id = none ∨ k id = none) ∧ Fro g r r0 ∧ ((∀ id e, h id = some e → k id = some e) ∧ Fz r0 ∧ r0 = r')) ?_)) (fun r' hr => hr ▸ hQ)
  · exact this.2 ρ I w0 vs hnm H hvs
  · rintro r h' nx' ⟨⟨g, hg, hfr, hk⟩, _, _⟩
    refine ⟨g, fun j => if j < nx then h' j else none, r', fun id e he => (hg id e he).1, fun id e he => ?_, fun id => ?_, hfr, fun id e he => ?_, hz, rfl⟩
    · dsimp only at he; split at he
      · exact he
      · cases he
    · by_cases hid : id < nx
      · left
        cases hgi : g id with
        | none => rfl
        | some e => have := (hg id e hgi).2; omega
      · right; exact if_neg hid
    · have hid := hlt id (by rw [he]; simp)
      dsimp only
      rw [if_pos hid, hk id hid]; exact he
end Go.AE
end

section
/- A valid world stays valid when a function is started. -/
namespace Go.AE
theorem allI_mk {α : Type} [Inhabited α] {q : Int → α → Bool} : ∀ {l : List α} {k : Int}, (∀ i : Nat, i < l.length → q (k + i) (gt l (i : Int)) = true) → allI q l k = true
  | [], k, _ => rfl
  | x :: xs, k, h => by
    simp only [allI, Bool.and_eq_true]
    refine ⟨by have := h 0 (by simp); rw [gt_nat (by simp)] at this; simpa using this, allI_mk fun i hi => ?_⟩
    have := h (i + 1) (by simpa using hi)
    rw [gt_nat (by simpa using hi)] at this
    rw [gt_nat hi]
    simp only [List.getElem_cons_succ] at this
    rw [show k + ((i + 1 : Nat) : Int) = k + 1 + (i : Int) by omega] at this
    exact this
theorem afsOk_iff {a : Afs} : afsOk a = true ↔ sltOk a.slots = true ∧ (a.list.length : Int) = cntB id a.slots.used ∧ (∀ x ∈ a.list, isAfter x.node x.fn = true ∧ sltHolds a.slots x.han = true) ∧ a.list.Pairwise (fun x y => x.han ≠ y.han) := by
  have key : ∀ i : Nat, i < a.list.length → ((afsAt a.list (gt a.list (i : Int)).han == (i : Int)) = true ↔ ∀ x ∈ a.list.take i, x.han ≠ (gt a.list (i : Int)).han) := fun i hi => by
    rw [afsAt_here hi, decide_eq_true_eq, idxI_none _ _ 0 (Int.le_refl 0)]
    constructor
    · intro h x hx e
      have := h x hx
      simp [e] at this
    · intro h x hx
      have := h x hx
      simpa using this
  constructor
  · intro h
    simp only [afsOk, Bool.and_eq_true, beq_iff_eq] at h
    obtain ⟨h1, h2, h3⟩ := h
    refine ⟨h1, h2, fun x hx => ?_, ?_⟩
    · obtain ⟨i, hi, rfl⟩ := List.getElem_of_mem hx
      have := allI_get h3 i hi
      rw [gt_nat hi] at this
      simp only [Bool.and_eq_true] at this
      exact ⟨this.1, this.2.1⟩
    · rw [List.pairwise_iff_getElem]
      intro i j hi hj hij
      have := allI_get h3 j hj
      simp only [Bool.and_eq_true, Int.zero_add] at this
      have h4 := (key j hj).1 this.2.2 a.list[i] (List.mem_take_iff_getElem.2 ⟨i, by omega, rfl⟩)
      rw [gt_nat hj] at h4
      exact h4
  · rintro ⟨h1, h2, h3, h4⟩
    simp only [afsOk, Bool.and_eq_true, beq_iff_eq]
    refine ⟨h1, h2, allI_mk fun i hi => ?_⟩
    simp only [Bool.and_eq_true, Int.zero_add]
    have hm : gt a.list (i : Int) ∈ a.list := by rw [gt_nat hi]; exact List.getElem_mem hi
    refine ⟨(h3 _ hm).1, (h3 _ hm).2, (key i hi).2 fun x hx => ?_⟩
    obtain ⟨j, hj, rfl⟩ := List.mem_take_iff_getElem.1 hx
    rw [gt_nat hi]
    exact List.pairwise_iff_getElem.1 h4 j i (by omega) hi (by omega)
theorem afsOk_go {a : Afs} {i : Nat} (h : afsOk a = true) (hi : i < a.list.length) (hc : canDrop a.slots (gt a.list (i : Int)).han = true) : afsOk (goA a i) = true := by
  obtain ⟨f1, f2, f3⟩ := afs_facts h
  have hr := f3 i hi hc
  rw [afsOk_iff] at h ⊢
  obtain ⟨h1, h2, h3, h4⟩ := h
  have hx : gt a.list (i : Int) = a.list[i] := gt_nat hi
  rw [hx] at hc hr
  have hh : sltHolds a.slots a.list[i].han = true := (h3 _ (List.getElem_mem hi)).2
  have hp := List.pairwise_iff_getElem.1 h4
  have hg : goA a i = ⟨dropS a.slots a.list[i].han, a.list.eraseIdx i⟩ := by unfold goA; rw [hx]
  rw [hg]
  generalize hxx : a.list[i] = x at *
  have hh0 := hh
  simp only [sltHolds, Bool.and_eq_true, isIn, inR, decide_eq_true_eq, beq_iff_eq] at hh
  obtain ⟨⟨c1, c2⟩, c3, c4⟩ := hh
  have n1 : x.han.slot.toNat < a.slots.ages.length := by omega
  have n2 : x.han.slot.toNat < a.slots.used.length := by omega
  refine ⟨?_, ?_, fun y hy => ?_, List.Pairwise.sublist (List.eraseIdx_sublist _ _) h4⟩
  · simp only [sltOk, dropS, Bool.and_eq_true, List.length_set, beq_iff_eq, Bool.not_eq_true', List.any_eq_false] at h1 ⊢
    refine ⟨h1.1, h1.2.1, fun z hz => ?_⟩
    rcases List.mem_or_eq_of_mem_set hz with q | q
    · exact h1.2.2 z q
    · subst q; simp [inR]; omega
  · have e : (a.list.eraseIdx i).length = a.list.length - 1 := by rw [List.length_eraseIdx, if_pos hi]
    have hu : a.slots.used[x.han.slot.toNat] = true := by
      have := gt_some c1 (show x.han.slot < (a.slots.used.length : Int) by omega)
      rw [c3, List.getElem?_eq_getElem n2] at this
      exact Option.some.inj this
    have e2 : (a.slots.used.set x.han.slot.toNat false).countP id = a.slots.used.countP id - 1 := by
      rw [List.countP_set n2]; simp [hu]
    simp only [dropS, cntB, e2] at h2 ⊢
    rw [e]; omega
  · obtain ⟨j, hj, hji, rfl⟩ := List.mem_eraseIdx_iff_getElem.1 hy
    have hm := h3 _ (List.getElem_mem hj)
    refine ⟨hm.1, ?_⟩
    have hne : a.list[j].han ≠ x.han := by
      rw [← hxx]
      rcases Nat.lt_or_gt_of_ne hji with q | q
      · exact hp j i hj hi q
      · exact fun e => hp i j hi hj q e.symm
    have hd := hm.2
    simp only [sltHolds, Bool.and_eq_true, isIn, inR, decide_eq_true_eq, beq_iff_eq] at hd
    obtain ⟨⟨d1, d2⟩, d3, d4⟩ := hd
    have hs : a.list[j].han.slot ≠ x.han.slot := fun e => hne (by
      rw [e] at d4
      have ha : a.list[j].han.age = x.han.age := by rw [← d4, ← c4]
      cases hq : a.list[j].han
      cases hx2 : x.han
      simp_all)
    have hs2 : x.han.slot.toNat ≠ a.list[j].han.slot.toNat := by omega
    have g1 : gt (a.slots.used.set x.han.slot.toNat false) a.list[j].han.slot = gt a.slots.used a.list[j].han.slot := by
      have p1 := gt_some d1 (show a.list[j].han.slot < ((a.slots.used.set x.han.slot.toNat false).length : Int) by simp; omega)
      have p2 := gt_some d1 (show a.list[j].han.slot < (a.slots.used.length : Int) by omega)
      rw [List.getElem?_set_ne hs2, p2] at p1
      exact (Option.some.inj p1).symm
    have g2 : gt (a.slots.ages.set x.han.slot.toNat (x.han.age + 1)) a.list[j].han.slot = gt a.slots.ages a.list[j].han.slot := by
      have p1 := gt_some d1 (show a.list[j].han.slot < ((a.slots.ages.set x.han.slot.toNat (x.han.age + 1)).length : Int) by simp; omega)
      have p2 := gt_some d1 (show a.list[j].han.slot < (a.slots.ages.length : Int) by omega)
      rw [List.getElem?_set_ne hs2, p2] at p1
      exact (Option.some.inj p1).symm
    simp only [sltHolds, dropS, Bool.and_eq_true, isIn, inR, decide_eq_true_eq, beq_iff_eq, List.length_set, g1, g2]
    exact ⟨⟨d1, d2⟩, d3, d4⟩
end Go.AE
end

section
/- Abstract machine: a caller may make its own rows immutable ahead of a call. -/
namespace Go.AE
section
variable {ρ : Names} {I : Imm} {w : World} {h g k : Heap}
end
theorem AC.frz {P : Program} {f : FuncId} {args : List AV} {Pre : Heap → Nat → Prop} {Q : Heap → Nat → AV → Heap → Nat → Prop} (hc : AC P f args Pre (fun h nx r h' nx' => ∃ r' h'', frzR h' r = some (r', h'') ∧ Q h nx r' h'' nx')) : AC P f args Pre Q := fun h nx hp =>
  (((hc h nx hp).mono fun _ _ _ hq => hq.1).freeze).ends
theorem cl_vmap {α : Type} {f : α → List AV} {sz : Nat} {xs : List α} (hf : ∀ x, ∀ c ∈ f x, Cl c) : Cl (.view true sz (xs.map f)) := .view _ _ fun i j y hy => by
  obtain ⟨d, q1, q2⟩ := get2_some hy
  rw [List.getElem?_map] at q1
  cases hx : xs[i]? with
  | none => rw [hx] at q1; cases q1
  | some x => rw [hx] at q1; cases q1; exact hf x y (List.mem_of_getElem? q2)
theorem tup2_cl {a b : AV} (ha : Cl a) (hb : Cl b) : Cl (.tup [a, b]) := .tup _ fun c hc => by
  simp only [List.mem_cons, List.not_mem_nil, or_false] at hc
  rcases hc with rfl | rfl
  · exact ha
  · exact hb
end Go.AE
end

section
/- Functions that are registered, in an object of their own. -/
namespace Go.AE
def afsR (i j k : Nat) (a : Afs) : List AV := [.ref i 1 0 a.slots.ages.length, .ref j 1 0 a.slots.used.length, .ref k 5 0 a.list.length]
structure AfO (h : Heap) (i j k : Nat) (a : Afs) : Prop where
  ne : i ≠ j
  r1 : h i = some (.row 1 (a.slots.ages.map iv))
  r2 : h j = some (.row 1 (a.slots.used.map bv))
  r3 : h k = some (.row 5 (a.list.map afrC))
section
variable {h : Heap} {i j k : Nat} {a : Afs}
theorem AfO.keep {h' : Heap} (A : AfO h i j k a) (h1 : h' i = h i) (h2 : h' j = h j) (h3 : h' k = h k) : AfO h' i j k a := ⟨A.ne, h1.trans A.r1, h2.trans A.r2, h3.trans A.r3⟩
theorem AfO.bors (A : AfO h i j k a) : Bors h (afsR i j k a) (afsV FF a) := .cons (.ref0 A.r1 (by simp) (by simp)) (.cons (.ref0 A.r2 (by simp) (by simp)) (.cons (.ref0 A.r3 (by simp) (by simp)) .nil))
end
end Go.AE
end

section
/- The capacity of nil, new zeros appended to nil, a slice of nil; rows of rows, seen by a reader. -/
namespace Go.AE
section
variable {C : Ctx}
theorem slice_nil {n d e lo hi h} {st : St} (hl : bndA 0 lo = some 0) (hh : bndA 0 hi = some h) (h1 : h = 0) (hr : runN C n (st.put d .nil)) : sliceS C n d (some e) .nil lo hi st := by
  subst h1
  exact .inl ⟨e, 0, 0, 0, rfl, rfl, bounds_of hl hh (Nat.le_refl _), Nat.le_refl _, hr⟩
theorem cap_nil {n d dT} {st : St} (he : dT.elem.isSome = true) (hr : runN C n (st.put d (.int .i64 0))) : capX C n d (some dT) .nil st := by
  obtain ⟨e, he⟩ := Option.isSome_iff_exists.1 he
  exact ⟨dT, e, rfl, he, rfl, hr⟩
theorem zer_nil {id n d t t' e d' k m} {st : St} (he : elemOf C t = some e) (hp : 0 < e.size) (hb : e.bytes ≤ 128) (ht : C.ty t' = some d') (hk : d'.ik = some k) (h0 : 0 < m) (hm : m ≤ MLIM)
    (hr : runN C n ((st.new id (.row e.size (List.replicate m e.zero))).put d (.ref id e.size 0 m))) : zerS C id n d t t' .nil (.int .i64 (m : Nat)) st := by
  unfold elemOf at he
  simp only [Option.bind_eq_some_iff] at he
  obtain ⟨te, ⟨dT, h1, h2⟩, h3⟩ := he
  exact ⟨dT, te, e, d', k, m, h1, h2, h3, hp, hb, ht, hk, rfl, rfl, h0, hm, hr⟩
theorem Bor.row3 {h : Heap} {id : Nat} {a b c a' b' c' : AV} (hid : h id = some (.row 1 [[a], [b], [c]])) (h1 : Bor h a a') (h2 : Bor h b b') (h3 : Bor h c c') : Bor h (.ref id 1 0 3) (.view false 1 [[a'], [b'], [c']]) := by
  refine Bor.ref id 1 0 3 _ _ hid (by simp) rfl (fun i c d hc hd => ?_) (fun i j x y hx hy => ?_)
  · match i with
    | 0 => simp at hc hd; subst hc; subst hd; rfl
    | 1 => simp at hc hd; subst hc; subst hd; rfl
    | 2 => simp at hc hd; subst hc; subst hd; rfl
    | i + 3 => simp at hc
  · match i, j with
    | 0, 0 => simp [get2] at hx hy; subst hx; subst hy; exact h1
    | 1, 0 => simp [get2] at hx hy; subst hx; subst hy; exact h2
    | 2, 0 => simp [get2] at hx hy; subst hx; subst hy; exact h3
    | 0, j + 1 => simp [get2] at hx
    | 1, j + 1 => simp [get2] at hx
    | 2, j + 1 => simp [get2] at hx
    | i + 3, j => simp [get2] at hx
end
def twV (q : Bool × List Twg) : List AV := [.view q.1 3 (q.2.map twgC)]
def cq (qs : List (Bool × List Twg)) (i : Nat) : List Twg := ((qs.take i).map (·.2)).flatten
theorem cq_succ {qs : List (Bool × List Twg)} {i : Nat} (hi : i < qs.length) : cq qs (i + 1) = cq qs i ++ (gt qs (i : Int)).2 := by
  unfold cq
  rw [List.take_add_one, List.getElem?_eq_getElem hi, gt_nat hi, List.map_append, List.flatten_append]
  simp
theorem cq_le (qs : List (Bool × List Twg)) (i : Nat) : (cq qs i).length ≤ (cq qs qs.length).length := by
  have : cq qs qs.length = cq qs i ++ ((qs.drop i).map (·.2)).flatten := by
    unfold cq
    rw [List.take_length, ← List.flatten_append, ← List.map_append, List.take_append_drop]
  rw [this, List.length_append]; omega
theorem cq_lt {qs : List (Bool × List Twg)} {i : Nat} (hi : i < qs.length) : (cq qs i).length + (gt qs (i : Int)).2.length ≤ (cq qs qs.length).length := by
  have := cq_le qs (i + 1)
  rw [cq_succ hi, List.length_append] at this; exact this
theorem cq3n (a b c : Bool × List Twg) : cq [a, b, c] 3 = a.2 ++ b.2 ++ c.2 := by simp [cq]
@[simp] theorem cq_zero (qs : List (Bool × List Twg)) : cq qs 0 = [] := rfl
def twZ : List AV := [.int .i64 0, .int .i64 0, .int .i64 0]
theorem cq_row {qs : List (Bool × List Twg)} {i N : Nat} (hi : i < qs.length) (hN : N = (cq qs qs.length).length) :
    ((((cq qs i).map twgC ++ List.replicate (N - (cq qs i).length) twZ).drop 0).take (cq qs i).length ++ (gt qs (i : Int)).2.map twgC ++ ((cq qs i).map twgC ++ List.replicate (N - (cq qs i).length) twZ).drop (0 + (cq qs i).length + ((gt qs (i : Int)).2.map twgC).length)) =
      (cq qs (i + 1)).map twgC ++ List.replicate (N - (cq qs (i + 1)).length) twZ := by
  rw [List.drop_zero, List.take_left' (by simp), cq_succ hi, List.map_append, List.append_assoc, List.append_assoc, List.drop_append, List.drop_eq_nil_of_le (by simp)]
  simp
  omega
theorem twZ_fz (n : Nat) : FzE (.row 3 (List.replicate n twZ)) := fun i j x hx => by
  obtain ⟨cs, q1, q2⟩ := get2_some hx
  rw [List.getElem?_replicate] at q1
  split at q1
  · cases q1
    have := List.mem_of_getElem? q2
    simp only [twZ, List.mem_cons, List.not_mem_nil, or_false] at this
    rcases this with rfl | rfl | rfl <;> exact .int _ _
  · cases q1
theorem twg_cl (xs : List Twg) : ClE (.row 3 (xs.map twgC)) := fun i j x hx => by
  obtain ⟨cs, q1, q2⟩ := get2_some hx
  rw [List.getElem?_map, Option.map_eq_some_iff] at q1
  obtain ⟨y, _, rfl⟩ := q1
  have := List.mem_of_getElem? q2
  simp only [twgC, List.mem_cons, List.not_mem_nil, or_false] at this
  rcases this with rfl | rfl | rfl <;> exact .int _ _
theorem rk0_some {h : List Twg} (hh : isH h) : rk h = some (rk0 h) := by
  unfold isH at hh; unfold rk0
  cases e : rk h with
  | none => rw [e] at hh; cases hh
  | some r => rfl
theorem isH_parts {x : Twg} {xs : List Twg} (h : isH (x :: xs)) : 0 ≤ x.lefts ∧ x.lefts < ((x :: xs).length : Int) ∧ isH (xs.take x.lefts.toNat) ∧ isH (xs.drop x.lefts.toNat) := by
  obtain ⟨⟨h1, h2⟩, h3, h4, _⟩ := isH_cons.1 h
  exact ⟨h1, by simp; omega, h3, h4⟩
theorem isH_part {l : List Twg} (h : isH l) (hp : 0 < l.length) : 0 ≤ (gt l 0).lefts ∧ (gt l 0).lefts < l.length ∧ isH (l.tail.take (gt l 0).lefts.toNat) ∧ isH (l.drop ((gt l 0).lefts.toNat + 1)) ∧
    (l.tail.take (gt l 0).lefts.toNat).length + (l.drop ((gt l 0).lefts.toNat + 1)).length + 1 = l.length := by
  match l with
  | x :: xs =>
    have := isH_parts h
    simp only [gt_zero, List.tail_cons, List.drop_succ_cons]
    refine ⟨this.1, this.2.1, this.2.2.1, this.2.2.2, ?_⟩
    simp at this ⊢; omega
theorem mrgN_l (n : Nat) (b : List Twg) : mrgN n [] b = b := by cases n <;> simp [mrgN]
theorem mrgN_r (n : Nat) (a : List Twg) : mrgN n a [] = a := by cases n <;> cases a <;> simp [mrgN]
theorem mrgN_b {n : Nat} {a b : List Twg} (ha : 0 < a.length) (hb : 0 < b.length) (h : lt2 (gt b 0) (gt a 0)) : mrgN (n + 1) a b = joinH (gt b 0) (b.tail.take (gt b 0).lefts.toNat) (mrgN n (b.drop ((gt b 0).lefts.toNat + 1)) a) := by
  match a, b with
  | x :: xs, y :: ys =>
    simp only [gt_zero, List.tail_cons, List.drop_succ_cons] at h ⊢
    simp [mrgN, h]
theorem mrgN_a {n : Nat} {a b : List Twg} (ha : 0 < a.length) (hb : 0 < b.length) (h : ¬ lt2 (gt b 0) (gt a 0)) : mrgN (n + 1) a b = joinH (gt a 0) (a.tail.take (gt a 0).lefts.toNat) (mrgN n (a.drop ((gt a 0).lefts.toNat + 1)) b) := by
  match a, b with
  | x :: xs, y :: ys =>
    simp only [gt_zero, List.tail_cons, List.drop_succ_cons] at h ⊢
    simp [mrgN, h]
theorem mrgN_isH {n : Nat} {a b : List Twg} (hl : a.length + b.length ≤ n) (ha : isH a) (hb : isH b) (hd : apart a b) : isH (mrgN n a b) := (mrgN_ok n a b hl ha hb hd).1
theorem apart_drop {a b : List Twg} (h : apart a b) (k : Nat) : apart (a.drop k) b := fun x hx y hy => h x (List.mem_of_mem_drop hx) y hy
theorem mrgN_len : ∀ (n : Nat) (a b : List Twg), a.length + b.length ≤ n → isH a → isH b → (mrgN n a b).length = a.length + b.length := by
  intro n
  induction n with
  | zero =>
    intro a b hl ha hb
    have : a = [] := List.eq_nil_of_length_eq_zero (by omega)
    subst this; simp [mrgN]
  | succ n ih =>
    intro a b hl ha hb
    match a, b with
    | [], b => simp [mrgN]
    | x :: xs, [] => simp [mrgN]
    | x :: xs, y :: ys =>
      have p1 := isH_parts ha
      have p2 := isH_parts hb
      simp only [List.length_cons] at hl p1 p2 ⊢
      simp only [mrgN]
      split <;> rw [joinH_len, ih _ _ (by simp; omega) (by first | exact p1.2.2.2 | exact p2.2.2.2) (by assumption)] <;> simp <;> omega
theorem seqAt_pos {h : List Twg} {s : Int} : 0 ≤ seqAt h s ↔ ∃ x ∈ h, x.seq = s := by
  have := idxI_any (fun x : Twg => x.seq == s) h 0 (Int.le_refl 0)
  have e : 0 ≤ seqAt h s ↔ h.any (fun x => x.seq == s) = true := by
    rw [← this]; simp [seqAt]
  rw [e, List.any_eq_true]; simp
theorem split_part {l : List Twg} (hp : 0 < l.length) (k : Nat) : l = gt l 0 :: (l.tail.take k ++ l.drop (k + 1)) := by
  match l with
  | x :: xs => simp
theorem once_part {l : List Twg} (h : once l) (hp : 0 < l.length) {k : Nat} : once (l.tail.take k) ∧ once (l.drop (k + 1)) ∧ apart (l.tail.take k) (l.drop (k + 1)) ∧ (∀ y ∈ l.tail.take k ++ l.drop (k + 1), y.seq ≠ (gt l 0).seq) := by
  rw [split_part hp k] at h
  obtain ⟨h1, h2⟩ := List.pairwise_cons.1 h
  obtain ⟨a1, a2, a3⟩ := List.pairwise_append.1 h2
  exact ⟨a1, a2, a3, fun y hy e => h1 y hy e.symm⟩
theorem once_in {l : List Twg} {s : Int} {k : Nat} (hp : 0 < l.length) (h1 : ¬ (gt l 0).seq = s) (h2 : ¬ ∃ x ∈ l.tail.take k, x.seq = s) (hx : ∃ x ∈ l, x.seq = s) : ∃ x ∈ l.drop (k + 1), x.seq = s := by
  obtain ⟨x, hx, e⟩ := hx
  rw [split_part hp k] at hx
  rcases List.mem_cons.1 hx with rfl | hx
  · exact absurd e h1
  · rcases List.mem_append.1 hx with hx | hx
    · exact absurd ⟨x, hx, e⟩ h2
    · exact ⟨x, hx, e⟩
theorem woN_1 {n : Nat} {l : List Twg} {s : Int} (hp : 0 < l.length) (h1 : (gt l 0).seq = s) : woN (n + 1) l s = mrg (l.tail.take (gt l 0).lefts.toNat) (l.drop ((gt l 0).lefts.toNat + 1)) := by
  match l with
  | x :: xs => simp only [gt_zero] at h1; simp [woN, h1]
theorem woN_2 {n : Nat} {l : List Twg} {s : Int} (hp : 0 < l.length) (h1 : ¬ (gt l 0).seq = s) (h2 : ∃ x ∈ l.tail.take (gt l 0).lefts.toNat, x.seq = s) : woN (n + 1) l s = joinH (gt l 0) (woN n (l.tail.take (gt l 0).lefts.toNat) s) (l.drop ((gt l 0).lefts.toNat + 1)) := by
  match l with
  | x :: xs =>
    simp only [gt_zero, List.tail_cons] at h1 h2 ⊢
    have : (xs.take x.lefts.toNat).any (fun y => y.seq == s) = true := by rw [List.any_eq_true]; obtain ⟨y, hy, e⟩ := h2; exact ⟨y, hy, by simpa using e⟩
    simp only [woN, h1, if_false, this, if_true, List.drop_succ_cons]
theorem woN_3 {n : Nat} {l : List Twg} {s : Int} (hp : 0 < l.length) (h1 : ¬ (gt l 0).seq = s) (h2 : ¬ ∃ x ∈ l.tail.take (gt l 0).lefts.toNat, x.seq = s) : woN (n + 1) l s = joinH (gt l 0) (l.tail.take (gt l 0).lefts.toNat) (woN n (l.drop ((gt l 0).lefts.toNat + 1)) s) := by
  match l with
  | x :: xs =>
    simp only [gt_zero, List.tail_cons] at h1 h2 ⊢
    have : (xs.take x.lefts.toNat).any (fun y => y.seq == s) = false := by rw [List.any_eq_false]; intro y hy e; exact h2 ⟨y, hy, by simpa using e⟩
    simp only [woN, h1, if_false, this, Bool.false_eq_true, List.drop_succ_cons]
theorem woN_sub {n : Nat} {l : List Twg} {s : Int} (hn : l.length ≤ n) (hh : isH l) (ho : once l) (hx : ∃ x ∈ l, x.seq = s) : isH (woN n l s) ∧ (woN n l s).length + 1 = l.length := by
  obtain ⟨h1, x, _, _, hp⟩ := woN_ok n l s hn hh ho hx
  have := hp.length_eq
  simp at this
  exact ⟨h1, by omega⟩
theorem storeE_at {C : Ctx} {n d dT p idx off sz} {xs : List (List AV)} {cells v} {st : St} (hp : st.h p = some (.row sz xs)) (hf : frz st.h [v] = some ([v], st.h)) (hd : dT.size = 1) (ho : off + 1 ≤ sz) (hc : xs[idx]? = some cells)
    (hr : runN C n ({ st with h := upd st.h p (some (.row sz (xs.set idx (splice cells off [v])))) }.put d .dead)) : storeE C n d dT p idx off [v] st := storeE_row hf hp (by simp [hd]) (by omega) hc hr
end Go.AE
end

section
/- Timers are stopped and set anew; valid timers stay valid. -/
namespace Go.AE
def offT (x : Tmr) : Tmr := ⟨x.seq, x.due, x.what, x.whom, false⟩
theorem offT_a (x : Tmr) : (offT x).armed = false := rfl
def stopB (t : Tms) (s : Int) : Bool := decide (0 ≤ tmsAt t.list s) && (gt t.list (tmsAt t.list s)).armed
def stopT (t : Tms) (s : Int) : Tms :=
  if stopB t s = true then ⟨wo t.heap s, t.list.set (tmsAt t.list s).toNat (offT (gt t.list (tmsAt t.list s))), t.next⟩ else t
theorem seqs_once {h : List Twg} : seqsOk h = true ↔ once h := by
  have key : ∀ i : Nat, (hi : i < h.length) → ((!(decide (0 ≤ seqAt (h.take i) (h[i]).seq))) = true ↔ ∀ y ∈ h.take i, y.seq ≠ (h[i]).seq) := fun i hi => by
    unfold seqAt
    rw [Bool.not_eq_true', decide_eq_false_iff_not, Int.not_le, idxI_none _ _ 0 (Int.le_refl 0)]
    simp
  unfold seqsOk once
  rw [allI_iff, List.pairwise_iff_getElem]
  simp only [Int.zero_add, Int.toNat_natCast]
  constructor
  · intro hh i j hi hj hij e
    exact (key j hj).1 (hh j hj) h[i] (List.mem_take_iff_getElem.2 ⟨i, by omega, rfl⟩) e
  · intro hh i hi
    rw [key i hi]
    intro y hy
    obtain ⟨j, hj, rfl⟩ := List.mem_take_iff_getElem.1 hy
    exact hh j i (by omega) hi (by omega)
theorem heapOk_iff {h : List Twg} : heapOk h = true ↔ h.length ≤ 64 ∧ once h ∧ isH h := by
  rw [← seqs_once]
  unfold heapOk seqsOk isH
  simp
def okAt (l : List Tmr) (k : Int × Int) : Prop := 0 ≤ tmsAt l k.2 ∧ (gt l (tmsAt l k.2)).armed = true ∧ (gt l (tmsAt l k.2)).due = k.1
theorem tmsOk_iff {t : Tms} : tmsOk t = true ↔ (0 ≤ t.next ∧ t.next ≤ 1000000) ∧ t.list.length ≤ 64 ∧ (t.heap.length ≤ 64 ∧ once t.heap ∧ isH t.heap) ∧ tmsRise t.next t.list (-1) = true ∧ t.list.countP (·.armed) = t.heap.length ∧ ∀ k ∈ t.heap.map ky, okAt t.list k := by
  rw [← heapOk_iff]
  unfold tmsOk okAt cntB
  simp only [Bool.and_eq_true, inR_true, decide_eq_true_eq, beq_iff_eq, Bool.not_eq_true', List.any_eq_false, List.mem_map, forall_exists_index, and_imp, forall_apply_eq_imp_iff₂, ky]
  refine and_congr Iff.rfl (and_congr Iff.rfl (and_congr Iff.rfl (and_congr Iff.rfl (and_congr (by omega) (forall_congr' fun x => forall_congr' fun hx => ?_)))))
  simp
theorem gt_get {α : Type} [Inhabited α] {l : List α} {n : Int} (h0 : 0 ≤ n) (h1 : n < l.length) : gt l n = l[n.toNat]'(by omega) := by
  have := gt_some h0 h1
  rw [List.getElem?_eq_getElem (by omega)] at this
  exact (Option.some.inj this).symm
theorem tmsAt_seq {l : List Tmr} {s : Int} (h : 0 ≤ tmsAt l s) : (gt l (tmsAt l s)).seq = s := by
  have := idxI_hit (fun x : Tmr => x.seq == s) l h
  exact beq_iff_eq.1 this
theorem idxI_set {l : List Tmr} {n : Nat} {x : Tmr} (s : Int) : ∀ (k : Int) (hn : n < l.length), x.seq = l[n].seq → idxI (fun y : Tmr => y.seq == s) (l.set n x) k = idxI (fun y : Tmr => y.seq == s) l k := by
  induction l generalizing n with
  | nil => intro k hn; simp at hn
  | cons y ys ih =>
    intro k hn hx
    cases n with
    | zero => simp at hx; simp [idxI, hx]
    | succ n =>
      simp only [List.set_cons_succ, idxI]
      split
      · rfl
      · exact ih _ (by simpa using hn) (by simpa using hx)
theorem tmsAt_set {l : List Tmr} {s : Int} {x : Tmr} (h : 0 ≤ tmsAt l s) (hx : x.seq = s) (s' : Int) : tmsAt (l.set (tmsAt l s).toNat x) s' = tmsAt l s' := by
  have hl := tmsAt_lt l s
  refine idxI_set s' 0 (by omega) ?_
  rw [hx]
  have := tmsAt_seq h
  rw [gt_get h hl] at this
  exact this.symm
theorem gt_set_ne {l : List Tmr} {n m : Int} {x : Tmr} (h0 : 0 ≤ n) (hm : 0 ≤ m) (h1 : m < l.length) (hne : n ≠ m) : gt (l.set n.toNat x) m = gt l m := by
  have p1 := gt_some (xs := l.set n.toNat x) hm (by simpa using h1)
  have p2 := gt_some hm h1
  rw [List.getElem?_set_ne (by omega), p2] at p1
  exact (Option.some.inj p1).symm
theorem okAt_set_ne {l : List Tmr} {s : Int} {x : Tmr} (h : 0 ≤ tmsAt l s) (hx : x.seq = s) {k : Int × Int} (hk : k.2 ≠ s) : okAt (l.set (tmsAt l s).toNat x) k ↔ okAt l k := by
  unfold okAt
  rw [tmsAt_set h hx]
  refine and_congr_right fun h0 => ?_
  have hl := tmsAt_lt l k.2
  rw [gt_set_ne h h0 hl fun e => hk (by rw [← tmsAt_seq h0, ← e, tmsAt_seq h])]
theorem rise_set {next : Int} {x : Tmr} : ∀ {l : List Tmr} {n : Nat} {k : Int} (hn : n < l.length), x.seq = l[n].seq → x.what = l[n].what → x.whom = l[n].whom → tmsRise next (l.set n x) k = tmsRise next l k
  | [], n, k, hn, _, _, _ => by simp at hn
  | y :: ys, 0, k, hn, h1, h2, h3 => by simp at h1 h2 h3; simp [tmsRise, h1, h2, h3]
  | y :: ys, n + 1, k, hn, h1, h2, h3 => by
    simp only [List.set_cons_succ, tmsRise]
    rw [rise_set (l := ys) (n := n) (by simpa using hn) (by simpa using h1) (by simpa using h2) (by simpa using h3)]
theorem cnt_set {l : List Tmr} {n : Int} {x : Tmr} (h0 : 0 ≤ n) (h1 : n < l.length) : (l.set n.toNat x).countP (·.armed) + (if (gt l n).armed = true then 1 else 0) = l.countP (·.armed) + (if x.armed = true then 1 else 0) := by
  have hn : n.toNat < l.length := by omega
  rw [List.countP_set hn]
  have e : gt l n = l[n.toNat] := gt_get h0 h1
  rw [e]
  have hc : l[n.toNat].armed = true → 0 < l.countP (·.armed) := fun h => List.countP_pos_iff.2 ⟨_, List.getElem_mem hn, h⟩
  by_cases h : l[n.toNat].armed = true
  · have := hc h
    simp only [h, if_true]
    by_cases h2 : x.armed = true <;> simp [h2] <;> omega
  · simp [h]
theorem wo_ok {h : List Twg} {s : Int} (hh : isH h) (ho : once h) (hx : ∃ x ∈ h, x.seq = s) : isH (wo h s) ∧ ∃ x ∈ h, x.seq = s ∧ (h.map ky).Perm (ky x :: (wo h s).map ky) := woN_ok _ _ _ (Nat.le_refl _) hh ho hx
theorem heap_has {t : Tms} (h : tmsOk t = true) (s : Int) : (∃ x ∈ t.heap, x.seq = s) ↔ stopB t s = true := by
  obtain ⟨h1, h2, ⟨h3, h4, h5⟩, h6, h7, h8⟩ := tmsOk_iff.1 h
  constructor
  · rintro ⟨x, hx, rfl⟩
    obtain ⟨a, b, c⟩ := h8 _ (List.mem_map.2 ⟨x, hx, rfl⟩)
    simp only [ky] at a b
    simp [stopB, a, b]
  · intro hs
    simp only [stopB, Bool.and_eq_true, decide_eq_true_eq] at hs
    obtain ⟨hs0, hs1⟩ := hs
    have hl := tmsAt_lt t.list s
    -- the places of the heap's elements are all armed places
    refine Classical.byContradiction fun hno => ?_
    have hno : ∀ x ∈ t.heap, x.seq ≠ s := fun x hx e => hno ⟨x, hx, e⟩
    have hA : ∀ (m : List Twg) (l : List Tmr), once m → (∀ k ∈ m.map ky, okAt l k) → m.length ≤ l.countP (·.armed) := by
      intro m
      induction m with
      | nil => intro l _ _; simp
      | cons x m ih =>
        intro l ho hk
        obtain ⟨o1, o2⟩ := List.pairwise_cons.1 ho
        obtain ⟨a, b, c⟩ := hk (ky x) (by simp)
        simp only [ky] at a b c
        have hlx := tmsAt_lt l x.seq
        have hc := cnt_set (x := (offT (gt l (tmsAt l x.seq)))) a hlx
        simp only [b, offT_a, if_true, Bool.false_eq_true, if_false] at hc
        have := ih (l.set (tmsAt l x.seq).toNat (offT (gt l (tmsAt l x.seq)))) o2 (fun k hkm => by
          obtain ⟨y, hy, rfl⟩ := List.mem_map.1 hkm
          rw [okAt_set_ne a (by exact tmsAt_seq a) (by simp only [ky]; exact fun e => o1 y hy e.symm)]
          exact hk _ (by simp; exact .inr ⟨y, hy, rfl⟩))
        simp only [List.length_cons]; omega
    have hc := cnt_set (x := (offT (gt t.list (tmsAt t.list s)))) hs0 hl
    simp only [hs1, offT_a, if_true, Bool.false_eq_true, if_false] at hc
    have := hA t.heap (t.list.set (tmsAt t.list s).toNat (offT (gt t.list (tmsAt t.list s)))) h4 (fun k hk => by
      obtain ⟨y, hy, rfl⟩ := List.mem_map.1 hk
      rw [okAt_set_ne hs0 (by exact tmsAt_seq hs0) (hno y hy)]
      exact h8 _ (List.mem_map.2 ⟨y, hy, rfl⟩))
    omega
theorem putH_ok {h : List Twg} {d s : Int} (hh : isH h) (hn : ∀ x ∈ h, x.seq ≠ s) : isH (putH h d s) ∧ ((putH h d s).map ky).Perm (h.map ky ++ [(d, s)]) := by
  have := mrg_ok hh (isH_one d s) (fun x hx y hy => by simp at hy; subst hy; exact hn x hx)
  exact this
theorem tmsOk_stop {t : Tms} {s : Int} (h : tmsOk t = true) : tmsOk (stopT t s) = true ∧ ∀ x ∈ (stopT t s).heap, x.seq ≠ s := by
  by_cases hb : stopB t s = true
  · have hh := (heap_has h s).2 hb
    obtain ⟨h1, h2, ⟨h3, h4, h5⟩, h6, h7, h8⟩ := tmsOk_iff.1 h
    obtain ⟨g1, x, hx, hxs, hp⟩ := wo_ok h5 h4 hh
    simp only [stopB, Bool.and_eq_true, decide_eq_true_eq] at hb
    obtain ⟨hs0, hs1⟩ := hb
    have hl := tmsAt_lt t.list s
    have e : stopT t s = ⟨wo t.heap s, t.list.set (tmsAt t.list s).toNat (offT (gt t.list (tmsAt t.list s))), t.next⟩ := by simp [stopT, stopB, hs0, hs1]
    have hlen := hp.length_eq
    simp only [List.length_map, List.length_cons] at hlen
    have hon : once (x :: wo t.heap s) := once_ky (l := x :: wo t.heap s) (m := t.heap) (by simpa using hp.symm) h4
    obtain ⟨o1, o2⟩ := List.pairwise_cons.1 hon
    have hno : ∀ y ∈ wo t.heap s, y.seq ≠ s := fun y hy e => o1 y hy (hxs.trans e.symm)
    have hc := cnt_set (x := (offT (gt t.list (tmsAt t.list s)))) hs0 hl
    simp only [hs1, offT_a, if_true, Bool.false_eq_true, if_false] at hc
    rw [e]
    refine ⟨tmsOk_iff.2 ⟨h1, by simpa using h2, ⟨by simp only; omega, o2, g1⟩, ?_, by simp only; omega, fun k hk => ?_⟩, hno⟩
    · simp only
      rw [rise_set (by omega) ?_ ?_ ?_]
      · exact h6
      all_goals
        simp only [gt_get hs0 hl, offT]
    · obtain ⟨y, hy, rfl⟩ := List.mem_map.1 hk
      rw [okAt_set_ne hs0 (by exact tmsAt_seq hs0) (hno y hy)]
      exact h8 _ (hp.mem_iff.2 (List.mem_cons_of_mem _ hk))
  · have e : stopT t s = t := by simp [stopT, hb]
    rw [e]
    exact ⟨h, fun x hx e => hb ((heap_has h s).1 ⟨x, hx, e⟩)⟩
theorem stopT_next {t : Tms} {s : Int} : (stopT t s).next = t.next := by unfold stopT; split <;> rfl
theorem stopT_len {t : Tms} {s : Int} : (stopT t s).list.length = t.list.length := by unfold stopT; split <;> simp
def TmsQ (p : Nat) (X : WI) (w' : Wld) (b : Bool) (h : Heap) (nx : Nat) (r : AV) (h' : Heap) (nx' : Nat) : Prop :=
  r = .bool b ∧ (∃ X' : WI, h' p = some (.obj (wldR X' w')) ∧ WV h' X' w' ∧ ∀ id ∈ X'.ids, id ∈ X.ids ∨ nx ≤ id ∧ id < nx') ∧ ∀ j, j < nx → j ≠ p → j ∉ X.ids → h' j = h j
theorem stopT_not {w : Wld} {s : Int} (h : ¬ stopB w.timers s = true) : ({ w with timers := stopT w.timers s } : Wld) = w := by
  have : stopT w.timers s = w.timers := by simp [stopT, h]
  rw [this]
end Go.AE
end

section
/- A node is created: what the request makes of a world, in plain terms. -/
namespace Go.AE
def mkW (w : Wld) (t : List Nod) (l : List Evt) (s : Spr) (u : Tms) : Wld := ⟨w.now, w.progs, t, l, s, u, w.afters, w.tasks, w.groups, w.sights, w.began, w.rang⟩
def begS (w : Wld) (n : Int) : Wld := mkW w w.tree w.events ⟨w.spread.told, w.spread.work ++ [n]⟩ w.timers
def canBegR (s : Spr) (n : Int) : Bool := isIn n s.told && decide (s.work.length ≠ 240)
def canBeg (w : Wld) (n : Int) : Bool := canBegR w.spread n
def begW (w : Wld) (n : Int) : Wld := if canBeg w n = true then begS w n else w
def cutS (w : Wld) (e : Evt) : Wld := mkW w w.tree (w.events ++ [e]) ⟨w.spread.told, w.spread.work ++ [e.node]⟩ w.timers
def canCut (w : Wld) (e : Evt) : Bool := fits w.tree w.events e && canBeg w e.node
def cutW (w : Wld) (e : Evt) : Wld := if canCut w e = true then cutS w e else w
def canArm (t : Tms) (what whom : Int) : Bool := decide (t.list.length ≠ 64) && (t.next != 1000000 && (inR what 0 2 && inR whom 0 99))
def armS (t : Tms) (d what whom : Int) : Tms := ⟨putH t.heap d t.next, t.list ++ [⟨t.next, d, what, whom, true⟩], t.next + 1⟩
def armT (t : Tms) (d what whom : Int) : Tms := if canArm t what whom = true then armS t d what whom else t
def armI (t : Tms) (what whom : Int) : Int := if canArm t what whom = true then t.next else -1
def setT (w : Wld) (t : Tms) : Wld := mkW w w.tree w.events w.spread t
theorem arm_room {t : Tms} (h : tmsOk t = true) (hl : t.list.length ≠ 64) : t.heap.length + 1 ≤ 64 ∧ (∀ x ∈ t.heap, x.seq ≠ t.next) := by
  obtain ⟨h1, h2, ⟨h3, h4, h5⟩, h6, h7, h8⟩ := tmsOk_iff.1 h
  have hle := List.countP_le_length (l := t.list) (p := (·.armed))
  refine ⟨by omega, fun x hx e => ?_⟩
  have h9 := (h8 (ky x) (List.mem_map.2 ⟨x, hx, rfl⟩)).1
  have hlt := tmsAt_lt t.list x.seq
  have hs := tmsAt_seq (l := t.list) (s := x.seq) h9
  have hm := gt_mem (xs := t.list) (z := tmsAt t.list x.seq) h9 hlt
  have : ∀ (l : List Tmr) (k : Int), tmsRise t.next l k = true → ∀ y ∈ l, y.seq < t.next := by
    intro l
    induction l with
    | nil => intro k _ y hy; simp at hy
    | cons z zs ih =>
      intro k hk y hy
      simp only [tmsRise] at hk
      split at hk
      · simp at hk
      · rename_i hc
        simp only [Bool.or_eq_true, decide_eq_true_eq, not_or] at hc
        rcases List.mem_cons.1 hy with rfl | q
        · omega
        · exact ih _ hk y q
  have := this _ _ h6 _ hm
  omega
end Go.AE
end
