/- An abstract machine over the model: its states, its steps, and that what it shows holds of the model. -/
import Derived.Test.YtfffnioddgeohaaGreatA3
set_option linter.unusedVariables false
set_option linter.unusedSimpArgs false
set_option linter.deprecated false
section
/- Abstract machine: rows of a world are laid anew, under new names. -/
namespace Go.AE
theorem WI.setTop_nd {X : WI} {i id : Nat} (nd : X.ids.Nodup) (hn : id ∉ X.ids) : (X.setTop i id).ids.Nodup := by
  obtain ⟨n1, n2, n3⟩ := List.nodup_append.1 nd
  have tne : ∀ k, k < 15 → X.top k ≠ id := fun k hk e => hn (e ▸ WI.top_mem hk)
  have inj : ∀ a b, a < 15 → b < 15 → X.top a = X.top b → a = b := fun a b ha hb e => by
    rw [List.Nodup, List.pairwise_map] at n1
    by_cases hab : a = b
    · exact hab
    · have hp := (List.pairwise_iff_getElem.1 n1)
      rcases Nat.lt_or_ge a b with q | q
      · have := hp a b (by simpa using ha) (by simpa using hb) q
        simp at this; exact absurd e this
      · have := hp b a (by simpa using hb) (by simpa using ha) (by omega)
        simp at this; exact absurd e.symm this
  refine List.nodup_append.2 ⟨?_, n2, fun a ha b hb => ?_⟩
  · refine List.pairwise_map.2 (List.Pairwise.imp_of_mem ?_ (List.nodup_range (n := 15)))
    intro a b ha hb hab
    have ha := List.mem_range.1 ha
    have hb := List.mem_range.1 hb
    show (if a = i then id else X.top a) ≠ (if b = i then id else X.top b)
    by_cases e1 : a = i
    · rw [if_pos e1, if_neg (fun e => hab (e1.trans e.symm))]
      exact fun e => tne b hb e.symm
    · rw [if_neg e1]
      by_cases e2 : b = i
      · rw [if_pos e2]; exact tne a ha
      · rw [if_neg e2]; exact fun e => hab (inj a b ha hb e)
  · obtain ⟨k, hk, rfl⟩ := List.mem_map.1 ha
    have hk := List.mem_range.1 hk
    show (if k = i then id else X.top k) ≠ b
    by_cases e1 : k = i
    · rw [if_pos e1]; rintro rfl
      exact hn (by simp only [WI.ids, List.mem_append] at hb ⊢; exact .inr hb)
    · rw [if_neg e1]
      exact n3 _ (List.mem_map.2 ⟨k, List.mem_range.2 hk, rfl⟩) b hb
theorem WV.lay {h h' : Heap} {X X' : WI} {w w' : Wld} (v : WV h X w) (hpg : X'.pg = X.pg) (hgr : X'.gr = X.gr) (hnd : X'.ids.Nodup) (hr : ∀ k, k < 15 → h' (X'.top k) = some (wRow X w' k)) (hp : w'.progs = w.progs) (hg : w'.groups = w.groups)
    (hf : ∀ j, j ∈ X.pg ∨ j ∈ X.gr → h' j = h j) : WV h' X' w' where
  top k hk := by
    have : wRow X' w' k = wRow X w' k := by unfold wRow; rw [hpg, hgr]
    rw [this]; exact hr k hk
  pl := by rw [hp, hpg]; exact v.pl
  gl := by rw [hg, hgr]; exact v.gl
  prog j p id h1 h2 := by
    rw [hp] at h1
    rw [hpg] at h2
    rw [hf id (.inl (List.mem_of_getElem? h2))]
    exact v.prog j p id h1 h2
  wait j g id h1 h2 := by
    rw [hg] at h1
    rw [hgr] at h2
    rw [hf id (.inr (List.mem_of_getElem? h2))]
    exact v.wait j g id h1 h2
  nd := hnd
theorem WV.lay2 {h h' : Heap} {X : WI} {w w' : Wld} {i id j jd : Nat} (v : WV h X w) (hi : i < 15) (hj : j < 15) (hij : i ≠ j) (hn : id ∉ X.ids) (hm : jd ∉ X.ids) (hd : id ≠ jd) (hr : h' id = some (wRow X w' i)) (hs : h' jd = some (wRow X w' j))
    (ho : ∀ k, k < 15 → k ≠ i → k ≠ j → wRow X w' k = wRow X w k) (hp : w'.progs = w.progs) (hg : w'.groups = w.groups) (hf : ∀ k ∈ X.ids, k ≠ X.top i → k ≠ X.top j → h' k = h k) : WV h' ((X.setTop i id).setTop j jd) w' := by
  refine v.lay rfl rfl (WI.setTop_nd (WI.setTop_nd v.nd hn) fun q => ?_) (fun k hk => ?_) hp hg (fun k hk => ?_)
  · rcases WI.setTop_ids q with q | q
    · exact hm q
    · exact hd q.symm
  · show h' (if k = j then jd else if k = i then id else X.top k) = _
    by_cases e1 : k = j
    · subst e1; rw [if_pos rfl]; exact hs
    · rw [if_neg e1]
      by_cases e2 : k = i
      · subst e2; rw [if_pos rfl]; exact hr
      · rw [if_neg e2, ho k hk e2 e1, hf _ (WI.top_mem hk) (fun e => e2 (v.top_inj hk hi e)) (fun e => e1 (v.top_inj hk hj e))]
        exact v.top k hk
  · refine hf k ?_ ?_ ?_
    · rcases hk with q | q
      · exact WI.pg_mem q
      · exact WI.gr_mem q
    · rintro rfl
      rcases hk with q | q
      · exact v.top_pg hi q
      · exact v.top_gr hi q
    · rintro rfl
      rcases hk with q | q
      · exact v.top_pg hj q
      · exact v.top_gr hj q
def ChgQ (p : Nat) (X : WI) (w' : Wld) (v : AV) (h : Heap) (nx : Nat) (r : AV) (h' : Heap) (nx' : Nat) : Prop :=
  r = v ∧ (∃ X' : WI, h' p = some (.obj (wldR X' w')) ∧ WV h' X' w' ∧ ∀ id ∈ X'.ids, id ∈ X.ids ∨ nx ≤ id ∧ id < nx') ∧ ∀ j, j < nx → j ≠ p → j ∉ X.ids → h' j = h j
theorem setT_same (w : Wld) : setT w w.timers = w := rfl
end Go.AE
end

section
/- A valid world is small. -/
namespace Go.AE
theorem filter_ne_len {a : Int} : ∀ {l : List Int}, l.Pairwise (· ≠ ·) → l.length ≤ (l.filter (fun x => x != a)).length + 1
  | [], _ => by simp
  | x :: xs, h => by
    rw [List.pairwise_cons] at h
    have ih := filter_ne_len (a := a) h.2
    by_cases e : x = a
    · have : xs.filter (fun x => x != a) = xs := List.filter_eq_self.2 fun y hy => by
        have := h.1 y hy
        simp only [bne_iff_ne]; intro e2; exact this (e.trans e2.symm)
      rw [List.filter_cons_of_neg (by simp [e]), this]; simp
    · rw [List.filter_cons_of_pos (by simp [e])]
      simp only [List.length_cons]; omega
theorem distinct_len : ∀ (n : Nat) (l : List Int), (∀ x ∈ l, 0 ≤ x ∧ x < n) → l.Pairwise (· ≠ ·) → l.length ≤ n
  | 0, [], _, _ => by simp
  | 0, x :: xs, h, _ => by have := h x (by simp); omega
  | n + 1, l, h, hp => by
    have h1 := filter_ne_len (a := (n : Int)) hp
    have h2 := distinct_len n (l.filter (fun x => x != (n : Int))) (fun x hx => by
      simp only [List.mem_filter, bne_iff_ne] at hx
      have := h x hx.1
      have := hx.2
      omega) (List.Pairwise.sublist List.filter_sublist hp)
    omega
theorem chain_self (t : List Nod) (n : Int) : n ∈ chain t n := by
  unfold chain
  cases t.length with
  | zero => simp [chainN]
  | succ k => unfold chainN; split <;> simp
theorem events_len {t : List Nod} {l : List Evt} (h : eventsOk t l = true) : l.length ≤ 60 := by
  have ht := treeOk_len (eventsOk_tree h)
  have : (l.map (·.node)).length ≤ t.length := by
    refine distinct_len _ _ (fun x hx => ?_) ?_
    · obtain ⟨e, he, rfl⟩ := List.mem_map.1 hx
      obtain ⟨i, hi, rfl⟩ := List.getElem_of_mem he
      exact isEvent_in (fits_step (eventsOk_at h i hi)).1
    · rw [List.pairwise_map, List.pairwise_iff_getElem]
      intro i j hi hj hij e
      have := (fits_step (eventsOk_at h j hj)).2.2
      simp only [firstOf, Option.isSome_eq_false_iff, Option.isNone_iff_eq_none, List.find?_eq_none] at this
      refine this l[i] (List.mem_take_iff_getElem.2 ⟨i, by omega, rfl⟩) ?_
      rw [e]; simpa using chain_self t _
  simpa using Nat.le_trans this ht
end Go.AE
end

section
/- The first timer rings: what the request makes of a world, in plain terms. -/
namespace Go.AE
def fireC (t : Tms) (now : Int) : Bool := decide (t.heap.length ≠ 0) && isDue now (gt t.heap 0).due
def fireX (t : Tms) : Tmr := gt t.list (tmsAt t.list (gt t.heap 0).seq)
def fireT (t : Tms) (now : Int) : Tms := if fireC t now = true then stopT t (gt t.heap 0).seq else t
def fireR (t : Tms) (now : Int) : Tmr := if fireC t now = true then fireX t else default
def dropT (t : Tms) (s : Int) : Tms := if 0 ≤ tmsAt t.list s then ⟨t.heap, t.list.eraseIdx (tmsAt t.list s).toNat, t.next⟩ else t
def forgetT (t : Tms) (s : Int) : Tms := dropT (stopT t s) s
def nextK (k : Tsk) (reg : Int) : Tsk := ⟨k.prog, k.pc + 1, 0, 0, 0, -1, reg, k.group, k.err⟩
def readied (k : Tsk) (reg : Int) : Tsk := if tskOk k = true then (if k.state ≠ 2 ∧ tskOk (nextK k reg) = true then nextK k reg else k) else default
def mkW2 (w : Wld) (t : Tms) (k : List Tsk) (r : List Int) : Wld := ⟨w.now, w.progs, w.tree, w.events, w.spread, t, w.afters, k, w.groups, w.sights, w.began, r⟩
def ringEv (w : Wld) (x : Tmr) : Evt := ⟨x.whom, 2, 0, w.now⟩
def wakes (w : Wld) (x : Tmr) : Bool := (gt w.tasks x.whom).why == 2 && (gt w.tasks x.whom).timer == x.seq
def drainW (w : Wld) : Wld :=
  if fireC w.timers w.now = true then
    (if (fireX w.timers).what = 0 then cutW (setT w (forgetT (fireT w.timers w.now) (fireX w.timers).seq)) (ringEv w (fireX w.timers))
     else if (fireX w.timers).what = 1 then mkW2 w (forgetT (fireT w.timers w.now) (fireX w.timers).seq) (if wakes w (fireX w.timers) = true then w.tasks.set (fireX w.timers).whom.toNat (readied (gt w.tasks (fireX w.timers).whom) 1) else w.tasks) w.rang
     else mkW2 w (fireT w.timers w.now) w.tasks (if (fireX w.timers).what = 2 ∧ w.rang.length < 2000 then w.rang ++ [(fireX w.timers).whom] else w.rang))
  else w
def drainB (w : Wld) : Bool := fireC w.timers w.now
def ringW (w : Wld) : Wld := askW w (drainW w) (drainB w)
def ringB (w : Wld) : Bool := askB w (drainW w) (drainB w)
section
variable {t : Tms} {now : Int}
theorem fire_at (h : tmsOk t = true) (hl : t.heap.length ≠ 0) : 0 ≤ tmsAt t.list (gt t.heap 0).seq ∧ stopB t (gt t.heap 0).seq = true ∧ (fireX t).seq = (gt t.heap 0).seq := by
  obtain ⟨-, -, -, -, -, h8⟩ := tmsOk_iff.1 h
  have hm : gt t.heap 0 ∈ t.heap := gt_mem (Int.le_refl 0) (by omega)
  have := h8 (ky (gt t.heap 0)) (List.mem_map.2 ⟨_, hm, rfl⟩)
  have h1 : 0 ≤ tmsAt t.list (gt t.heap 0).seq := this.1
  have h2 : (gt t.list (tmsAt t.list (gt t.heap 0).seq)).armed = true := this.2.1
  exact ⟨h1, by simp [stopB, h1, h2], tmsAt_seq h1⟩
theorem fireT_ok (h : tmsOk t = true) : tmsOk (fireT t now) = true := by
  unfold fireT; split
  · exact (tmsOk_stop h).1
  · exact h
end
theorem tmr_one (x : Tmr) : ∀ y ∈ tmrC x, y.one = true := fun y hy => by simp [tmrC] at hy; rcases hy with rfl | rfl | rfl | rfl | rfl <;> rfl
@[simp] theorem tmr_take_one {l : List Tmr} {i : Nat} : (∀ x, x ∈ List.take i (List.map tmrC l) → ∀ y, y ∈ x → y.one = true) = True := by
  simp only [eq_iff_iff, iff_true]
  intro x hx y hy
  obtain ⟨z, _, rfl⟩ := List.mem_map.1 (List.mem_of_mem_take hx)
  exact tmr_one z y hy
end Go.AE
end

section
/- A step of propagation: what the request makes of a world, in plain terms. -/
namespace Go.AE
@[simp] theorem iv_tail_one {l : List Int} : (∀ x, x ∈ (List.map iv l).tail → ∀ y, y ∈ x → y.one = true) = True := by
  simp only [eq_iff_iff, iff_true]
  intro x hx y hy
  obtain ⟨z, _, rfl⟩ := List.mem_map.1 (List.mem_of_mem_tail hx)
  simp [iv] at hy; subst hy; rfl
end Go.AE
end

section
/- Functions that are registered, queued, started and called off: what a law asks of them, in plain terms. -/
namespace Go.AE
def newMk (id : Nat) (l c : AV) : Option TyD → Option (AV × Ent)
  | some de => match l, c with
    | .int _ n, .int _ m => if 0 < de.size ∧ de.bytes ≤ 128 ∧ n = m ∧ 0 ≤ n ∧ n ≤ MLIM then some (.ref id de.size 0 n.toNat, .row de.size (List.replicate n.toNat de.zero)) else none
    | _, _ => none
  | none => none
@[simp] theorem newA_mk {C : Ctx} (id ev t l c) : newA C id ev (.makeSlice t l c) = newMk id (ev l) (ev c) (elemOf C t) := by
  simp only [newA, elemOf]
  cases ((C.ty t).bind (·.elem)).bind C.ty <;> simp only [newMk] <;> cases ev l <;> cases ev c <;> rfl
@[simp] theorem newMk_some (id k k' n m e) : newMk id (.int k n) (.int k' m) (some e) = if 0 < e.size ∧ e.bytes ≤ 128 ∧ n = m ∧ 0 ≤ n ∧ n ≤ MLIM then some (.ref id e.size 0 n.toNat, .row e.size (List.replicate n.toNat e.zero)) else none := rfl
theorem fros_same {h : Heap} : ∀ (l : List AV), Fros h l l
  | [] => .nil
  | x :: l => .cons (.same _) (fros_same l)
def freeAt (s : Slt) (i : Nat) : Bool := !gt s.used (i : Int) && gt s.ages (i : Int) != 1000000
def takeAt (s : Slt) : Option Nat := (List.range s.ages.length).findIdx? (freeAt s)
def takeS (s : Slt) (i : Nat) : Slt := ⟨s.ages, s.used.set i true⟩
theorem holds_take (s : Slt) (i : Nat) (x : Han) : sltHolds (takeS s i) x = (isIn x.slot s.ages && (gt (s.used.set i true) x.slot && gt s.ages x.slot == x.age)) := rfl
theorem takeAt_of {s : Slt} {i : Nat} (h : takeAt s = some i) : i < s.ages.length ∧ freeAt s i = true := by
  unfold takeAt at h
  rw [List.findIdx?_eq_some_iff_getElem] at h
  obtain ⟨h1, h2, _⟩ := h
  exact ⟨by simpa using h1, by simpa using h2⟩
def takeH (s : Slt) (i : Nat) : Han := ⟨i, gt s.ages (i : Int)⟩
def regA (a : Afs) (node fn : Int) : Afs := match takeAt a.slots with
  | some i => ⟨takeS a.slots i, a.list ++ [⟨takeH a.slots i, node, fn, false⟩]⟩
  | none => a
theorem afsOk_reg {a : Afs} {i : Nat} {node fn : Int} (h : afsOk a = true) (hi : takeAt a.slots = some i) (hf : isAfter node fn = true) : afsOk ⟨takeS a.slots i, a.list ++ [⟨takeH a.slots i, node, fn, false⟩]⟩ = true := by
  obtain ⟨f1, f2, f3⟩ := afs_facts h
  obtain ⟨t1, t2⟩ := takeAt_of hi
  simp only [freeAt, Bool.and_eq_true, Bool.not_eq_true', bne_iff_ne] at t2
  rw [afsOk_iff] at h ⊢
  obtain ⟨h1, h2, h3, h4⟩ := h
  have n2 : i < a.slots.used.length := by omega
  have hu : a.slots.used[i] = false := by rw [← gt_nat n2]; exact t2.1
  have hg : ∀ z : Int, 0 ≤ z → z < a.slots.ages.length → gt (a.slots.used.set i true) z = (gt a.slots.used z || decide (z.toNat = i)) := fun z z0 z1 => by
    have p1 := gt_some (xs := a.slots.used.set i true) z0 (by simp; omega)
    have p2 := gt_some (xs := a.slots.used) z0 (by omega)
    rw [List.getElem?_set] at p1
    by_cases e : i = z.toNat
    · rw [if_pos e, if_pos (by omega)] at p1
      rw [← Option.some.inj p1]; simp [e]
    · rw [if_neg e, p2] at p1
      rw [← Option.some.inj p1]; simp [show ¬ z.toNat = i by omega]
  refine ⟨?_, ?_, fun x hx => ?_, ?_⟩
  · simp only [sltOk, takeS, Bool.and_eq_true, List.length_set] at h1 ⊢; exact h1
  · have e2 : (a.slots.used.set i true).countP id = a.slots.used.countP id + 1 := by
      rw [List.countP_set n2]; simp [hu]
    simp only [takeS, cntB, e2, List.length_append, List.length_cons, List.length_nil] at h2 ⊢
    omega
  · rcases List.mem_append.1 hx with q | q
    · refine ⟨(h3 x q).1, ?_⟩
      have hd := (h3 x q).2
      rw [holds_take]
      simp only [sltHolds, Bool.and_eq_true, isIn, inR, decide_eq_true_eq, beq_iff_eq] at hd ⊢
      obtain ⟨⟨d1, d2⟩, d3, d4⟩ := hd
      refine ⟨⟨d1, d2⟩, ?_, d4⟩
      rw [hg _ d1 (by omega), d3]; rfl
    · obtain rfl := List.mem_singleton.1 q
      refine ⟨hf, ?_⟩
      dsimp only [takeH]
      rw [holds_take]
      simp only [Bool.and_eq_true, isIn, inR, decide_eq_true_eq, beq_iff_eq]
      refine ⟨⟨by omega, by omega⟩, ?_, trivial⟩
      rw [hg _ (by omega) (by omega)]; simp
  · rw [List.pairwise_append]
    refine ⟨h4, List.pairwise_singleton .., fun x hx y hy => ?_⟩
    obtain rfl := List.mem_singleton.1 hy
    intro e
    have hd := (h3 x hx).2
    simp only [sltHolds, Bool.and_eq_true] at hd
    rw [e] at hd
    simp only [takeH] at hd
    rw [t2.1] at hd
    exact absurd hd.2.1 (by decide)
def offB (a : Afs) (h : Han) : Bool := decide (0 ≤ afsAt a.list h) && !(gt a.list (afsAt a.list h)).queued
def offA (a : Afs) (h : Han) : Afs := if offB a h = true then goA a (afsAt a.list h).toNat else a
structure Rg where
  node : Int
  st : Int
  han : Han
deriving DecidableEq, Inhabited
def liveA : Int → List Rg → List Afr
  | _, [] => []
  | c, x :: r => if x.st < 2 then ⟨x.han, x.node, c, x.st == 1⟩ :: liveA (c + 1) r else liveA (c + 1) r
theorem liveA_app : ∀ (c : Int) (l r : List Rg), liveA c (l ++ r) = liveA c l ++ liveA (c + l.length) r
  | c, [], r => by simp [liveA]
  | c, x :: l, r => by
    simp only [List.cons_append, liveA, List.length_cons]
    rw [liveA_app (c + 1) l r, show c + 1 + (l.length : Int) = c + ((l.length + 1 : Nat) : Int) by omega]
    split <;> simp
theorem liveA_mem : ∀ {c : Int} {l : List Rg} {y : Afr}, y ∈ liveA c l → ∃ x ∈ l, x.st < 2 ∧ y.han = x.han ∧ y.node = x.node ∧ y.queued = (x.st == 1)
  | c, x :: l, y, h => by
    simp only [liveA] at h
    split at h
    · rename_i hx
      rcases List.mem_cons.1 h with rfl | q
      · exact ⟨x, by simp, hx, rfl, rfl, rfl⟩
      · obtain ⟨z, z1, z2⟩ := liveA_mem q; exact ⟨z, by simp [z1], z2⟩
    · obtain ⟨z, z1, z2⟩ := liveA_mem h; exact ⟨z, by simp [z1], z2⟩
structure AInv (n i : Nat) (A : Afs) (L : List Rg) : Prop where
  ok : afsOk A = true
  nl : A.slots.ages.length = n
  len : L.length ≤ i
  lst : A.list = liveA 0 L
  age : ∀ x ∈ A.slots.ages, x ≤ i
  st : ∀ x ∈ L, 0 ≤ x.st
  dead : ∀ x ∈ L, 2 ≤ x.st → isIn x.han.slot A.slots.ages = true ∧ x.han.age < gt A.slots.ages x.han.slot
namespace AInv
variable {n i : Nat} {A : Afs} {L : List Rg}
theorem mono (I : AInv n i A L) : AInv n (i + 1) A L := ⟨I.ok, I.nl, by have := I.len; omega, I.lst, fun x hx => by have := I.age x hx; omega, I.st, I.dead⟩
theorem can (I : AInv n i A L) (hi : i < 1000) : ∀ k : Nat, k < A.list.length → canDrop A.slots (gt A.list (k : Int)).han = true := fun k hk => by
  have hh := afs_held I.ok k hk
  have h0 := hh
  simp only [sltHolds, Bool.and_eq_true, isIn, inR, decide_eq_true_eq, beq_iff_eq] at hh
  have := I.age _ (gt_mem (xs := A.slots.ages) (z := (gt A.list (k : Int)).han.slot) (by omega) (by omega))
  simp only [canDrop, h0, Bool.true_and, bne_iff_ne]
  omega
theorem go {L1 L2 : List Rg} {x : Rg} {v : Int} (I : AInv n i A (L1 ++ x :: L2)) (hx : x.st < 2) (hv : 2 ≤ v) (hi : i < 1000) :
    (liveA 0 L1).length < A.list.length ∧ gt A.list ((liveA 0 L1).length : Nat) = ⟨x.han, x.node, L1.length, x.st == 1⟩ ∧ AInv n (i + 1) (goA A (liveA 0 L1).length) (L1 ++ ⟨x.node, v, x.han⟩ :: L2) := by
  have hl : A.list = liveA 0 L1 ++ ⟨x.han, x.node, L1.length, x.st == 1⟩ :: liveA (L1.length + 1) L2 := by
    rw [I.lst, liveA_app]; simp [liveA, hx]
  have hk : (liveA 0 L1).length < A.list.length := by rw [hl]; simp
  have hg : gt A.list ((liveA 0 L1).length : Nat) = ⟨x.han, x.node, L1.length, x.st == 1⟩ := by
    rw [gt_nat hk]; simp [hl]
  refine ⟨hk, hg, ?_⟩
  have hc := I.can hi _ hk
  have hok := afsOk_go I.ok hk hc
  have hh := afs_held I.ok _ hk
  simp only [sltHolds, Bool.and_eq_true, isIn, inR, decide_eq_true_eq, beq_iff_eq] at hh
  rw [hg] at hh
  dsimp only at hh
  obtain ⟨⟨c1, c2⟩, c3, c4⟩ := hh
  have ha := I.age _ (gt_mem (xs := A.slots.ages) (z := x.han.slot) (by omega) (by omega))
  have e0 : (goA A (liveA 0 L1).length).slots.ages = A.slots.ages.set x.han.slot.toNat (x.han.age + 1) := by simp only [goA, hg, dropS]
  have hset : ∀ z : Int, 0 ≤ z → z < A.slots.ages.length → gt (A.slots.ages.set x.han.slot.toNat (x.han.age + 1)) z = if z = x.han.slot then x.han.age + 1 else gt A.slots.ages z := fun z z0 z1 => by
    have p1 := gt_some (xs := A.slots.ages.set x.han.slot.toNat (x.han.age + 1)) z0 (by simp; omega)
    have p2 := gt_some (xs := A.slots.ages) z0 (by omega)
    rw [List.getElem?_set] at p1
    by_cases e : x.han.slot.toNat = z.toNat
    · rw [if_pos e, if_pos (by omega)] at p1
      rw [← Option.some.inj p1, if_pos (by omega)]
    · rw [if_neg e, p2] at p1
      rw [← Option.some.inj p1, if_neg (fun h => e (by rw [h]))]
  refine ⟨hok, ?_, ?_, ?_, fun y hy => ?_, fun y hy => ?_, fun y hy h2 => ?_⟩
  · rw [e0, List.length_set]; exact I.nl
  · have := I.len; simp only [List.length_append, List.length_cons] at this ⊢; omega
  · simp only [goA]
    rw [hl, List.eraseIdx_append_of_length_le (Nat.le_refl _), liveA_app]
    have : ¬ v < 2 := by omega
    simp [liveA, this]
  · rw [e0] at hy
    rcases List.mem_or_eq_of_mem_set hy with q | q
    · have := I.age y q; omega
    · omega
  · rcases List.mem_append.1 hy with q | q
    · exact I.st y (by simp [q])
    · rcases List.mem_cons.1 q with rfl | q
      · show 0 ≤ v; omega
      · exact I.st y (by simp [q])
  · rw [e0]
    have key : ∀ z ∈ L1 ++ x :: L2, 2 ≤ z.st → isIn z.han.slot (A.slots.ages.set x.han.slot.toNat (x.han.age + 1)) = true ∧ z.han.age < gt (A.slots.ages.set x.han.slot.toNat (x.han.age + 1)) z.han.slot := fun z hz hz2 => by
      obtain ⟨d1, d2⟩ := I.dead z hz hz2
      have d3 := d1
      simp only [isIn, inR, Bool.and_eq_true, decide_eq_true_eq, List.length_set] at d1 ⊢
      refine ⟨d1, ?_⟩
      rw [hset _ d1.1 (by omega)]
      split
      · rename_i e; rw [e] at d2; omega
      · exact d2
    rcases List.mem_append.1 hy with q | q
    · exact key y (by simp [q]) h2
    · rcases List.mem_cons.1 q with rfl | q
      · dsimp only
        simp only [isIn, inR, Bool.and_eq_true, decide_eq_true_eq, List.length_set]
        refine ⟨⟨c1, c2⟩, ?_⟩
        rw [hset _ c1 (by omega), if_pos rfl]; omega
      · exact key y (by simp [q]) h2
theorem reg {k : Nat} {m : Int} (I : AInv n i A L) (hi : i < 99) (hk : takeAt A.slots = some k) (h0 : 0 ≤ m) (h1 : m ≤ 2) :
    regA A m L.length = ⟨takeS A.slots k, A.list ++ [⟨takeH A.slots k, m, L.length, false⟩]⟩ ∧ AInv n (i + 1) (regA A m L.length) (L ++ [⟨m, 0, takeH A.slots k⟩]) := by
  have e : regA A m L.length = ⟨takeS A.slots k, A.list ++ [⟨takeH A.slots k, m, L.length, false⟩]⟩ := by simp [regA, hk]
  have hl := I.len
  refine ⟨e, ?_⟩
  rw [e]
  refine ⟨afsOk_reg I.ok hk (by simp [isAfter, inR]; omega), I.nl, by simp; omega, ?_, fun x hx => by have := I.age x hx; omega, fun x hx => ?_, fun x hx h2 => ?_⟩
  · rw [liveA_app, ← I.lst]; simp [liveA]
  · rcases List.mem_append.1 hx with q | q
    · exact I.st x q
    · obtain rfl := List.mem_singleton.1 q; exact Int.le_refl 0
  · rcases List.mem_append.1 hx with q | q
    · exact I.dead x q h2
    · obtain rfl := List.mem_singleton.1 q; exact absurd (show (2 : Int) ≤ 0 from h2) (by decide)
theorem started (I : AInv n i A L) (hi : i < 1000) :
    (idxI (fun x : Rg => x.st == 1) L 0 = -1 → goAt A = none) ∧
    (∀ L1 x L2, L = L1 ++ x :: L2 → x.st = 1 → (∀ y ∈ L1, y.st ≠ 1) → goAt A = some (liveA 0 L1).length) := by
  constructor
  · intro h
    have h2 : ∀ x ∈ L, (x.st == 1) = false := (idxI_none _ _ 0 (Int.le_refl 0)).1 (by omega)
    refine goAt_none fun k hk => ?_
    have hm : gt A.list (k : Int) ∈ A.list := gt_mem (by omega) (by omega)
    rw [I.lst] at hm
    obtain ⟨y, y1, y2, y3, y4, y5⟩ := liveA_mem hm
    rw [← I.lst] at y5
    simp only [isGo, y5, h2 y y1, Bool.false_and]
  · rintro L1 x L2 rfl hx hn
    obtain ⟨g1, g2, _⟩ := I.go (v := 2) (by omega) (by omega) hi
    have hc := I.can hi
    refine goAt_some g1 (fun k hk => ?_) ?_
    · have hm : gt A.list (k : Int) ∈ liveA 0 L1 := by
        have e : A.list = liveA 0 L1 ++ liveA (0 + L1.length) (x :: L2) := by rw [I.lst, liveA_app]
        rw [gt_nat (by omega)]
        simp only [e]
        rw [List.getElem_append_left hk]; exact List.getElem_mem hk
      obtain ⟨y, y1, y2, y3, y4, y5⟩ := liveA_mem hm
      have : (y.st == 1) = false := beq_eq_false_iff_ne.2 (hn y y1)
      simp only [isGo, y5, this, Bool.false_and]
    · have := hc _ g1
      simp only [isGo, this, Bool.and_true]
      rw [g2]; simp [hx]
theorem off {L1 L2 : List Rg} {x : Rg} (I : AInv n i A (L1 ++ x :: L2)) (hi : i < 1000) :
    offB A x.han = (x.st == 0) ∧ AInv n (i + 1) (offA A x.han) (L1 ++ (if x.st = 0 then ⟨x.node, 3, x.han⟩ else x) :: L2) := by
  have h4 := (afsOk_iff.1 I.ok).2.2.2
  by_cases hx : x.st < 2
  · obtain ⟨g1, g2, g3⟩ := I.go (v := 3) hx (by omega) hi
    have hat : afsAt A.list x.han = ((liveA 0 L1).length : Nat) := by
      have := afsAt_here g1
      rw [g2] at this
      dsimp only at this
      have h5 : idxI (fun y : Afr => y.han == x.han) (A.list.take (liveA 0 L1).length) 0 < 0 := by
        rw [idxI_none _ _ 0 (Int.le_refl 0)]
        intro y hy
        obtain ⟨j, hj, rfl⟩ := List.mem_take_iff_getElem.1 hy
        have := List.pairwise_iff_getElem.1 h4 j (liveA 0 L1).length (by omega) g1 (by omega)
        rw [← gt_nat g1, g2] at this
        simpa using this
      rw [decide_eq_true h5] at this
      simpa using this
    have hb : offB A x.han = (x.st == 0) := by
      simp only [offB, hat, g2]
      have h0 := I.st x (by simp)
      have : decide (0 ≤ (((liveA 0 L1).length : Nat) : Int)) = true := decide_eq_true (by omega)
      rw [this, Bool.true_and]
      by_cases e : x.st = 0
      · simp [e]
      · have : x.st = 1 := by omega
        simp [this]
    refine ⟨hb, ?_⟩
    unfold offA
    rw [hb]
    by_cases e : x.st = 0
    · rw [if_pos (by simp [e]), if_pos e, hat, Int.toNat_natCast]; exact g3
    · rw [if_neg (by simp [e]), if_neg e]; exact I.mono
  · obtain ⟨d1, d2⟩ := I.dead x (by simp) (by omega)
    have hat : afsAt A.list x.han < 0 := by
      unfold afsAt
      rw [idxI_none _ _ 0 (Int.le_refl 0)]
      intro y hy
      have hh := ((afsOk_iff.1 I.ok).2.2.1 y hy).2
      simp only [sltHolds, Bool.and_eq_true, beq_iff_eq] at hh
      simp only [beq_eq_false_iff_ne]
      intro e
      rw [e] at hh
      omega
    have hb : offB A x.han = false := by simp only [offB]; rw [decide_eq_false (by omega), Bool.false_and]
    have e : ¬ x.st = 0 := by omega
    refine ⟨by rw [hb]; exact (beq_eq_false_iff_ne.2 e).symm, ?_⟩
    unfold offA
    rw [hb, if_neg (by decide), if_neg e]; exact I.mono
end AInv
end Go.AE
end

section
/- Worlds that a law plays with: what a request hands back is made immutable. -/
namespace Go.AE
theorem PC.up {P : Program} {f : FuncId} {args args' : List AV} {r : AV} (hc : PC P f args' r) (hu : NVs args args') : PC P f args r := fun h nx Q hQ =>
  ⟨(hc h nx Q hQ).1, fun ρ I w vs h1 h2 h3 => (hc h nx Q hQ).2 ρ I w vs h1 h2 ⟨by rw [h3.1, hu.len], fun i x u hx hv => by
    have hi : i < args.length := by rw [← hu.len]; exact (List.getElem?_eq_some_iff.1 hx).1
    exact (hu.get i _ x (List.getElem?_eq_getElem hi) hx).vr (h3.2 i _ u (List.getElem?_eq_getElem hi) hv)⟩⟩
theorem cl_ints {l : List AV} (h : ∀ c ∈ l, ∃ k n, c = .int k n) : ∀ c ∈ l, Cl c := fun c hc => by obtain ⟨k, n, rfl⟩ := h c hc; exact .int _ _
theorem wldV_cl (w : Wld) : Cl (.agg (wldV (fun _ => true) w)) := .agg _ fun c hc => by
  have h5 : ∀ {α : Type} (f : α → List AV) (x : α), (∀ c ∈ f x, ∃ k n, c = .int k n) → ∀ c ∈ f x, Cl c := fun f x h => cl_ints h
  simp only [wldV, List.mem_cons, List.mem_append, List.not_mem_nil, or_false] at hc
  repeat' rcases hc with rfl | hc
  all_goals first
  | exact .int _ _
  | exact cl_vmap fun x c hc => by simp [nodC, evtC, twgC, tskC, sgtC, iv, bv, tmrC, afrC] at hc; rcases hc with rfl | rfl | rfl | rfl | rfl | rfl | rfl | rfl | rfl <;> first | exact .int _ _ | exact .bool _
  | exact cl_vmap fun x c hc => by simp [nodC, evtC, twgC, tskC, sgtC, iv, bv, tmrC, afrC] at hc; rcases hc with rfl | rfl | rfl | rfl | rfl <;> first | exact .int _ _ | exact .bool _
  | exact cl_vmap fun x c hc => by simp [nodC, evtC, twgC, tskC, sgtC, iv, bv, tmrC, afrC] at hc; rcases hc with rfl | rfl | rfl | rfl <;> first | exact .int _ _ | exact .bool _
  | exact cl_vmap fun x c hc => by simp [nodC, evtC, twgC, tskC, sgtC, iv, bv, tmrC, afrC] at hc; rcases hc with rfl | rfl | rfl <;> first | exact .int _ _ | exact .bool _
  | exact cl_vmap fun x c hc => by simp [nodC, evtC, twgC, tskC, sgtC, iv, bv, tmrC, afrC] at hc; subst hc; first | exact .int _ _ | exact .bool _
  | exact cl_vmap fun x c hc => by simp [prgV] at hc; subst hc; exact cl_vmap fun x c hc => by simp [innC] at hc; rcases hc with rfl | rfl | rfl <;> exact .int _ _
  | exact cl_vmap fun x c hc => by simp [grpV] at hc; rcases hc with rfl | rfl | rfl | rfl | rfl <;> first | exact .int _ _ | exact cl_vmap fun x c hc => by simp [iv] at hc; subst hc; exact .int _ _
def resH (nx : Nat) (h : Heap) : Heap := fun j => if nx ≤ j then h j else none
theorem resH_at {nx j : Nat} {h : Heap} (hn : nx ≤ j) : resH nx h j = h j := if_pos hn
theorem PdQ.of {r r' : AV} {h h' : Heap} {nx nx' : Nat} (hf : Fro (resH nx h') r r') (K : KeepB nx h' h) : PdQ r' h nx r h' nx' := by
  refine ⟨resH nx h', fun id e he => ?_, hf, K⟩
  unfold resH at he
  split at he
  · rename_i hn; exact ⟨he, hn⟩
  · cases he
def errI (t : List Nod) (l : List Evt) (n : Int) : Int := if (eventsOk t l && isIn n t) = true then (match firstOf t l n with | some e => e.err | none => 0) else 0
def newW : Wld := ⟨0, [], [⟨0, -1, 9223372036854775807, 0, 0⟩], [], ⟨[false], []⟩, ⟨[], [], 0⟩, ⟨⟨[0, 0], [false, false]⟩, []⟩, [], [], [], [], []⟩
def pd0 (a : Int) : Wld := tickW newW a
def pdX (a due : Int) : Wld := mkNodeW (pd0 a) 2 0 due 0
def pdS (x : Wld) : Wld := ringW (tickW x 1)
def pdC (a due : Int) (t : Int) (x : Wld) : Bool :=
  (if due ≤ a then errI x.tree x.events 1 == 2 else (errI x.tree x.events 1 == 2) == decide (due ≤ t)) && tickB x 1 && ((tickW x 1).now == t + 1) && (errI (tickW x 1).tree (tickW x 1).events 1 == errI x.tree x.events 1) && (ringB (tickW x 1) == (decide (a < due) && decide (t + 1 = due)))
def pdW (x : Wld) : Bool := decide (wldsz x ≤ 1048576) && decide (-1000 ≤ x.now) && decide (x.now ≤ 1000)
def pdA (a due : Int) : Nat → Int → Wld → Bool
  | 0, _, x => (x.events.length == 1) && (x.timers.list.length == 0)
  | n + 1, t, x => pdC a due t x && pdW x && pdW (tickW x 1) && pdA a due n (t + 1) (pdS x)
def pdOk (a due : Nat) : Bool := (pd0 a).now == a && tickB newW a && pdW (pd0 a) && mkNodeI (pd0 a) 2 0 due 0 == 1 && pdA a due (15 - a) a (pdX a due)
theorem pd_all : ((List.range 9).all fun a => (List.range 12).all fun d => pdOk a d) = true := by decide +kernel
theorem pd_ok {a due : Nat} (h1 : a < 9) (h2 : due < 12) : pdOk a due = true := by
  have := List.all_eq_true.1 pd_all a (List.mem_range.2 h1)
  exact List.all_eq_true.1 this due (List.mem_range.2 h2)
end Go.AE
end
