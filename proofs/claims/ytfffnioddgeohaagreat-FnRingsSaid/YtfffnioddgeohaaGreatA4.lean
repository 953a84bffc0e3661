/- An abstract machine over the model: its states, its steps, and that what it shows holds of the model. -/
import Derived.Test.YtfffnioddgeohaaGreatA3
set_option linter.unusedVariables false
set_option linter.unusedSimpArgs false
set_option linter.deprecated false
section
/- Abstract machine: rows of a world are laid anew, under new names. -/
namespace Go.AE
theorem WI.setTop_nd {X : WI} {i id : Nat} (nd : X.ids.Nodup) (hn : id ∉ X.ids) : (X.setTop i id).ids.Nodup := by
  obtain ⟨n1, n2, n3⟩ := List.nodup_append.1 nd
  have tne : ∀ k, k < 15 → X.top k ≠ id := fun k hk e => hn (e ▸ WI.top_mem hk)
  have inj : ∀ a b, a < 15 → b < 15 → X.top a = X.top b → a = b := fun a b ha hb e => by
    rw [List.Nodup, List.pairwise_map] at n1
    by_cases hab : a = b
    · exact hab
    · have hp := (List.pairwise_iff_getElem.1 n1)
      rcases Nat.lt_or_ge a b with q | q
      · have := hp a b (by simpa using ha) (by simpa using hb) q
        simp at this; exact absurd e this
      · have := hp b a (by simpa using hb) (by simpa using ha) (by omega)
        simp at this; exact absurd e.symm this
  refine List.nodup_append.2 ⟨?_, n2, fun a ha b hb => ?_⟩
  · refine List.pairwise_map.2 (List.Pairwise.imp_of_mem ?_ (List.nodup_range (n := 15)))
    intro a b ha hb hab
    have ha := List.mem_range.1 ha
    have hb := List.mem_range.1 hb
    show (if a = i then id else X.top a) ≠ (if b = i then id else X.top b)
    by_cases e1 : a = i
    · rw [if_pos e1, if_neg (fun e => hab (e1.trans e.symm))]
      exact fun e => tne b hb e.symm
    · rw [if_neg e1]
      by_cases e2 : b = i
      · rw [if_pos e2]; exact tne a ha
      · rw [if_neg e2]; exact fun e => hab (inj a b ha hb e)
  · obtain ⟨k, hk, rfl⟩ := List.mem_map.1 ha
    have hk := List.mem_range.1 hk
    show (if k = i then id else X.top k) ≠ b
    by_cases e1 : k = i
    · rw [if_pos e1]; rintro rfl
      exact hn (by simp only [WI.ids, List.mem_append] at hb ⊢; exact .inr hb)
    · rw [if_neg e1]
      exact n3 _ (List.mem_map.2 ⟨k, List.mem_range.2 hk, rfl⟩) b hb
theorem WV.lay {h h' : Heap} {X X' : WI} {w w' : Wld} (v : WV h X w) (hpg : X'.pg = X.pg) (hgr : X'.gr = X.gr) (hnd : X'.ids.Nodup) (hr : ∀ k, k < 15 → h' (X'.top k) = some (wRow X w' k)) (hp : w'.progs = w.progs) (hg : w'.groups = w.groups)
    (hf : ∀ j, j ∈ X.pg ∨ j ∈ X.gr → h' j = h j) : WV h' X' w' where
  top k hk := by
    have : wRow X' w' k = wRow X w' k := by unfold wRow; rw [hpg, hgr]
    rw [this]; exact hr k hk
  pl := by rw [hp, hpg]; exact v.pl
  gl := by rw [hg, hgr]; exact v.gl
  prog j p id h1 h2 := by
    rw [hp] at h1
    rw [hpg] at h2
    rw [hf id (.inl (List.mem_of_getElem? h2))]
    exact v.prog j p id h1 h2
  wait j g id h1 h2 := by
    rw [hg] at h1
    rw [hgr] at h2
    rw [hf id (.inr (List.mem_of_getElem? h2))]
    exact v.wait j g id h1 h2
  nd := hnd
theorem WV.lay2 {h h' : Heap} {X : WI} {w w' : Wld} {i id j jd : Nat} (v : WV h X w) (hi : i < 15) (hj : j < 15) (hij : i ≠ j) (hn : id ∉ X.ids) (hm : jd ∉ X.ids) (hd : id ≠ jd) (hr : h' id = some (wRow X w' i)) (hs : h' jd = some (wRow X w' j))
    (ho : ∀ k, k < 15 → k ≠ i → k ≠ j → wRow X w' k = wRow X w k) (hp : w'.progs = w.progs) (hg : w'.groups = w.groups) (hf : ∀ k ∈ X.ids, k ≠ X.top i → k ≠ X.top j → h' k = h k) : WV h' ((X.setTop i id).setTop j jd) w' := by
  refine v.lay rfl rfl (WI.setTop_nd (WI.setTop_nd v.nd hn) fun q => ?_) (fun k hk => ?_) hp hg (fun k hk => ?_)
  · rcases WI.setTop_ids q with q | q
    · exact hm q
    · exact hd q.symm
  · show h' (if k = j then jd else if k = i then id else X.top k) = _
    by_cases e1 : k = j
    · subst e1; rw [if_pos rfl]; exact hs
    · rw [if_neg e1]
      by_cases e2 : k = i
      · subst e2; rw [if_pos rfl]; exact hr
      · rw [if_neg e2, ho k hk e2 e1, hf _ (WI.top_mem hk) (fun e => e2 (v.top_inj hk hi e)) (fun e => e1 (v.top_inj hk hj e))]
        exact v.top k hk
  · refine hf k ?_ ?_ ?_
    · rcases hk with q | q
      · exact WI.pg_mem q
      · exact WI.gr_mem q
    · rintro rfl
      rcases hk with q | q
      · exact v.top_pg hi q
      · exact v.top_gr hi q
    · rintro rfl
      rcases hk with q | q
      · exact v.top_pg hj q
      · exact v.top_gr hj q
def ChgQ (p : Nat) (X : WI) (w' : Wld) (v : AV) (h : Heap) (nx : Nat) (r : AV) (h' : Heap) (nx' : Nat) : Prop :=
  r = v ∧ (∃ X' : WI, h' p = some (.obj (wldR X' w')) ∧ WV h' X' w' ∧ ∀ id ∈ X'.ids, id ∈ X.ids ∨ nx ≤ id ∧ id < nx') ∧ ∀ j, j < nx → j ≠ p → j ∉ X.ids → h' j = h j
theorem setT_same (w : Wld) : setT w w.timers = w := rfl
end Go.AE
end

section
/- A valid world is small. -/
namespace Go.AE
theorem filter_ne_len {a : Int} : ∀ {l : List Int}, l.Pairwise (· ≠ ·) → l.length ≤ (l.filter (fun x => x != a)).length + 1
  | [], _ => by simp
  | x :: xs, h => by
    rw [List.pairwise_cons] at h
    have ih := filter_ne_len (a := a) h.2
    by_cases e : x = a
    · have : xs.filter (fun x => x != a) = xs := List.filter_eq_self.2 fun y hy => by
        have := h.1 y hy
        simp only [bne_iff_ne]; intro e2; exact this (e.trans e2.symm)
      rw [List.filter_cons_of_neg (by simp [e]), this]; simp
    · rw [List.filter_cons_of_pos (by simp [e])]
      simp only [List.length_cons]; omega
theorem distinct_len : ∀ (n : Nat) (l : List Int), (∀ x ∈ l, 0 ≤ x ∧ x < n) → l.Pairwise (· ≠ ·) → l.length ≤ n
  | 0, [], _, _ => by simp
  | 0, x :: xs, h, _ => by have := h x (by simp); omega
  | n + 1, l, h, hp => by
    have h1 := filter_ne_len (a := (n : Int)) hp
    have h2 := distinct_len n (l.filter (fun x => x != (n : Int))) (fun x hx => by
      simp only [List.mem_filter, bne_iff_ne] at hx
      have := h x hx.1
      have := hx.2
      omega) (List.Pairwise.sublist List.filter_sublist hp)
    omega
theorem chain_self (t : List Nod) (n : Int) : n ∈ chain t n := by
  unfold chain
  cases t.length with
  | zero => simp [chainN]
  | succ k => unfold chainN; split <;> simp
theorem events_len {t : List Nod} {l : List Evt} (h : eventsOk t l = true) : l.length ≤ 60 := by
  have ht := treeOk_len (eventsOk_tree h)
  have : (l.map (·.node)).length ≤ t.length := by
    refine distinct_len _ _ (fun x hx => ?_) ?_
    · obtain ⟨e, he, rfl⟩ := List.mem_map.1 hx
      obtain ⟨i, hi, rfl⟩ := List.getElem_of_mem he
      exact isEvent_in (fits_step (eventsOk_at h i hi)).1
    · rw [List.pairwise_map, List.pairwise_iff_getElem]
      intro i j hi hj hij e
      have := (fits_step (eventsOk_at h j hj)).2.2
      simp only [firstOf, Option.isSome_eq_false_iff, Option.isNone_iff_eq_none, List.find?_eq_none] at this
      refine this l[i] (List.mem_take_iff_getElem.2 ⟨i, by omega, rfl⟩) ?_
      rw [e]; simpa using chain_self t _
  simpa using Nat.le_trans this ht
end Go.AE
end

section
/- The first timer rings: what the request makes of a world, in plain terms. -/
namespace Go.AE
def fireC (t : Tms) (now : Int) : Bool := decide (t.heap.length ≠ 0) && isDue now (gt t.heap 0).due
def fireX (t : Tms) : Tmr := gt t.list (tmsAt t.list (gt t.heap 0).seq)
def fireT (t : Tms) (now : Int) : Tms := if fireC t now = true then stopT t (gt t.heap 0).seq else t
def fireR (t : Tms) (now : Int) : Tmr := if fireC t now = true then fireX t else default
def dropT (t : Tms) (s : Int) : Tms := if 0 ≤ tmsAt t.list s then ⟨t.heap, t.list.eraseIdx (tmsAt t.list s).toNat, t.next⟩ else t
def forgetT (t : Tms) (s : Int) : Tms := dropT (stopT t s) s
def nextK (k : Tsk) (reg : Int) : Tsk := ⟨k.prog, k.pc + 1, 0, 0, 0, -1, reg, k.group, k.err⟩
def readied (k : Tsk) (reg : Int) : Tsk := if tskOk k = true then (if k.state ≠ 2 ∧ tskOk (nextK k reg) = true then nextK k reg else k) else default
def mkW2 (w : Wld) (t : Tms) (k : List Tsk) (r : List Int) : Wld := ⟨w.now, w.progs, w.tree, w.events, w.spread, t, w.afters, k, w.groups, w.sights, w.began, r⟩
def ringEv (w : Wld) (x : Tmr) : Evt := ⟨x.whom, 2, 0, w.now⟩
def wakes (w : Wld) (x : Tmr) : Bool := (gt w.tasks x.whom).why == 2 && (gt w.tasks x.whom).timer == x.seq
def drainW (w : Wld) : Wld :=
  if fireC w.timers w.now = true then
    (if (fireX w.timers).what = 0 then cutW (setT w (forgetT (fireT w.timers w.now) (fireX w.timers).seq)) (ringEv w (fireX w.timers))
     else if (fireX w.timers).what = 1 then mkW2 w (forgetT (fireT w.timers w.now) (fireX w.timers).seq) (if wakes w (fireX w.timers) = true then w.tasks.set (fireX w.timers).whom.toNat (readied (gt w.tasks (fireX w.timers).whom) 1) else w.tasks) w.rang
     else mkW2 w (fireT w.timers w.now) w.tasks (if (fireX w.timers).what = 2 ∧ w.rang.length < 2000 then w.rang ++ [(fireX w.timers).whom] else w.rang))
  else w
def drainB (w : Wld) : Bool := fireC w.timers w.now
def ringW (w : Wld) : Wld := askW w (drainW w) (drainB w)
def ringB (w : Wld) : Bool := askB w (drainW w) (drainB w)
section
variable {t : Tms} {now : Int}
theorem fire_at (h : tmsOk t = true) (hl : t.heap.length ≠ 0) : 0 ≤ tmsAt t.list (gt t.heap 0).seq ∧ stopB t (gt t.heap 0).seq = true ∧ (fireX t).seq = (gt t.heap 0).seq := by
  obtain ⟨-, -, -, -, -, h8⟩ := tmsOk_iff.1 h
  have hm : gt t.heap 0 ∈ t.heap := gt_mem (Int.le_refl 0) (by omega)
  have := h8 (ky (gt t.heap 0)) (List.mem_map.2 ⟨_, hm, rfl⟩)
  have h1 : 0 ≤ tmsAt t.list (gt t.heap 0).seq := this.1
  have h2 : (gt t.list (tmsAt t.list (gt t.heap 0).seq)).armed = true := this.2.1
  exact ⟨h1, by simp [stopB, h1, h2], tmsAt_seq h1⟩
theorem fireT_ok (h : tmsOk t = true) : tmsOk (fireT t now) = true := by
  unfold fireT; split
  · exact (tmsOk_stop h).1
  · exact h
end
theorem tmr_one (x : Tmr) : ∀ y ∈ tmrC x, y.one = true := fun y hy => by simp [tmrC] at hy; rcases hy with rfl | rfl | rfl | rfl | rfl <;> rfl
@[simp] theorem tmr_take_one {l : List Tmr} {i : Nat} : (∀ x, x ∈ List.take i (List.map tmrC l) → ∀ y, y ∈ x → y.one = true) = True := by
  simp only [eq_iff_iff, iff_true]
  intro x hx y hy
  obtain ⟨z, _, rfl⟩ := List.mem_map.1 (List.mem_of_mem_take hx)
  exact tmr_one z y hy
end Go.AE
end

section
/- A step of propagation: what the request makes of a world, in plain terms. -/
namespace Go.AE
@[simp] theorem iv_tail_one {l : List Int} : (∀ x, x ∈ (List.map iv l).tail → ∀ y, y ∈ x → y.one = true) = True := by
  simp only [eq_iff_iff, iff_true]
  intro x hx y hy
  obtain ⟨z, _, rfl⟩ := List.mem_map.1 (List.mem_of_mem_tail hx)
  simp [iv] at hy; subst hy; rfl
end Go.AE
end

section
/- Functions that are registered, queued, started and called off: what a law asks of them, in plain terms. -/
namespace Go.AE
def newMk (id : Nat) (l c : AV) : Option TyD → Option (AV × Ent)
  | some de => match l, c with
    | .int _ n, .int _ m => if 0 < de.size ∧ de.bytes ≤ 128 ∧ n = m ∧ 0 ≤ n ∧ n ≤ MLIM then some (.ref id de.size 0 n.toNat, .row de.size (List.replicate n.toNat de.zero)) else none
    | _, _ => none
  | none => none
@[simp] theorem newA_mk {C : Ctx} (id ev t l c) : newA C id ev (.makeSlice t l c) = newMk id (ev l) (ev c) (elemOf C t) := by
  simp only [newA, elemOf]
  cases ((C.ty t).bind (·.elem)).bind C.ty <;> simp only [newMk] <;> cases ev l <;> cases ev c <;> rfl
@[simp] theorem newMk_some (id k k' n m e) : newMk id (.int k n) (.int k' m) (some e) = if 0 < e.size ∧ e.bytes ≤ 128 ∧ n = m ∧ 0 ≤ n ∧ n ≤ MLIM then some (.ref id e.size 0 n.toNat, .row e.size (List.replicate n.toNat e.zero)) else none := rfl
theorem fros_same {h : Heap} : ∀ (l : List AV), Fros h l l
  | [] => .nil
  | x :: l => .cons (.same _) (fros_same l)
def freeAt (s : Slt) (i : Nat) : Bool := !gt s.used (i : Int) && gt s.ages (i : Int) != 1000000
def takeAt (s : Slt) : Option Nat := (List.range s.ages.length).findIdx? (freeAt s)
def takeS (s : Slt) (i : Nat) : Slt := ⟨s.ages, s.used.set i true⟩
theorem holds_take (s : Slt) (i : Nat) (x : Han) : sltHolds (takeS s i) x = (isIn x.slot s.ages && (gt (s.used.set i true) x.slot && gt s.ages x.slot == x.age)) := rfl
theorem takeAt_of {s : Slt} {i : Nat} (h : takeAt s = some i) : i < s.ages.length ∧ freeAt s i = true := by
  unfold takeAt at h
  rw [List.findIdx?_eq_some_iff_getElem] at h
  obtain ⟨h1, h2, _⟩ := h
  exact ⟨by simpa using h1, by simpa using h2⟩
def takeH (s : Slt) (i : Nat) : Han := ⟨i, gt s.ages (i : Int)⟩
def regA (a : Afs) (node fn : Int) : Afs := match takeAt a.slots with
  | some i => ⟨takeS a.slots i, a.list ++ [⟨takeH a.slots i, node, fn, false⟩]⟩
  | none => a
theorem afsOk_reg {a : Afs} {i : Nat} {node fn : Int} (h : afsOk a = true) (hi : takeAt a.slots = some i) (hf : isAfter node fn = true) : afsOk ⟨takeS a.slots i, a.list ++ [⟨takeH a.slots i, node, fn, false⟩]⟩ = true := by
  obtain ⟨f1, f2, f3⟩ := afs_facts h
  obtain ⟨t1, t2⟩ := takeAt_of hi
  simp only [freeAt, Bool.and_eq_true, Bool.not_eq_true', bne_iff_ne] at t2
  rw [afsOk_iff] at h ⊢
  obtain ⟨h1, h2, h3, h4⟩ := h
  have n2 : i < a.slots.used.length := by omega
  have hu : a.slots.used[i] = false := by rw [← gt_nat n2]; exact t2.1
  have hg : ∀ z : Int, 0 ≤ z → z < a.slots.ages.length → gt (a.slots.used.set i true) z = (gt a.slots.used z || decide (z.toNat = i)) := fun z z0 z1 => by
    have p1 := gt_some (xs := a.slots.used.set i true) z0 (by simp; omega)
    have p2 := gt_some (xs := a.slots.used) z0 (by omega)
    rw [List.getElem?_set] at p1
    by_cases e : i = z.toNat
    · rw [if_pos e, if_pos (by omega)] at p1
      rw [← Option.some.inj p1]; simp [e]
    · rw [if_neg e, p2] at p1
      rw [← Option.some.inj p1]; simp [show ¬ z.toNat = i by omega]
  refine ⟨?_, ?_, fun x hx => ?_, ?_⟩
  · simp only [sltOk, takeS, Bool.and_eq_true, List.length_set] at h1 ⊢; exact h1
  · have e2 : (a.slots.used.set i true).countP id = a.slots.used.countP id + 1 := by
      rw [List.countP_set n2]; simp [hu]
    simp only [takeS, cntB, e2, List.length_append, List.length_cons, List.length_nil] at h2 ⊢
    omega
  · rcases List.mem_append.1 hx with q | q
    · refine ⟨(h3 x q).1, ?_⟩
      have hd := (h3 x q).2
      rw [holds_take]
      simp only [sltHolds, Bool.and_eq_true, isIn, inR, decide_eq_true_eq, beq_iff_eq] at hd ⊢
      obtain ⟨⟨d1, d2⟩, d3, d4⟩ := hd
      refine ⟨⟨d1, d2⟩, ?_, d4⟩
      rw [hg _ d1 (by omega), d3]; rfl
    · obtain rfl := List.mem_singleton.1 q
      refine ⟨hf, ?_⟩
      dsimp only [takeH]
      rw [holds_take]
      simp only [Bool.and_eq_true, isIn, inR, decide_eq_true_eq, beq_iff_eq]
      refine ⟨⟨by omega, by omega⟩, ?_, trivial⟩
      rw [hg _ (by omega) (by omega)]; simp
  · rw [List.pairwise_append]
    refine ⟨h4, List.pairwise_singleton .., fun x hx y hy => ?_⟩
    obtain rfl := List.mem_singleton.1 hy
    intro e
    have hd := (h3 x hx).2
    simp only [sltHolds, Bool.and_eq_true] at hd
    rw [e] at hd
    simp only [takeH] at hd
    rw [t2.1] at hd
    exact absurd hd.2.1 (by decide)
def offB (a : Afs) (h : Han) : Bool := decide (0 ≤ afsAt a.list h) && !(gt a.list (afsAt a.list h)).queued
def offA (a : Afs) (h : Han) : Afs := if offB a h = true then goA a (afsAt a.list h).toNat else a
structure Rg where
  node : Int
  st : Int
  han : Han
deriving DecidableEq, Inhabited
def liveA : Int → List Rg → List Afr
  | _, [] => []
  | c, x :: r => if x.st < 2 then ⟨x.han, x.node, c, x.st == 1⟩ :: liveA (c + 1) r else liveA (c + 1) r
theorem liveA_app : ∀ (c : Int) (l r : List Rg), liveA c (l ++ r) = liveA c l ++ liveA (c + l.length) r
  | c, [], r => by simp [liveA]
  | c, x :: l, r => by
    simp only [List.cons_append, liveA, List.length_cons]
    rw [liveA_app (c + 1) l r, show c + 1 + (l.length : Int) = c + ((l.length + 1 : Nat) : Int) by omega]
    split <;> simp
theorem liveA_mem : ∀ {c : Int} {l : List Rg} {y : Afr}, y ∈ liveA c l → ∃ x ∈ l, x.st < 2 ∧ y.han = x.han ∧ y.node = x.node ∧ y.queued = (x.st == 1)
  | c, x :: l, y, h => by
    simp only [liveA] at h
    split at h
    · rename_i hx
      rcases List.mem_cons.1 h with rfl | q
      · exact ⟨x, by simp, hx, rfl, rfl, rfl⟩
      · obtain ⟨z, z1, z2⟩ := liveA_mem q; exact ⟨z, by simp [z1], z2⟩
    · obtain ⟨z, z1, z2⟩ := liveA_mem h; exact ⟨z, by simp [z1], z2⟩
structure AInv (n i : Nat) (A : Afs) (L : List Rg) : Prop where
  ok : afsOk A = true
  nl : A.slots.ages.length = n
  len : L.length ≤ i
  lst : A.list = liveA 0 L
  age : ∀ x ∈ A.slots.ages, x ≤ i
  st : ∀ x ∈ L, 0 ≤ x.st
  dead : ∀ x ∈ L, 2 ≤ x.st → isIn x.han.slot A.slots.ages = true ∧ x.han.age < gt A.slots.ages x.han.slot
namespace AInv
variable {n i : Nat} {A : Afs} {L : List Rg}
theorem mono (I : AInv n i A L) : AInv n (i + 1) A L := ⟨I.ok, I.nl, by have := I.len; omega, I.lst, fun x hx => by have := I.age x hx; omega, I.st, I.dead⟩
theorem can (I : AInv n i A L) (hi : i < 1000) : ∀ k : Nat, k < A.list.length → canDrop A.slots (gt A.list (k : Int)).han = true := fun k hk => by
  have hh := afs_held I.ok k hk
  have h0 := hh
  simp only [sltHolds, Bool.and_eq_true, isIn, inR, decide_eq_true_eq, beq_iff_eq] at hh
  have := I.age _ (gt_mem (xs := A.slots.ages) (z := (gt A.list (k : Int)).han.slot) (by omega) (by omega))
  simp only [canDrop, h0, Bool.true_and, bne_iff_ne]
  omega
theorem go {L1 L2 : List Rg} {x : Rg} {v : Int} (I : AInv n i A (L1 ++ x :: L2)) (hx : x.st < 2) (hv : 2 ≤ v) (hi : i < 1000) :
    (liveA 0 L1).length < A.list.length ∧ gt A.list ((liveA 0 L1).length : Nat) = ⟨x.han, x.node, L1.length, x.st == 1⟩ ∧ AInv n (i + 1) (goA A (liveA 0 L1).length) (L1 ++ ⟨x.node, v, x.han⟩ :: L2) := by
  have hl : A.list = liveA 0 L1 ++ ⟨x.han, x.node, L1.length, x.st == 1⟩ :: liveA (L1.length + 1) L2 := by
    rw [I.lst, liveA_app]; simp [liveA, hx]
  have hk : (liveA 0 L1).length < A.list.length := by rw [hl]; simp
  have hg : gt A.list ((liveA 0 L1).length : Nat) = ⟨x.han, x.node, L1.length, x.st == 1⟩ := by
    rw [gt_nat hk]; simp [hl]
  refine ⟨hk, hg, ?_⟩
  have hc := I.can hi _ hk
  have hok := afsOk_go I.ok hk hc
  have hh := afs_held I.ok _ hk
  simp only [sltHolds, Bool.and_eq_true, isIn, inR, decide_eq_true_eq, beq_iff_eq] at hh
  rw [hg] at hh
  dsimp only at hh
  obtain ⟨⟨c1, c2⟩, c3, c4⟩ := hh
  have ha := I.age _ (gt_mem (xs := A.slots.ages) (z := x.han.slot) (by omega) (by omega))
  have e0 : (goA A (liveA 0 L1).length).slots.ages = A.slots.ages.set x.han.slot.toNat (x.han.age + 1) := by simp only [goA, hg, dropS]
  have hset : ∀ z : Int, 0 ≤ z → z < A.slots.ages.length → gt (A.slots.ages.set x.han.slot.toNat (x.han.age + 1)) z = if z = x.han.slot then x.han.age + 1 else gt A.slots.ages z := fun z z0 z1 => by
    have p1 := gt_some (xs := A.slots.ages.set x.han.slot.toNat (x.han.age + 1)) z0 (by simp; omega)
    have p2 := gt_some (xs := A.slots.ages) z0 (by omega)
    rw [List.getElem?_set] at p1
    by_cases e : x.han.slot.toNat = z.toNat
    · rw [if_pos e, if_pos (by omega)] at p1
      rw [← Option.some.inj p1, if_pos (by omega)]
    · rw [if_neg e, p2] at p1
      rw [← Option.some.inj p1, if_neg (fun h => e (by rw [h]))]
  refine ⟨hok, ?_, ?_, ?_, fun y hy => ?_, fun y hy => ?_, fun y hy h2 => ?_⟩
  · rw [e0, List.length_set]; exact I.nl
  · have := I.len; simp only [List.length_append, List.length_cons] at this ⊢; omega
  · simp only [goA]
    rw [hl, List.eraseIdx_append_of_length_le (Nat.le_refl _), liveA_app]
    have : ¬ v < 2 := by omega
    simp [liveA, this]
  · rw [e0] at hy
    rcases List.mem_or_eq_of_mem_set hy with q | q
    · have := I.age y q; omega
    · omega
  · rcases List.mem_append.1 hy with q | q
    · exact I.st y (by simp [q])
    · rcases List.mem_cons.1 q with rfl | q
      · show 0 ≤ v; omega
      · exact I.st y (by simp [q])
  · rw [e0]
    have key : ∀ z ∈ L1 ++ x :: L2, 2 ≤ z.st → isIn z.han.slot (A.slots.ages.set x.han.slot.toNat (x.han.age + 1)) = true ∧ z.han.age < gt (A.slots.ages.set x.han.slot.toNat (x.han.age + 1)) z.han.slot := fun z hz hz2 => by
      obtain ⟨d1, d2⟩ := I.dead z hz hz2
      have d3 := d1
      simp only [isIn, inR, Bool.and_eq_true, decide_eq_true_eq, List.length_set] at d1 ⊢
      refine ⟨d1, ?_⟩
      rw [hset _ d1.1 (by omega)]
      split
      · rename_i e; rw [e] at d2; omega
      · exact d2
    rcases List.mem_append.1 hy with q | q
    · exact key y (by simp [q]) h2
    · rcases List.mem_cons.1 q with rfl | q
      · dsimp only
        simp only [isIn, inR, Bool.and_eq_true, decide_eq_true_eq, List.length_set]
        refine ⟨⟨c1, c2⟩, ?_⟩
        rw [hset _ c1 (by omega), if_pos rfl]; omega
      · exact key y (by simp [q]) h2
theorem reg {k : Nat} {m : Int} (I : AInv n i A L) (hi : i < 99) (hk : takeAt A.slots = some k) (h0 : 0 ≤ m) (h1 : m ≤ 2) :
    regA A m L.length = ⟨takeS A.slots k, A.list ++ [⟨takeH A.slots k, m, L.length, false⟩]⟩ ∧ AInv n (i + 1) (regA A m L.length) (L ++ [⟨m, 0, takeH A.slots k⟩]) := by
  have e : regA A m L.length = ⟨takeS A.slots k, A.list ++ [⟨takeH A.slots k, m, L.length, false⟩]⟩ := by simp [regA, hk]
  have hl := I.len
  refine ⟨e, ?_⟩
  rw [e]
  refine ⟨afsOk_reg I.ok hk (by simp [isAfter, inR]; omega), I.nl, by simp; omega, ?_, fun x hx => by have := I.age x hx; omega, fun x hx => ?_, fun x hx h2 => ?_⟩
  · rw [liveA_app, ← I.lst]; simp [liveA]
  · rcases List.mem_append.1 hx with q | q
    · exact I.st x q
    · obtain rfl := List.mem_singleton.1 q; exact Int.le_refl 0
  · rcases List.mem_append.1 hx with q | q
    · exact I.dead x q h2
    · obtain rfl := List.mem_singleton.1 q; exact absurd (show (2 : Int) ≤ 0 from h2) (by decide)
theorem started (I : AInv n i A L) (hi : i < 1000) :
    (idxI (fun x : Rg => x.st == 1) L 0 = -1 → goAt A = none) ∧
    (∀ L1 x L2, L = L1 ++ x :: L2 → x.st = 1 → (∀ y ∈ L1, y.st ≠ 1) → goAt A = some (liveA 0 L1).length) := by
  constructor
  · intro h
    have h2 : ∀ x ∈ L, (x.st == 1) = false := (idxI_none _ _ 0 (Int.le_refl 0)).1 (by omega)
    refine goAt_none fun k hk => ?_
    have hm : gt A.list (k : Int) ∈ A.list := gt_mem (by omega) (by omega)
    rw [I.lst] at hm
    obtain ⟨y, y1, y2, y3, y4, y5⟩ := liveA_mem hm
    rw [← I.lst] at y5
    simp only [isGo, y5, h2 y y1, Bool.false_and]
  · rintro L1 x L2 rfl hx hn
    obtain ⟨g1, g2, _⟩ := I.go (v := 2) (by omega) (by omega) hi
    have hc := I.can hi
    refine goAt_some g1 (fun k hk => ?_) ?_
    · have hm : gt A.list (k : Int) ∈ liveA 0 L1 := by
        have e : A.list = liveA 0 L1 ++ liveA (0 + L1.length) (x :: L2) := by rw [I.lst, liveA_app]
        rw [gt_nat (by omega)]
        simp only [e]
        rw [List.getElem_append_left hk]; exact List.getElem_mem hk
      obtain ⟨y, y1, y2, y3, y4, y5⟩ := liveA_mem hm
      have : (y.st == 1) = false := beq_eq_false_iff_ne.2 (hn y y1)
      simp only [isGo, y5, this, Bool.false_and]
    · have := hc _ g1
      simp only [isGo, this, Bool.and_true]
      rw [g2]; simp [hx]
theorem off {L1 L2 : List Rg} {x : Rg} (I : AInv n i A (L1 ++ x :: L2)) (hi : i < 1000) :
    offB A x.han = (x.st == 0) ∧ AInv n (i + 1) (offA A x.han) (L1 ++ (if x.st = 0 then ⟨x.node, 3, x.han⟩ else x) :: L2) := by
  have h4 := (afsOk_iff.1 I.ok).2.2.2
  by_cases hx : x.st < 2
  · obtain ⟨g1, g2, g3⟩ := I.go (v := 3) hx (by omega) hi
    have hat : afsAt A.list x.han = ((liveA 0 L1).length : Nat) := by
      have := afsAt_here g1
      rw [g2] at this
      dsimp only at this
      have h5 : idxI (fun y : Afr => y.han == x.han) (A.list.take (liveA 0 L1).length) 0 < 0 := by
        rw [idxI_none _ _ 0 (Int.le_refl 0)]
        intro y hy
        obtain ⟨j, hj, rfl⟩ := List.mem_take_iff_getElem.1 hy
        have := List.pairwise_iff_getElem.1 h4 j (liveA 0 L1).length (by omega) g1 (by omega)
        rw [← gt_nat g1, g2] at this
        simpa using this
      rw [decide_eq_true h5] at this
      simpa using this
    have hb : offB A x.han = (x.st == 0) := by
      simp only [offB, hat, g2]
      have h0 := I.st x (by simp)
      have : decide (0 ≤ (((liveA 0 L1).length : Nat) : Int)) = true := decide_eq_true (by omega)
      rw [this, Bool.true_and]
      by_cases e : x.st = 0
      · simp [e]
      · have : x.st = 1 := by omega
        simp [this]
    refine ⟨hb, ?_⟩
    unfold offA
    rw [hb]
    by_cases e : x.st = 0
    · rw [if_pos (by simp [e]), if_pos e, hat, Int.toNat_natCast]; exact g3
    · rw [if_neg (by simp [e]), if_neg e]; exact I.mono
  · obtain ⟨d1, d2⟩ := I.dead x (by simp) (by omega)
    have hat : afsAt A.list x.han < 0 := by
      unfold afsAt
      rw [idxI_none _ _ 0 (Int.le_refl 0)]
      intro y hy
      have hh := ((afsOk_iff.1 I.ok).2.2.1 y hy).2
      simp only [sltHolds, Bool.and_eq_true, beq_iff_eq] at hh
      simp only [beq_eq_false_iff_ne]
      intro e
      rw [e] at hh
      omega
    have hb : offB A x.han = false := by simp only [offB]; rw [decide_eq_false (by omega), Bool.false_and]
    have e : ¬ x.st = 0 := by omega
    refine ⟨by rw [hb]; exact (beq_eq_false_iff_ne.2 e).symm, ?_⟩
    unfold offA
    rw [hb, if_neg (by decide), if_neg e]; exact I.mono
end AInv
end Go.AE
end

section
/- Worlds that a law plays with: what a request hands back is made immutable. -/
namespace Go.AE
theorem PC.up {P : Program} {f : FuncId} {args args' : List AV} {r : AV} (hc : PC P f args' r) (hu : NVs args args') : PC P f args r := fun h nx Q hQ =>
  ⟨(hc h nx Q hQ).1, fun ρ I w vs h1 h2 h3 => (hc h nx Q hQ).2 ρ I w vs h1 h2 ⟨by rw [h3.1, hu.len], fun i x u hx hv => by
    have hi : i < args.length := by rw [← hu.len]; exact (List.getElem?_eq_some_iff.1 hx).1
    exact (hu.get i _ x (List.getElem?_eq_getElem hi) hx).vr (h3.2 i _ u (List.getElem?_eq_getElem hi) hv)⟩⟩
theorem cl_ints {l : List AV} (h : ∀ c ∈ l, ∃ k n, c = .int k n) : ∀ c ∈ l, Cl c := fun c hc => by obtain ⟨k, n, rfl⟩ := h c hc; exact .int _ _
theorem wldV_cl (w : Wld) : Cl (.agg (wldV (fun _ => true) w)) := .agg _ fun c hc => by
  have h5 : ∀ {α : Type} (f : α → List AV) (x : α), (∀ c ∈ f x, ∃ k n, c = .int k n) → ∀ c ∈ f x, Cl c := fun f x h => cl_ints h
  simp only [wldV, List.mem_cons, List.mem_append, List.not_mem_nil, or_false] at hc
  repeat' rcases hc with rfl | hc
  all_goals first
  | exact .int _ _
  | exact cl_vmap fun x c hc => by simp [nodC, evtC, twgC, tskC, sgtC, iv, bv, tmrC, afrC] at hc; rcases hc with rfl | rfl | rfl | rfl | rfl | rfl | rfl | rfl | rfl <;> first | exact .int _ _ | exact .bool _
  | exact cl_vmap fun x c hc => by simp [nodC, evtC, twgC, tskC, sgtC, iv, bv, tmrC, afrC] at hc; rcases hc with rfl | rfl | rfl | rfl | rfl <;> first | exact .int _ _ | exact .bool _
  | exact cl_vmap fun x c hc => by simp [nodC, evtC, twgC, tskC, sgtC, iv, bv, tmrC, afrC] at hc; rcases hc with rfl | rfl | rfl | rfl <;> first | exact .int _ _ | exact .bool _
  | exact cl_vmap fun x c hc => by simp [nodC, evtC, twgC, tskC, sgtC, iv, bv, tmrC, afrC] at hc; rcases hc with rfl | rfl | rfl <;> first | exact .int _ _ | exact .bool _
  | exact cl_vmap fun x c hc => by simp [nodC, evtC, twgC, tskC, sgtC, iv, bv, tmrC, afrC] at hc; subst hc; first | exact .int _ _ | exact .bool _
  | exact cl_vmap fun x c hc => by simp [prgV] at hc; subst hc; exact cl_vmap fun x c hc => by simp [innC] at hc; rcases hc with rfl | rfl | rfl <;> exact .int _ _
  | exact cl_vmap fun x c hc => by simp [grpV] at hc; rcases hc with rfl | rfl | rfl | rfl | rfl <;> first | exact .int _ _ | exact cl_vmap fun x c hc => by simp [iv] at hc; subst hc; exact .int _ _
def resH (nx : Nat) (h : Heap) : Heap := fun j => if nx ≤ j then h j else none
theorem resH_at {nx j : Nat} {h : Heap} (hn : nx ≤ j) : resH nx h j = h j := if_pos hn
theorem PdQ.of {r r' : AV} {h h' : Heap} {nx nx' : Nat} (hf : Fro (resH nx h') r r') (K : KeepB nx h' h) : PdQ r' h nx r h' nx' := by
  refine ⟨resH nx h', fun id e he => ?_, hf, K⟩
  unfold resH at he
  split at he
  · rename_i hn; exact ⟨he, hn⟩
  · cases he
def newW : Wld := ⟨0, [], [⟨0, -1, 9223372036854775807, 0, 0⟩], [], ⟨[false], []⟩, ⟨[], [], 0⟩, ⟨⟨[0, 0], [false, false]⟩, []⟩, [], [], [], [], []⟩
end Go.AE
end

section
/- Plain timers ring in the order of their times: what a law asks, in plain terms. -/
namespace Go.AE
def tmrK (dues R : List Int) (k : Nat) : Tmr := ⟨k, gt dues (k : Int), 2, k, !R.contains (k : Int)⟩
def mkL (dues R : List Int) : List Tmr := (List.range dues.length).map (tmrK dues R)
theorem mkL_len (dues R : List Int) : (mkL dues R).length = dues.length := by simp [mkL]
theorem mkL_get {dues R : List Int} {k : Nat} (hk : k < dues.length) : (mkL dues R)[k]'(by simpa [mkL] using hk) = tmrK dues R k := by simp [mkL]
theorem mkL_gt {dues R : List Int} {k : Nat} (hk : k < dues.length) : gt (mkL dues R) (k : Int) = tmrK dues R k := by
  rw [gt_nat (by simpa [mkL] using hk)]; exact mkL_get hk
theorem mkL_at {dues R : List Int} (s : Int) : tmsAt (mkL dues R) s = if 0 ≤ s ∧ s < dues.length then s else -1 := by
  unfold tmsAt
  rcases idxI_range (fun x : Tmr => x.seq == s) (mkL dues R) 0 with h | ⟨h1, h2⟩
  · have hn : ∀ x ∈ mkL dues R, (x.seq == s) = false := (idxI_none _ _ 0 (Int.le_refl 0)).1 (by omega)
    rw [h, if_neg]
    rintro ⟨g1, g2⟩
    have := hn (tmrK dues R s.toNat) (List.mem_map.2 ⟨s.toNat, by simp; omega, rfl⟩)
    simp only [tmrK, beq_eq_false_iff_ne] at this
    omega
  · obtain ⟨i, hi, he⟩ := idxI_at (fun x : Tmr => x.seq == s) (mkL dues R) 0 (Int.le_refl 0) h1
    have hit := idxI_hit (fun x : Tmr => x.seq == s) (mkL dues R) h1
    have hi2 : i < dues.length := by simpa [mkL] using hi
    have e0 : idxI (fun x : Tmr => x.seq == s) (mkL dues R) 0 = (i : Int) := by rw [he.1]; omega
    rw [e0] at hit ⊢
    rw [mkL_gt hi2] at hit
    simp only [tmrK, beq_iff_eq] at hit
    rw [if_pos (by omega)]; exact hit
structure RInv (dues R : List Int) (T : Tms) : Prop where
  ok : tmsOk T = true
  nx : T.next = dues.length
  ls : T.list = mkL dues R
  du : ∀ x ∈ dues, 0 ≤ x ∧ x ≤ 5
theorem stopB_mk {dues R : List Int} {T : Tms} (I : RInv dues R T) (s : Int) : stopB T s = (decide (0 ≤ s ∧ s < dues.length) && !R.contains s) := by
  unfold stopB
  rw [I.ls, mkL_at]
  by_cases h : 0 ≤ s ∧ s < dues.length
  · obtain ⟨k, rfl⟩ : ∃ k : Nat, s = k := ⟨s.toNat, by omega⟩
    rw [if_pos h, mkL_gt (by omega)]
    simp only [tmrK, decide_eq_true h, Bool.true_and, show decide (0 ≤ (k : Int)) = true from decide_eq_true h.1]
  · rw [if_neg h]; simp [h]
theorem rise_snoc {n : Int} {x : Tmr} : ∀ {l : List Tmr} {k : Int}, tmsRise n l k = true → k < n → x.seq = n → inR x.what 0 2 = true → inR x.whom 0 99 = true → tmsRise (n + 1) (l ++ [x]) k = true
  | [], k, _, h1, h2, h3, h4 => by simp [tmsRise, h2, h3, h4]; omega
  | y :: l, k, h, h1, h2, h3, h4 => by
    simp only [tmsRise] at h
    split at h
    · cases h
    · rename_i hc
      simp only [Bool.or_eq_true, decide_eq_true_eq, Bool.not_eq_true', not_or, Int.not_le] at hc
      simp only [List.cons_append, tmsRise]
      rw [if_neg]
      · exact rise_snoc h (by omega) h2 h3 h4
      · simp only [Bool.or_eq_true, decide_eq_true_eq, Bool.not_eq_true', not_or, Int.not_le]
        refine ⟨hc.1, by omega, hc.2.2⟩
theorem mkL_snoc (dues : List Int) (v : Int) : mkL (dues ++ [v]) [] = mkL dues [] ++ [⟨dues.length, v, 2, dues.length, true⟩] := by
  unfold mkL
  rw [List.length_append, List.length_singleton, List.range_succ, List.map_append]
  congr 1
  · refine List.map_congr_left fun k hk => ?_
    have hk := List.mem_range.1 hk
    simp only [tmrK]
    rw [gt_nat (by simp; omega), gt_nat hk, List.getElem_append_left hk]
  · simp only [List.map_cons, List.map_nil, tmrK]
    rw [gt_nat (by simp)]
    simp
theorem RInv.arm {dues : List Int} {T : Tms} {v : Int} (I : RInv dues [] T) (hl : dues.length ≤ 20) (h0 : 0 ≤ v) (h5 : v ≤ 5) :
    RInv (dues ++ [v]) [] (armT T v 2 dues.length) ∧ armI T 2 dues.length = dues.length ∧ canArm T 2 dues.length = true := by
  have hc : canArm T 2 dues.length = true := by
    simp only [canArm, Bool.and_eq_true, decide_eq_true_eq, bne_iff_ne, I.nx, I.ls, mkL_len, inR]; omega
  obtain ⟨⟨n1, n2⟩, h2, ⟨h3, h4, hh⟩, h6, h7, h8⟩ := tmsOk_iff.1 I.ok
  have e : armT T v 2 dues.length = ⟨putH T.heap v T.next, T.list ++ [⟨T.next, v, 2, dues.length, true⟩], T.next + 1⟩ := by simp [armT, hc, armS]
  have hno : ∀ x ∈ T.heap, x.seq ≠ T.next := fun x hx e2 => by
    have := (heap_has I.ok x.seq).1 ⟨x, hx, rfl⟩
    rw [stopB_mk I, Bool.and_eq_true, decide_eq_true_eq] at this
    rw [I.nx] at e2; omega
  obtain ⟨p1, p2⟩ := putH_ok (d := v) hh hno
  have hll : T.list.length = dues.length := by rw [I.ls, mkL_len]
  have hcp := List.countP_le_length (p := fun x : Tmr => x.armed) (l := T.list)
  have hpl := p2.length_eq
  simp only [List.length_map, List.length_append, List.length_singleton] at hpl
  have hls : T.list ++ [⟨T.next, v, 2, dues.length, true⟩] = mkL (dues ++ [v]) [] := by rw [mkL_snoc, I.ls, I.nx]
  have hat : ∀ s : Int, 0 ≤ s → s < dues.length → okAt T.list (0, s) ∨ True := fun _ _ _ => .inr trivial
  refine ⟨⟨?_, ?_, ?_, fun x hx => ?_⟩, ?_, hc⟩
  · rw [e]
    refine tmsOk_iff.2 ⟨⟨by simp only; omega, by simp only; rw [I.nx]; omega⟩, by simp; omega, ⟨by simp only; omega, ?_, p1⟩, ?_, ?_, fun k hk => ?_⟩
    · have hq : ((putH T.heap v T.next).map ky).Perm ((⟨v, T.next, 0⟩ :: T.heap : List Twg).map ky) := p2.trans (List.perm_append_comm.trans (by simp [ky]))
      exact once_ky hq (List.pairwise_cons.2 ⟨fun y hy e3 => hno y hy e3.symm, h4⟩)
    · exact rise_snoc h6 (by omega) rfl (show inR 2 0 2 = true by decide) (by simp [inR]; omega)
    · simp only [List.countP_append, List.countP_cons, List.countP_nil]; simp; omega
    · rcases List.mem_append.1 (p2.mem_iff.1 hk) with q | q
      · obtain ⟨a, b, c⟩ := h8 k q
        obtain ⟨kd, ks⟩ := k
        dsimp only at a b c ⊢
        simp only [okAt]
        rw [hls, mkL_at]
        rw [I.ls, mkL_at] at a b c
        split at a
        · rename_i hs
          obtain ⟨m, rfl⟩ : ∃ m : Nat, ks = m := ⟨ks.toNat, by omega⟩
          rw [if_pos hs] at b c
          rw [if_pos (by simp; omega), mkL_gt (by simp; omega)]
          rw [mkL_gt (by omega)] at b c
          simp only [tmrK] at b c ⊢
          refine ⟨by omega, by simp, ?_⟩
          rw [gt_nat (by simp; omega), List.getElem_append_left (by omega), ← gt_nat (by omega)]; exact c
        · omega
      · obtain rfl := List.mem_singleton.1 q
        simp only [okAt]
        rw [hls, mkL_at, I.nx, if_pos (by simp; omega), mkL_gt (by simp)]
        simp only [tmrK]
        refine ⟨by omega, by simp, ?_⟩
        rw [gt_nat (by simp)]; simp
  · rw [e]; simp [I.nx]
  · rw [e]; exact hls
  · rcases List.mem_append.1 hx with q | q
    · exact I.du x q
    · obtain rfl := List.mem_singleton.1 q; exact ⟨h0, h5⟩
  · simp [armI, hc, I.nx]
theorem set_mk {dues R : List Int} {k : Nat} (hk : k < dues.length) : (mkL dues R).set k (offT (tmrK dues R k)) = mkL dues (R ++ [(k : Int)]) := by
  refine List.ext_getElem (by simp [mkL_len]) fun j h1 h2 => ?_
  have hj : j < dues.length := by simpa [mkL_len] using h2
  rw [List.getElem_set, mkL_get hj, mkL_get hj]
  split
  · rename_i e; subst e
    simp [offT, tmrK]
  · rename_i e
    have : ((j : Int) == (k : Int)) = false := beq_eq_false_iff_ne.2 (by omega)
    simp only [tmrK, List.contains_append, List.contains_cons, this, List.contains_nil, Bool.or_false]
theorem RInv.fire {dues R : List Int} {T : Tms} {t : Int} (I : RInv dues R T) (ht : t ≤ 5) :
    (fireC T t = false → ∀ j : Nat, j < dues.length → R.contains (j : Int) = false → t < gt dues (j : Int)) ∧
    (fireC T t = true → ∃ k : Nat, k < dues.length ∧ R.contains (k : Int) = false ∧ gt dues (k : Int) ≤ t ∧ fireX T = ⟨k, gt dues (k : Int), 2, k, true⟩ ∧ RInv dues (R ++ [(k : Int)]) (fireT T t) ∧
      ∀ j : Nat, j < dues.length → R.contains (j : Int) = false → gt dues (k : Int) < gt dues (j : Int) ∨ (gt dues (k : Int) = gt dues (j : Int) ∧ k ≤ j)) := by
  obtain ⟨-, -, ⟨h3, h4, hh⟩, -, -, h8⟩ := tmsOk_iff.1 I.ok
  have key : ∀ x ∈ T.heap, ∃ k : Nat, x.seq = k ∧ k < dues.length ∧ R.contains (k : Int) = false ∧ x.due = gt dues (k : Int) := fun x hx => by
    have h := (heap_has I.ok x.seq).1 ⟨x, hx, rfl⟩
    rw [stopB_mk I, Bool.and_eq_true, decide_eq_true_eq, Bool.not_eq_true'] at h
    obtain ⟨a, b, c⟩ := h8 (ky x) (List.mem_map.2 ⟨x, hx, rfl⟩)
    simp only [ky] at a b c
    obtain ⟨k, hk⟩ : ∃ k : Nat, x.seq = k := ⟨x.seq.toNat, by omega⟩
    rw [hk] at h c
    rw [I.ls, mkL_at, if_pos h.1, mkL_gt (by omega)] at c
    exact ⟨k, hk, by omega, h.2, c.symm⟩
  have has : ∀ j : Nat, j < dues.length → R.contains (j : Int) = false → ∃ y ∈ T.heap, y.seq = j := fun j hj hr => by
    refine (heap_has I.ok j).2 ?_
    rw [stopB_mk I, hr, decide_eq_true (by omega)]; rfl
  cases hH : T.heap with
  | nil =>
    refine ⟨fun _ j hj hr => ?_, fun hf => by simp [fireC, hH] at hf⟩
    obtain ⟨y, hy, _⟩ := has j hj hr
    rw [hH] at hy; cases hy
  | cons r rs =>
    have hr0 : gt T.heap 0 = r := by rw [hH]; rfl
    obtain ⟨k, k1, k2, k3, k4⟩ := key r (by rw [hH]; simp)
    have hmin := isH_min rs.length (Nat.le_refl _) (hH ▸ hh)
    have hle : ∀ j : Nat, j < dues.length → R.contains (j : Int) = false → gt dues (k : Int) < gt dues (j : Int) ∨ (gt dues (k : Int) = gt dues (j : Int) ∧ k ≤ j) := fun j hj hr => by
      obtain ⟨y, hy, hys⟩ := has j hj hr
      obtain ⟨m, m1, m2, m3, m4⟩ := key y hy
      have : m = j := by omega
      subst this
      rw [hH] at hy
      rcases List.mem_cons.1 hy with rfl | q
      · right; have : m = k := by omega
        subst this; exact ⟨rfl, Nat.le_refl _⟩
      · have := hmin y q
        unfold lt2 at this
        rw [k4, m4, k1, m1] at this
        omega
    have hfc : fireC T t = decide (gt dues (k : Int) ≤ t) := by
      have hd := I.du _ (gt_mem (xs := dues) (z := (k : Int)) (by omega) (by omega))
      have hne : (gt dues (k : Int) != never) = true := by simp only [bne_iff_ne, never]; omega
      simp only [fireC, hr0, isDue, k4, hne, Bool.and_true]
      rw [hH]; simp
    refine ⟨fun hf j hj hr => ?_, fun hf => ⟨k, k2, k3, ?_, ?_, ?_, hle⟩⟩
    · rw [hfc] at hf
      have := of_decide_eq_false hf
      have := hle j hj hr
      omega
    · rw [hfc] at hf; exact of_decide_eq_true hf
    · unfold fireX
      rw [hr0, k1, I.ls, mkL_at, if_pos (by omega), mkL_gt k2]
      simp only [tmrK, k3, Bool.not_false]
    · have hsb : stopB T (k : Int) = true := by rw [stopB_mk I, k3, decide_eq_true (by omega)]; rfl
      have e : fireT T t = stopT T (k : Int) := by simp only [fireT, hf, if_true, hr0, k1]
      have e2 : (stopT T (k : Int)).list = T.list.set (tmsAt T.list (k : Int)).toNat (offT (gt T.list (tmsAt T.list (k : Int)))) := by simp [stopT, hsb]
      rw [e]
      refine ⟨(tmsOk_stop I.ok).1, by rw [stopT_next]; exact I.nx, ?_, I.du⟩
      rw [e2, I.ls, mkL_at, if_pos (by omega), mkL_gt k2, Int.toNat_natCast, set_mk k2]
def lvlN (dues : List Int) (t : Int) (n : Nat) : List Int := ((List.range n).filter fun (k : Nat) => gt dues (k : Int) == t).map fun (k : Nat) => (k : Int)
def lvl (dues : List Int) (t : Int) : List Int := lvlN dues t dues.length
def wantL (dues : List Int) : Nat → List Int
  | 0 => []
  | u + 1 => wantL dues u ++ lvl dues u
@[simp] theorem lvlN_zero (dues : List Int) (t : Int) : lvlN dues t 0 = [] := rfl
@[simp] theorem wantL_zero (dues : List Int) : wantL dues 0 = [] := rfl
theorem row_at {l : List Int} {k : Nat} (hk : k < l.length) : (l.map iv)[k]? = some (iv (gt l (k : Int))) := by
  rw [List.getElem?_map, ← Int.toNat_natCast k, gt_some (by omega) (by omega)]; simp
theorem lvlN_len (dues : List Int) (t : Int) (n : Nat) : (lvlN dues t n).length ≤ n := by
  unfold lvlN
  rw [List.length_map]
  exact Nat.le_trans (List.length_filter_le ..) (by simp)
theorem lvlN_succ (dues : List Int) (t : Int) (n : Nat) : lvlN dues t (n + 1) = lvlN dues t n ++ if (gt dues (n : Int) == t) = true then [(n : Int)] else [] := by
  unfold lvlN
  rw [List.range_succ, List.filter_append, List.map_append]
  congr 1
  by_cases h : (gt dues (n : Int) == t) = true
  · simp [h]
  · simp [h]
theorem lvl_mem {dues : List Int} {t j : Int} : j ∈ lvl dues t ↔ (0 ≤ j ∧ j < dues.length) ∧ gt dues j = t := by
  simp only [lvl, lvlN, List.mem_map, List.mem_filter, List.mem_range, beq_iff_eq]
  constructor
  · rintro ⟨k, ⟨h1, h2⟩, rfl⟩; exact ⟨by omega, h2⟩
  · rintro ⟨h1, h2⟩; exact ⟨j.toNat, ⟨by omega, by rw [Int.toNat_of_nonneg h1.1]; exact h2⟩, by omega⟩
theorem lvl_sorted (dues : List Int) (t : Int) : (lvl dues t).Pairwise (· < ·) := by
  unfold lvl lvlN
  rw [List.pairwise_map]
  exact (List.Pairwise.filter _ List.pairwise_lt_range).imp fun h => by omega
theorem want_mem {dues : List Int} (hd : ∀ x ∈ dues, 0 ≤ x ∧ x ≤ 5) : ∀ {u : Nat} {j : Int}, j ∈ wantL dues u ↔ (0 ≤ j ∧ j < dues.length) ∧ gt dues j < u
  | 0, j => by
    simp only [wantL, List.not_mem_nil, false_iff, not_and]
    intro h
    have := hd _ (gt_mem (xs := dues) (z := j) h.1 h.2)
    omega
  | u + 1, j => by
    rw [wantL, List.mem_append, want_mem hd, lvl_mem]
    constructor
    · rintro (⟨h1, h2⟩ | ⟨h1, h2⟩) <;> exact ⟨h1, by omega⟩
    · rintro ⟨h1, h2⟩
      by_cases h : gt dues j < u
      · exact .inl ⟨h1, h⟩
      · exact .inr ⟨h1, by omega⟩
def rngAt (dues : List Int) (u m : Nat) : List Int := wantL dues u ++ (lvl dues u).take m
theorem rng_next {dues : List Int} {T : Tms} {u m : Nat} (hu : u ≤ 5) (I : RInv dues (rngAt dues u m) T) (hm : m ≤ (lvl dues u).length) :
    (fireC T u = false → m = (lvl dues u).length) ∧
    (fireC T u = true → m < (lvl dues u).length ∧ ∃ k : Nat, k < dues.length ∧ fireX T = ⟨k, gt dues (k : Int), 2, k, true⟩ ∧ rngAt dues u m ++ [(k : Int)] = rngAt dues u (m + 1) ∧ RInv dues (rngAt dues u (m + 1)) (fireT T u)) := by
  obtain ⟨f1, f2⟩ := I.fire (t := u) (by omega)
  have hs := lvl_sorted dues u
  have hp := List.pairwise_iff_getElem.1 hs
  -- what is left of the level is not there yet
  have hleft : ∀ i (h1 : i < (lvl dues u).length), m ≤ i → ((rngAt dues u m).contains (lvl dues u)[i] = false) := fun i h1 h2 => by
    have hmem := lvl_mem.1 (List.getElem_mem h1)
    simp only [List.contains_eq_mem, decide_eq_false_iff_not, rngAt, List.mem_append, not_or]
    refine ⟨fun h => by have := (want_mem I.du).1 h; omega, fun h => ?_⟩
    obtain ⟨j, hj, e⟩ := List.mem_take_iff_getElem.1 h
    have := hp j i (by omega) h1 (by omega)
    omega
  constructor
  · intro hf
    refine Classical.byContradiction fun hne => ?_
    have hlt : m < (lvl dues u).length := by omega
    have hmem := lvl_mem.1 (List.getElem_mem hlt)
    have := f1 hf ((lvl dues u)[m]).toNat (by omega) (by rw [Int.toNat_of_nonneg hmem.1.1]; exact hleft m hlt (Nat.le_refl _))
    rw [Int.toNat_of_nonneg hmem.1.1] at this
    omega
  · intro hf
    obtain ⟨k, k1, k2, k3, k4, k5, k6⟩ := f2 hf
    have hnot : ¬ ((k : Int) ∈ rngAt dues u m) := by simpa [List.contains_eq_mem] using k2
    have hku : gt dues (k : Int) = u := by
      refine Classical.byContradiction fun hne => hnot ?_
      rw [rngAt, List.mem_append]
      exact .inl ((want_mem I.du).2 ⟨by omega, by omega⟩)
    have hkl : (k : Int) ∈ lvl dues u := lvl_mem.2 ⟨by omega, hku⟩
    obtain ⟨i, hi, hik⟩ := List.getElem_of_mem hkl
    have him : m ≤ i := by
      refine Classical.byContradiction fun h => hnot ?_
      rw [rngAt, List.mem_append]
      exact .inr (List.mem_take_iff_getElem.2 ⟨i, by omega, hik⟩)
    have hlt : m < (lvl dues u).length := by omega
    have hmm := lvl_mem.1 (List.getElem_mem hlt)
    have hle := k6 ((lvl dues u)[m]).toNat (by omega) (by rw [Int.toNat_of_nonneg hmm.1.1]; exact hleft m hlt (Nat.le_refl _))
    rw [Int.toNat_of_nonneg hmm.1.1] at hle
    have heq : i = m := by
      refine Classical.byContradiction fun h => ?_
      have := hp m i hlt hi (by omega)
      omega
    subst heq
    have e : rngAt dues u i ++ [(k : Int)] = rngAt dues u (i + 1) := by
      simp only [rngAt]
      rw [← List.take_append_getElem hlt, hik, List.append_assoc]
    exact ⟨hlt, k, k1, k4, e, e ▸ k5⟩
theorem rng_full {dues : List Int} {u : Nat} : rngAt dues u (lvl dues u).length = wantL dues (u + 1) := by simp [rngAt, wantL]
theorem rng_zero {dues : List Int} {u : Nat} : rngAt dues u 0 = wantL dues u := by simp [rngAt]
theorem len_sub {l : List Int} : ∀ {m : List Int}, l.Nodup → (∀ x ∈ l, x ∈ m) → l.length ≤ m.length := by
  induction l with
  | nil => intro m _ _; simp
  | cons x l ih =>
    intro m hn hs
    obtain ⟨h1, h2⟩ := List.nodup_cons.1 hn
    have := ih (m := m.erase x) h2 fun y hy => (List.mem_erase_of_ne (fun e : y = x => h1 (by rw [← e]; exact hy))).2 (hs y (by simp [hy]))
    rw [List.length_erase_of_mem (hs x (by simp))] at this
    have hp : 0 < m.length := List.length_pos_of_mem (hs x (by simp))
    simp only [List.length_cons]; omega
theorem want_len {dues : List Int} (hd : ∀ x ∈ dues, 0 ≤ x ∧ x ≤ 5) (u : Nat) : (wantL dues u).Nodup ∧ (wantL dues u).length ≤ dues.length := by
  have nd : ∀ u, (wantL dues u).Nodup := fun u => by
    induction u with
    | zero => exact List.nodup_nil
    | succ u ih =>
      rw [wantL, List.nodup_append]
      refine ⟨ih, (lvl_sorted dues u).imp fun h => by omega, fun a ha b hb e => ?_⟩
      have h1 := (want_mem hd).1 ha
      have h2 := lvl_mem.1 hb
      rw [← e] at h2; omega
  refine ⟨nd u, ?_⟩
  have hsub := len_sub (m := (List.range dues.length).map fun (k : Nat) => (k : Int)) (nd u) fun j hj => by
    have := (want_mem hd).1 hj
    exact List.mem_map.2 ⟨j.toNat, by simp; omega, by omega⟩
  simpa using hsub
theorem want_all {dues : List Int} (hd : ∀ x ∈ dues, 0 ≤ x ∧ x ≤ 5) : (wantL dues 6).length = dues.length := by
  have h1 := (want_len hd 6).2
  have hn : ((List.range dues.length).map fun (k : Nat) => (k : Int)).Nodup := (List.pairwise_map.2 (List.pairwise_lt_range.imp fun h => by omega))
  have hsub := len_sub (m := wantL dues 6) hn fun j hj => by
    obtain ⟨k, hk, rfl⟩ := List.mem_map.1 hj
    have hk := List.mem_range.1 hk
    have := hd _ (gt_mem (xs := dues) (z := (k : Int)) (by omega) (by omega))
    exact (want_mem hd).2 ⟨by omega, by omega⟩
  have := hsub
  simp at this
  omega
def rgW (t : Int) (T : Tms) (R : List Int) : Wld := ⟨t, [], [⟨0, -1, 9223372036854775807, 0, 0⟩], [], ⟨[false], []⟩, T, ⟨⟨[0, 0], [false, false]⟩, []⟩, [], [], [], [], R⟩
theorem rg_ok {t : Int} {T : Tms} {R : List Int} (h0 : 0 ≤ t) (hT : tmsOk T = true) (h2 : ∀ x ∈ T.list, x.what = 2) (hl : R.length ≤ 2000) (hR : ∀ x ∈ R, 0 ≤ x ∧ x ≤ 99) : wldOk (rgW t T R) = true := by
  have e1 : eventsOk [(⟨0, -1, 9223372036854775807, 0, 0⟩ : Nod)] [] = true := by decide
  have e2 : isSpread ⟨[false], []⟩ [(⟨0, -1, 9223372036854775807, 0, 0⟩ : Nod)] = true := by decide
  have e3 : afsOk ⟨⟨[0, 0], [false, false]⟩, []⟩ = true := by decide
  have e4 : (rgW t T R).timers.list.all (isTimer (rgW t T R)) = true := by
    show T.list.all (isTimer (rgW t T R)) = true
    rw [List.all_eq_true]
    intro x hx
    simp [isTimer, h2 x hx]
  have e5 : R.all (fun n => inR n 0 99) = true := by
    rw [List.all_eq_true]
    intro x hx
    have := hR x hx
    simp only [inR, Bool.and_eq_true, decide_eq_true_eq]; exact this
  have e6 : tasksOk [] = true := by decide
  simp only [wldOk]
  rw [e4]
  simp [rgW, e1, e2, e3, e5, e6, hT, h0, hl]
theorem rg_sz {t : Int} {T : Tms} {R : List Int} (hT : tmsOk T = true) (hl : R.length ≤ 2000) : wldsz (rgW t T R) ≤ 1048576 := by
  obtain ⟨-, h2, ⟨h3, -, -⟩, -⟩ := tmsOk_iff.1 hT
  simp [wldsz, rgW, sltsz, afssz, sprsz, tmssz] <;> omega
theorem mk_what {dues R : List Int} {T : Tms} (I : RInv dues R T) : ∀ x ∈ T.list, x.what = 2 := fun x hx => by
  rw [I.ls] at hx
  obtain ⟨k, _, rfl⟩ := List.mem_map.1 hx
  rfl
def tmrW (w : Wld) (d whom : Int) : Wld := askW w (setT w (armT w.timers (later w.now d) 2 whom)) (decide (0 ≤ armI w.timers 2 whom))
def tmrB (w : Wld) (d whom : Int) : Bool := askB w (setT w (armT w.timers (later w.now d) 2 whom)) (decide (0 ≤ armI w.timers 2 whom))
def tmrI (w : Wld) (d whom : Int) : Int := if tmrB w d whom = true then armI w.timers 2 whom else -1
theorem rg_timer {dues : List Int} {T : Tms} {v : Int} (I : RInv dues [] T) (hl : dues.length ≤ 20) (h0 : 0 ≤ v) (h5 : v ≤ 5) :
    tmrW (rgW 0 T []) v dues.length = rgW 0 (armT T v 2 dues.length) [] ∧ tmrI (rgW 0 T []) v dues.length = dues.length ∧ RInv (dues ++ [v]) [] (armT T v 2 dues.length) := by
  obtain ⟨I2, e1, e2⟩ := I.arm hl h0 h5
  have hlat : later 0 v = v := by
    simp only [later]; (repeat' split) <;> omega
  have hw1 := rg_ok (t := 0) (R := []) (Int.le_refl 0) I.ok (mk_what I) (by simp) (by simp)
  have hw2 := rg_ok (t := 0) (R := []) (Int.le_refl 0) I2.ok (mk_what I2) (by simp) (by simp)
  have es : setT (rgW 0 T []) (armT (rgW 0 T []).timers (later (rgW 0 T []).now v) 2 dues.length) = rgW 0 (armT T v 2 dues.length) [] := by
    show setT (rgW 0 T []) (armT T (later 0 v) 2 dues.length) = _
    rw [hlat]; rfl
  have ea : armI (rgW 0 T []).timers 2 dues.length = dues.length := e1
  have ed : decide (0 ≤ armI (rgW 0 T []).timers 2 (dues.length : Int)) = true := by rw [ea]; exact decide_eq_true (by omega)
  have eb : tmrB (rgW 0 T []) v dues.length = true := by
    unfold tmrB askB; rw [es, ed, hw1, hw2]; rfl
  refine ⟨?_, ?_, I2⟩
  · unfold tmrW askW
    rw [es, ed, if_pos hw1, if_pos ⟨rfl, hw2⟩]
  · unfold tmrI
    rw [if_pos eb, ea]
theorem rng_good {dues : List Int} (hd : ∀ x ∈ dues, 0 ≤ x ∧ x ≤ 5) (hl : dues.length ≤ 20) (u m : Nat) : (rngAt dues u m).length ≤ dues.length ∧ ∀ x ∈ rngAt dues u m, 0 ≤ x ∧ x ≤ 99 := by
  have h1 := (want_len hd (u + 1)).2
  refine ⟨?_, fun x hx => ?_⟩
  · simp only [rngAt, wantL, List.length_append, List.length_take] at h1 ⊢; omega
  · have : x ∈ wantL dues (u + 1) := by
      rw [rngAt, List.mem_append] at hx
      rw [wantL, List.mem_append]
      exact hx.imp id (List.mem_of_mem_take)
    have := (want_mem hd).1 this
    omega
theorem rg_drain {dues : List Int} {T : Tms} {u m : Nat} (hu : u ≤ 5) (hl : dues.length ≤ 20) (I : RInv dues (rngAt dues u m) T) (hm : m ≤ (lvl dues u).length) :
    (ringB (rgW u T (rngAt dues u m)) = false ∧ ringW (rgW u T (rngAt dues u m)) = rgW u T (rngAt dues u m) ∧ m = (lvl dues u).length) ∨
    (ringB (rgW u T (rngAt dues u m)) = true ∧ ∃ T', ringW (rgW u T (rngAt dues u m)) = rgW u T' (rngAt dues u (m + 1)) ∧ RInv dues (rngAt dues u (m + 1)) T' ∧ m + 1 ≤ (lvl dues u).length) := by
  obtain ⟨n1, n2⟩ := rng_next hu I hm
  obtain ⟨g1, g2⟩ := rng_good I.du hl u m
  have hw1 := rg_ok (t := (u : Int)) (by omega) I.ok (mk_what I) (by omega) g2
  have efc : drainB (rgW u T (rngAt dues u m)) = fireC T u := rfl
  cases hf : fireC T u with
  | false =>
    left
    refine ⟨?_, ?_, n1 hf⟩
    · unfold ringB askB; rw [efc, hf]; simp
    · unfold ringW askW; rw [efc, hf, if_pos hw1]; simp
  | true =>
    right
    obtain ⟨hlt, k, k1, k2, k3, k4⟩ := n2 hf
    obtain ⟨g3, g4⟩ := rng_good I.du hl u (m + 1)
    have hw2 := rg_ok (t := (u : Int)) (by omega) k4.ok (mk_what k4) (by omega) g4
    have ed : drainW (rgW u T (rngAt dues u m)) = rgW u (fireT T u) (rngAt dues u (m + 1)) := by
      have hx : fireX (rgW u T (rngAt dues u m)).timers = ⟨k, gt dues (k : Int), 2, k, true⟩ := k2
      have hc : fireC (rgW u T (rngAt dues u m)).timers (rgW u T (rngAt dues u m)).now = true := hf
      unfold drainW
      rw [if_pos hc, hx, if_neg (show ¬ ((2 : Int) = 0) by decide), if_neg (show ¬ ((2 : Int) = 1) by decide)]
      rw [if_pos (show (2 : Int) = 2 ∧ (rgW u T (rngAt dues u m)).rang.length < 2000 from ⟨rfl, by show (rngAt dues u m).length < 2000; omega⟩), ← k3]
      rfl
    refine ⟨?_, fireT T u, ?_, k4, by omega⟩
    · unfold ringB askB; rw [efc, hf, hw1, ed, hw2]; rfl
    · unfold ringW askW; rw [efc, hf, if_pos hw1, ed, if_pos ⟨rfl, hw2⟩]
theorem rg_tick {dues : List Int} {T : Tms} {u : Nat} (hu : u ≤ 5) (hl : dues.length ≤ 20) (I : RInv dues (wantL dues (u + 1)) T) :
    tickW (rgW u T (wantL dues (u + 1))) 1 = rgW ((u + 1 : Nat) : Int) T (wantL dues (u + 1)) ∧ tickB (rgW u T (wantL dues (u + 1))) 1 = true := by
  have hg := rng_good I.du hl (u + 1) 0
  rw [rng_zero] at hg
  have hw1 := rg_ok (t := (u : Int)) (by omega) I.ok (mk_what I) (by omega) hg.2
  have hlat : later (u : Int) 1 = ((u + 1 : Nat) : Int) := by simp only [later]; (repeat' split) <;> omega
  constructor
  · unfold tickW
    rw [if_pos hw1, if_pos (by decide)]
    show rgW (later u 1) T _ = _
    rw [hlat]; rfl
  · unfold tickB; rw [hw1]; rfl
structure RN (m n : Nat) (h : Heap) (p q j : Nat) (xs : List Int) (w : Wld) (dues : List Int) : Prop where
  a : h p = some (.obj (wldV (fun _ => true) w))
  d : DiceO h q xs
  r : h j = some (.row 1 (dues.map iv))
  lo : m ≤ p ∧ m ≤ q ∧ m ≤ j
  hi : p < n ∧ q < n ∧ j < n
namespace RN
variable {m n : Nat} {h : Heap} {p q j : Nat} {xs : List Int} {w : Wld} {dues : List Int}
theorem ne (R : RN m n h p q j xs w dues) : p ≠ q ∧ p ≠ j ∧ q ≠ j := by
  obtain ⟨i, H, _, h2⟩ := R.d
  refine ⟨fun e => ?_, fun e => ?_, fun e => ?_⟩
  · have := R.a; rw [e, h2] at this; simp [wldV] at this
  · have := R.a; rw [e, R.r] at this; simp at this
  · rw [e, R.r] at h2; simp at h2
theorem roll {h' : Heap} {n' : Nat} (R : RN m n h p q j xs w dues) (hn : n ≤ n') (hd : DiceO h' q xs) (hf : ∀ k, k < n → k ≠ q → h' k = h k) : RN m n' h' p q j xs w dues := by
  obtain ⟨e1, e2, e3⟩ := R.ne
  obtain ⟨b1, b2, b3⟩ := R.hi
  exact ⟨(hf _ b1 e1).trans R.a, hd, (hf _ b3 e3.symm).trans R.r, R.lo, by omega, by omega, by omega⟩
theorem same {h' : Heap} {n' : Nat} (R : RN m n h p q j xs w dues) (hn : n ≤ n') (hf : ∀ k, k < n → h' k = h k) : RN m n' h' p q j xs w dues := by
  obtain ⟨i, H, g1, g2⟩ := R.d
  exact R.roll hn ⟨i, H, g1, (hf _ R.hi.2.1).trans g2⟩ (fun k hk _ => hf k hk)
theorem keep {h' : Heap} {n' : Nat} (R : RN m n h p q j xs w dues) (hn : n ≤ n') (h0 : h' p = h p) (h1 : h' q = h q) (h2 : h' j = h j) : RN m n' h' p q j xs w dues := by
  obtain ⟨i, H, g1, g2⟩ := R.d
  obtain ⟨b1, b2, b3⟩ := R.hi
  exact ⟨h0.trans R.a, ⟨i, H, g1, h1.trans g2⟩, h2.trans R.r, R.lo, by omega, by omega, by omega⟩
theorem mono {n' : Nat} (R : RN m n h p q j xs w dues) (hn : n ≤ n') : RN m n' h p q j xs w dues := R.same hn (fun _ _ => rfl)
theorem setW {h' : Heap} {n' : Nat} {w' : Wld} (R : RN m n h p q j xs w dues) (hn : n ≤ n') (h0 : h' p = some (.obj (wldV (fun _ => true) w'))) (hf : ∀ k, k < n → k ≠ p → h' k = h k) : RN m n' h' p q j xs w' dues := by
  obtain ⟨e1, e2, e3⟩ := R.ne
  obtain ⟨b1, b2, b3⟩ := R.hi
  obtain ⟨i, H, g1, g2⟩ := R.d
  exact ⟨h0, ⟨i, H, g1, (hf _ b2 e1.symm).trans g2⟩, (hf _ b3 e2.symm).trans R.r, R.lo, by omega, by omega, by omega⟩
end RN
theorem rg_inv0 : RInv [] [] ⟨[], [], 0⟩ := ⟨by decide, rfl, rfl, by simp⟩
end Go.AE
end
