/- An abstract machine over the model: its states, its steps, and that what it shows holds of the model. -/
import Derived.Test.YteccfcojjcnokaaGreatA2
import Derived.ChangeShapes
import Derived.Deep.Slices
import Derived.DataReads
import Derived.Below
import Derived.WideShapes
import GoSem.ClaimJoined
import Derived.Test.YteccfcojjcnokaaGreatA1
import Derived.Maps.OwnSet
import Derived.Maps.Views
set_option linter.unusedVariables false
set_option linter.unusedSimpArgs false
set_option linter.deprecated false
section
/- What the reference's readers answer, against the program's. -/
namespace Go.AE

theorem sltOk_len {s : Slt} (h : sltOk s = true) : s.used.length = s.ages.length := by simp [sltOk] at h; omega

theorem cmp2_lt (a b : Int) : (cmp2 a b < 0) = (a < b) := by
  unfold cmp2; split
  · simp [*]
  · split <;> simp [*] <;> omega
theorem cmp2_z (a b : Int) : (cmp2 a b = 0) = (a = b) := by
  unfold cmp2; split
  · simp; omega
  · split <;> simp <;> omega
theorem twgCmp_lt (a b : Twg) : decide (twgCmp a b < 0) = (decide (a.due < b.due) || (a.due == b.due && decide (a.seq < b.seq))) := by
  have e : twgCmp a b = if cmp2 a.due b.due ≠ 0 then cmp2 a.due b.due else if cmp2 a.seq b.seq ≠ 0 then cmp2 a.seq b.seq else 0 := by
    simp only [twgCmp, orI, bne_iff_ne]
  have h1 := cmp2_lt a.due b.due
  have h2 := cmp2_z a.due b.due
  have h3 := cmp2_lt a.seq b.seq
  have h4 := cmp2_z a.seq b.seq
  simp only [eq_iff_iff] at h1 h2 h3 h4
  rw [e, Bool.eq_iff_iff]
  simp only [Bool.or_eq_true, Bool.and_eq_true, decide_eq_true_eq, beq_iff_eq]
  generalize cmp2 a.due b.due = x at *
  generalize cmp2 a.seq b.seq = y at *
  split <;> (try split) <;> omega
def rkI (h : List Twg) : Int := match rk h with | some r => r | none => -1
def seqsOk (h : List Twg) : Bool := allI (fun i x => !(decide (0 ≤ seqAt (h.take i.toNat) x.seq))) h 0
theorem heapOk_eq (h : List Twg) : heapOk h = (decide (h.length ≤ 64) && (seqsOk h && decide (0 ≤ rkI h))) := by
  unfold heapOk rkI seqsOk
  cases hr : rk h with
  | none => simp
  | some r => simp
theorem rkI_cases (h : List Twg) : (rk h = none ∧ rkI h = -1) ∨ ∃ r : Nat, rk h = some r ∧ rkI h = r := by
  unfold rkI
  cases rk h with
  | none => exact .inl ⟨rfl, rfl⟩
  | some r => exact .inr ⟨r, rfl, rfl⟩
theorem rkI_nil : rkI [] = 0 := rfl

def tmr1 (x : Tmr) (next : Int) : Bool := inR x.seq 0 (next - 1) && (inR x.what 0 2 && inR x.whom 0 99)

def nod1 (n : Nod) : Bool :=
  if n.kind != 2 && n.due != never then false
  else if n.kind == 3 then inR n.key 1 9 && inR n.value 0 999
  else inR n.kind 0 4 && (n.key == 0 && n.value == 0)
theorem isNode_eq (n : Nod) (i : Int) : isNode n i = (nod1 n && if n.kind == 0 then n.up == -1 else inR n.up 0 (i - 1)) := by
  unfold isNode nod1
  simp only [inR]
  grind
theorem treeOk_eq (t : List Nod) : treeOk t = (decide (t.length ≤ 60) && allI (fun i n => isNode n i) t 0) := by
  unfold treeOk
  rw [Bool.eq_iff_iff, Bool.and_eq_true, allI_iff, allI_iff, decide_eq_true_eq]
  constructor
  · intro h
    refine ⟨?_, fun i hi => ?_⟩
    · by_cases hl : t.length ≤ 60
      · exact hl
      · have := h 60 (by omega); simp at this
    · have := h i hi; simp at this; simpa using this.2
  · rintro ⟨hl, h⟩ i hi
    have := h i hi
    simp; exact ⟨by omega, by simpa using this⟩
structure Odr where
  kind : Int
  a : Int
  b : Int
  c : Int
  d : Int
  deriving DecidableEq, Inhabited
def odrC (x : Odr) : List AV := [.int .i64 x.kind, .int .i64 x.a, .int .i64 x.b, .int .i64 x.c, .int .i64 x.d]
@[simp] theorem odrC_len (x : Odr) : (odrC x).length = 5 := rfl
@[simp] theorem odrC_take (x : Odr) : (odrC x).take 5 = odrC x := rfl
@[simp] theorem odrC_one (x : Odr) : (odrC x).all AV.one = true := rfl
@[simp] theorem frz_odrC (h x) : frz h (odrC x) = some (odrC x, h) := by simp [odrC]
theorem han_beq (a b : Han) : (a == b) = (a.slot == b.slot && (a.age == b.age)) := by
  obtain ⟨a0, a1⟩ := a; obtain ⟨b0, b1⟩ := b
  rw [Bool.eq_iff_iff]; simp
theorem inn_beq (a b : Inn) : (a == b) = (a.op == b.op && (a.a == b.a && (a.b == b.b))) := by
  obtain ⟨a0, a1, a2⟩ := a; obtain ⟨b0, b1, b2⟩ := b
  rw [Bool.eq_iff_iff]; simp
theorem nod_beq (a b : Nod) : (a == b) = (a.kind == b.kind && (a.up == b.up && (a.due == b.due && (a.key == b.key && (a.value == b.value))))) := by
  obtain ⟨a0, a1, a2, a3, a4⟩ := a; obtain ⟨b0, b1, b2, b3, b4⟩ := b
  rw [Bool.eq_iff_iff]; simp
theorem evt_beq (a b : Evt) : (a == b) = (a.node == b.node && (a.err == b.err && (a.cause == b.cause && (a.time == b.time)))) := by
  obtain ⟨a0, a1, a2, a3⟩ := a; obtain ⟨b0, b1, b2, b3⟩ := b
  rw [Bool.eq_iff_iff]; simp
theorem twg_beq (a b : Twg) : (a == b) = (a.due == b.due && (a.seq == b.seq && (a.lefts == b.lefts))) := by
  obtain ⟨a0, a1, a2⟩ := a; obtain ⟨b0, b1, b2⟩ := b
  rw [Bool.eq_iff_iff]; simp
theorem tmr_beq (a b : Tmr) : (a == b) = (a.seq == b.seq && (a.due == b.due && (a.what == b.what && (a.whom == b.whom && (a.armed == b.armed))))) := by
  obtain ⟨a0, a1, a2, a3, a4⟩ := a; obtain ⟨b0, b1, b2, b3, b4⟩ := b
  rw [Bool.eq_iff_iff]; simp
theorem afr_beq (a b : Afr) : (a == b) = (a.han == b.han && (a.node == b.node && (a.fn == b.fn && (a.queued == b.queued)))) := by
  obtain ⟨a0, a1, a2, a3⟩ := a; obtain ⟨b0, b1, b2, b3⟩ := b
  rw [Bool.eq_iff_iff]; simp
theorem tsk_beq (a b : Tsk) : (a == b) = (a.prog == b.prog && (a.pc == b.pc && (a.state == b.state && (a.why == b.why && (a.what == b.what && (a.timer == b.timer && (a.reg == b.reg && (a.group == b.group && (a.err == b.err))))))))) := by
  obtain ⟨a0, a1, a2, a3, a4, a5, a6, a7, a8⟩ := a; obtain ⟨b0, b1, b2, b3, b4, b5, b6, b7, b8⟩ := b
  rw [Bool.eq_iff_iff]; simp
theorem sgt_beq (a b : Sgt) : (a == b) = (a.node == b.node && (a.err == b.err && (a.cause == b.cause && (a.pos == b.pos)))) := by
  obtain ⟨a0, a1, a2, a3⟩ := a; obtain ⟨b0, b1, b2, b3⟩ := b
  rw [Bool.eq_iff_iff]; simp
theorem grp_beq (a b : Grp) : (a == b) = (a.node == b.node && (a.limit == b.limit && (a.active == b.active && (a.waits == b.waits && (a.first == b.first))))) := by
  obtain ⟨a0, a1, a2, a3, a4⟩ := a; obtain ⟨b0, b1, b2, b3, b4⟩ := b
  rw [Bool.eq_iff_iff]; simp
theorem slt_beq (a b : Slt) : (a == b) = (a.ages == b.ages && (a.used == b.used)) := by
  obtain ⟨a0, a1⟩ := a; obtain ⟨b0, b1⟩ := b
  rw [Bool.eq_iff_iff]; simp
theorem spr_beq (a b : Spr) : (a == b) = (a.told == b.told && (a.work == b.work)) := by
  obtain ⟨a0, a1⟩ := a; obtain ⟨b0, b1⟩ := b
  rw [Bool.eq_iff_iff]; simp
theorem tms_beq (a b : Tms) : (a == b) = (a.heap == b.heap && (a.list == b.list && (a.next == b.next))) := by
  obtain ⟨a0, a1, a2⟩ := a; obtain ⟨b0, b1, b2⟩ := b
  rw [Bool.eq_iff_iff]; simp
theorem afs_beq (a b : Afs) : (a == b) = (a.slots == b.slots && (a.list == b.list)) := by
  obtain ⟨a0, a1⟩ := a; obtain ⟨b0, b1⟩ := b
  rw [Bool.eq_iff_iff]; simp
theorem wld_beq (a b : Wld) : (a == b) = (a.now == b.now && (a.progs == b.progs && (a.tree == b.tree && (a.events == b.events && (a.spread == b.spread && (a.timers == b.timers && (a.afters == b.afters && (a.tasks == b.tasks && (a.groups == b.groups && (a.sights == b.sights && (a.began == b.began && (a.rang == b.rang)))))))))))) := by
  obtain ⟨a0, a1, a2, a3, a4, a5, a6, a7, a8, a9, a10, a11⟩ := a; obtain ⟨b0, b1, b2, b3, b4, b5, b6, b7, b8, b9, b10, b11⟩ := b
  rw [Bool.eq_iff_iff]; simp
def szR (n : Nat) (k : Int) : Int := if k < n then -1 else k - n
theorem szR_or (n : Nat) (k : Int) : (k < n ∧ szR n k = -1) ∨ (n ≤ k ∧ szR n k = k - n) := by
  unfold szR; split
  · exact .inl ⟨by assumption, rfl⟩
  · exact .inr ⟨by omega, rfl⟩

def lsum {α : Type} (f : α → Nat) : List α → Nat
  | [] => 0
  | x :: xs => f x + lsum f xs
theorem lsum_mem {α : Type} (f : α → Nat) {x : α} : ∀ {xs : List α}, x ∈ xs → f x ≤ lsum f xs
  | y :: ys, h => by
    rcases List.mem_cons.1 h with rfl | h
    · simp only [lsum]; omega
    · have := lsum_mem f h; simp only [lsum]; omega
def sltsz (s : Slt) : Nat := s.ages.length + s.used.length
def sprsz (s : Spr) : Nat := s.told.length + s.work.length
def tmssz (s : Tms) : Nat := s.heap.length + s.list.length
def afssz (s : Afs) : Nat := sltsz s.slots + s.list.length
def wldsz (s : Wld) : Nat := (s.progs.length + lsum (·.length) s.progs) + s.tree.length + s.events.length + sprsz s.spread + tmssz s.timers + afssz s.afters + s.tasks.length + (s.groups.length + lsum (·.waits.length) s.groups) + s.sights.length + s.began.length + s.rang.length
theorem prgV_fz (x : List Inn) : ∀ c ∈ prgV true x, Fz c := by simp [prgV]; exact .vmap innC_fz
theorem grpV_fz (x : Grp) : ∀ c ∈ grpV true x, Fz c := by simp [grpV]; exact .vmap iv_fz
theorem sltV_fz {F} (x : Slt) : ∀ c ∈ sltV F x, Fz c := by simp [sltV]; exact ⟨.vmap iv_fz, .vmap bv_fz⟩
theorem sprV_fz {F} (x : Spr) : ∀ c ∈ sprV F x, Fz c := by simp [sprV]; exact ⟨.vmap bv_fz, .vmap iv_fz⟩
theorem tmsV_fz {F} (x : Tms) : ∀ c ∈ tmsV F x, Fz c := by simp [tmsV]; exact ⟨.vmap twgC_fz, .vmap tmrC_fz⟩
theorem afsV_fz {F} (x : Afs) : ∀ c ∈ afsV F x, Fz c := by simp [afsV]; exact ⟨.vmap iv_fz, .vmap bv_fz, .vmap afrC_fz⟩
theorem wldV_fz (x : Wld) : ∀ c ∈ wldV (fun _ => true) x, Fz c := by
  simp [wldV]
  exact ⟨.vmap prgV_fz, .vmap nodC_fz, .vmap evtC_fz, .vmap bv_fz, .vmap iv_fz, .vmap twgC_fz, .vmap tmrC_fz, .vmap iv_fz, .vmap bv_fz, .vmap afrC_fz, .vmap tskC_fz, .vmap grpV_fz, .vmap sgtC_fz, .vmap iv_fz, .vmap iv_fz⟩

theorem rkI_bad {l : List Twg} (hp : 0 < l.length) (h : ¬ (0 ≤ (gt l 0).lefts ∧ (gt l 0).lefts < l.length)) : rkI l = -1 := by
  have e := rk_tail hp
  rw [if_neg (by rw [inR_true]; omega)] at e
  simp [rkI, e]
theorem rkI_step {l : List Twg} (hp : 0 < l.length) (h0 : 0 ≤ (gt l 0).lefts) (h1 : (gt l 0).lefts < l.length) : rkI l =
    if decide (0 < (l.tail.take (gt l 0).lefts.toNat).length) && !decide (twgCmp (gt l 0) (gt (l.tail.take (gt l 0).lefts.toNat) 0) < 0) ||
       decide (0 < (l.drop ((gt l 0).lefts.toNat + 1)).length) && !decide (twgCmp (gt l 0) (gt (l.drop ((gt l 0).lefts.toNat + 1)) 0) < 0) then -1
    else if decide (rkI (l.tail.take (gt l 0).lefts.toNat) < 0) || (decide (rkI (l.drop ((gt l 0).lefts.toNat + 1)) < 0) || decide (rkI (l.tail.take (gt l 0).lefts.toNat) < rkI (l.drop ((gt l 0).lefts.toNat + 1)))) then -1
    else rkI (l.drop ((gt l 0).lefts.toNat + 1)) + 1 := by
  have e := rk_tail hp
  simp only [head_all] at e
  rw [if_pos (by rw [inR_true]; omega)] at e
  generalize l.tail.take (gt l 0).lefts.toNat = a at *
  generalize l.drop ((gt l 0).lefts.toNat + 1) = b at *
  unfold rkI
  cases ha : rk a with
  | none => simp [e, ha]
  | some x =>
    cases hb : rk b with
    | none => simp [e, ha, hb]
    | some y =>
      rw [e, ha, hb]
      simp only
      by_cases c1 : y ≤ x ∧ (a.length = 0 ∨ twgCmp (gt l 0) (gt a 0) < 0) ∧ (b.length = 0 ∨ twgCmp (gt l 0) (gt b 0) < 0)
      · rw [if_pos c1]
        obtain ⟨q1, q2, q3⟩ := c1
        rw [if_neg (by simp; omega), if_neg (by simp; omega)]; simp
      · rw [if_neg c1]
        simp only
        by_cases c2 : (decide (0 < a.length) && !decide (twgCmp (gt l 0) (gt a 0) < 0) || decide (0 < b.length) && !decide (twgCmp (gt l 0) (gt b 0) < 0)) = true
        · rw [if_pos c2]
        · rw [if_neg c2, if_pos]
          simp only [Bool.or_eq_true, Bool.and_eq_true, decide_eq_true_eq, Bool.not_eq_true', decide_eq_false_iff_not] at c2 ⊢
          by_cases hyx : y ≤ x
          · exfalso; apply c1
            refine ⟨hyx, ?_, ?_⟩ <;> by_cases h0 : twgCmp (gt l 0) (gt a 0) < 0 <;> by_cases h1 : twgCmp (gt l 0) (gt b 0) < 0 <;> simp only [h0, h1, true_or, or_true, or_false, not_true, not_false_eq_true, and_true, and_false, false_or, or_self] at c2 ⊢ <;> omega
          · right; right; omega
theorem rkI_le (l : List Twg) : -1 ≤ rkI l ∧ rkI l ≤ l.length := by
  rcases rkI_cases l with ⟨h, e⟩ | ⟨r, h, e⟩
  · omega
  · have := rk_le h; omega

def tsk1 (t : Tsk) : Bool :=
  if t.why == 1 then inR t.what 0 59 && t.timer == -1
  else if t.why == 2 then inR t.what 0 59 && inR t.timer 0 1000000
  else if t.why == 3 || t.why == 4 then inR t.what 0 7 && t.timer == -1
  else false
theorem eventsOk_tree {t : List Nod} {l : List Evt} (h : eventsOk t l = true) : treeOk t = true := by
  simp only [eventsOk, Bool.and_eq_true] at h; exact h.1
theorem eventsOk_at {t : List Nod} {l : List Evt} (h : eventsOk t l = true) (i : Nat) (hi : i < l.length) : fits t (l.take i) l[i] = true := by
  simp only [eventsOk, Bool.and_eq_true] at h
  have := allI_iff.1 h.2 i hi
  simpa using this
theorem find_idx {α : Type} [Inhabited α] (q : α → Bool) (l : List α) : l.find? q = if idxI q l 0 < 0 then none else some (gt l (idxI q l 0)) := by
  split
  · rename_i h
    have := (idxI_none q l 0 (Int.le_refl 0)).1 h
    rw [List.find?_eq_none]; intro x hx; simp [this x hx]
  · rename_i h
    obtain ⟨i, hi, e, hq, hlt⟩ := idxI_at q l 0 (Int.le_refl 0) (by omega)
    rw [e, Int.zero_add, gt_nat hi, List.find?_eq_some_iff_getElem]
    exact ⟨hq, i, hi, rfl, fun j hj => by simp [hlt j hj]⟩
theorem firstOf_idx {t : List Nod} {l : List Evt} {n : Int} : firstOf t l n = if idxI (fun e => (chain t n).contains e.node) l 0 < 0 then none else some (gt l (idxI (fun e => (chain t n).contains e.node) l 0)) := find_idx _ _
theorem fits_step {t : List Nod} {l : List Evt} {e : Evt} (h : fits t l e = true) : isEvent t e = true ∧ (0 < l.length → (gt l ((l.length : Int) - 1)).time ≤ e.time) ∧ (firstOf t l e.node).isSome = false := by
  unfold fits at h
  split at h
  · cases h
  · rename_i g; simp at g h; exact ⟨g.1, fun hp => g.2 hp, by simpa using h⟩
theorem eventsOk_time {t : List Nod} {l : List Evt} (h : eventsOk t l = true) : ∀ (j i : Nat) (hij : i ≤ j) (hj : j < l.length), (l[i]'(by omega)).time ≤ l[j].time := by
  intro j
  induction j with
  | zero => intro i hij hj; obtain rfl : i = 0 := by omega
            exact Int.le_refl _
  | succ j ih =>
    intro i hij hj
    by_cases e : i = j + 1
    · subst e; exact Int.le_refl _
    · have h1 := ih i (by omega) (by omega)
      have h2 := (fits_step (eventsOk_at h (j + 1) hj)).2.1 (by simp; omega)
      have e2 : gt (l.take (j + 1)) (((l.take (j + 1)).length : Int) - 1) = l[j] := by
        have : ((l.take (j + 1)).length : Int) - 1 = (j : Nat) := by simp; omega
        rw [this, gt_nat (by simp; omega)]; simp
      rw [e2] at h2
      omega
theorem evTimes_eq {t : List Nod} {l : List Evt} {now : Int} : (eventsOk t l && l.all (fun e => inR e.time 0 now)) =
    (eventsOk t l && (decide (l.length = 0) || (decide (0 ≤ (gt l 0).time) && decide ((gt l ((l.length : Int) - 1)).time ≤ now)))) := by
  by_cases h : eventsOk t l = true
  · rw [h, Bool.true_and, Bool.true_and, Bool.eq_iff_iff]
    simp only [List.all_eq_true, inR_true, Bool.or_eq_true, Bool.and_eq_true, decide_eq_true_eq]
    by_cases h0 : l.length = 0
    · have : l = [] := by simpa using h0
      subst this; simp
    · have e1 : gt l ((l.length : Int) - 1) = l[l.length - 1] := by
        have : (l.length : Int) - 1 = ((l.length - 1 : Nat) : Int) := by omega
        rw [this, gt_nat]
      have e0 : gt l 0 = l[0] := gt_nat (i := 0) (by omega)
      rw [e1, e0]
      constructor
      · intro hh; exact .inr ⟨(hh _ (List.getElem_mem (by omega))).1, (hh _ (List.getElem_mem (by omega))).2⟩
      · rintro (hh | ⟨h1, h2⟩)
        · omega
        · intro x hx
          obtain ⟨i, hi, rfl⟩ := List.mem_iff_getElem.1 hx
          have a := eventsOk_time h i 0 (by omega) hi
          have b := eventsOk_time h (l.length - 1) i (by omega) (by omega)
          omega
  · simp [h]
theorem szR_hi {n : Nat} {k : Int} (h : k ≤ 1048576) : szR n k ≤ 1048576 := by rcases szR_or n k with q | q <;> omega
def szN : List Nat → Int → Int
  | [], k => k
  | n :: ns, k => if szR n k < 0 then -1 else szN ns (szR n k)
theorem szN_eq : ∀ (ns : List Nat) (k : Int), 0 ≤ k → szN ns k = szR ns.sum k
  | [], k, h => by rcases szR_or 0 k with q | q <;> simp [szN] <;> omega
  | n :: ns, k, h => by
    simp only [szN, List.sum_cons]
    rcases szR_or n k with q | q
    · rw [if_pos (by omega)]; rcases szR_or (n + ns.sum) k with q' | q' <;> omega
    · rw [if_neg (by omega), szN_eq ns _ (by omega), q.2]
      rcases szR_or ns.sum (k - n) with q' | q' <;> rcases szR_or (n + ns.sum) k with q2 | q2 <;> omega
theorem slt_szN (s : Slt) {k : Int} (h : 0 ≤ k) : szR (sltsz s) k = szN [s.ages.length, s.used.length] k := by rw [szN_eq _ _ h]; simp [sltsz]
theorem spr_szN (s : Spr) {k : Int} (h : 0 ≤ k) : szR (sprsz s) k = szN [s.told.length, s.work.length] k := by rw [szN_eq _ _ h]; simp [sprsz]
theorem tms_szN (s : Tms) {k : Int} (h : 0 ≤ k) : szR (tmssz s) k = szN [s.heap.length, s.list.length] k := by rw [szN_eq _ _ h]; simp [tmssz]
theorem afs_szN (s : Afs) {k : Int} (h : 0 ≤ k) : szR (afssz s) k = szN [sltsz s.slots, s.list.length] k := by rw [szN_eq _ _ h]; simp [afssz]
theorem wld_szN (s : Wld) {k : Int} (h : 0 ≤ k) : szR (wldsz s) k = szN [s.progs.length + lsum (·.length) s.progs, s.tree.length, s.events.length, sprsz s.spread, tmssz s.timers, afssz s.afters, s.tasks.length, s.groups.length + lsum (·.waits.length) s.groups, s.sights.length, s.began.length, s.rang.length] k := by
  rw [szN_eq _ _ h]; simp [wldsz]; congr 1; omega

theorem take_gt {α : Type} [Inhabited α] {l : List α} {i j : Nat} (h : j < i) (hi : i ≤ l.length) : gt (l.take i) (j : Int) = gt l (j : Int) := by
  rw [gt_nat (by simp; omega), gt_nat (by omega)]; simp
theorem seqs_false {l : List Twg} {i : Nat} (hi : i < l.length) (hJ : allI (fun i x => !(decide (0 ≤ seqAt (l.take i.toNat) x.seq))) (l.drop i) i = seqsOk l) (h : 0 ≤ seqAt (l.take i) (gt l (i : Int)).seq) : seqsOk l = false := by
  rw [drop_gt hi] at hJ; simp only [allI, Int.toNat_natCast] at hJ; rw [← hJ]; simp; intro h'; omega
theorem seqs_next {l : List Twg} {i : Nat} (hi : i < l.length) (hJ : allI (fun i x => !(decide (0 ≤ seqAt (l.take i.toNat) x.seq))) (l.drop i) i = seqsOk l) (h : seqAt (l.take i) (gt l (i : Int)).seq < 0) :
    allI (fun i x => !(decide (0 ≤ seqAt (l.take i.toNat) x.seq))) (l.drop (i + 1)) ((i + 1 : Nat) : Int) = seqsOk l := by
  rw [drop_gt hi] at hJ; simp only [allI, Int.toNat_natCast] at hJ; rw [← hJ]
  have : (decide (0 ≤ seqAt (l.take i) (gt l (i : Int)).seq)) = false := by simp; omega
  rw [this]; simp
theorem idx_here {α : Type} [Inhabited α] {q : α → Bool} {l : List α} {i j : Nat} (hj : j < i) (hi : i ≤ l.length) {r : Int} (hJ : idxI q ((l.take i).drop j) j = r) (hq : q (gt l (j : Int)) = true) : r = j := by
  rw [drop_gt (by simp; omega)] at hJ; simp only [idxI, take_gt hj hi, hq, if_true] at hJ; exact hJ.symm
theorem idx_on {α : Type} [Inhabited α] {q : α → Bool} {l : List α} {i j : Nat} (hj : j < i) (hi : i ≤ l.length) {r : Int} (hJ : idxI q ((l.take i).drop j) j = r) (hq : q (gt l (j : Int)) = false) : idxI q ((l.take i).drop (j + 1)) ((j + 1 : Nat) : Int) = r := by
  rw [drop_gt (by simp; omega)] at hJ; simp only [idxI, take_gt hj hi, hq] at hJ; exact hJ
theorem idx_end {α : Type} [Inhabited α] {q : α → Bool} {l : List α} {i j : Nat} (hj : i ≤ j) {r : Int} (hJ : idxI q ((l.take i).drop j) j = r) : r = -1 := by
  rw [List.drop_eq_nil_of_le (by simp; omega)] at hJ; simp only [idxI] at hJ; exact hJ.symm

theorem fits_eq {t : List Nod} {l : List Evt} {e : Evt} {i : Nat} (hi : i < l.length) : fits t (l.take i) e =
    (isEvent t e && (!(decide (0 < i) && decide (e.time < (gt l ((i : Int) - 1)).time)) && decide (idxI (fun x => (chain t e.node).contains x.node) (l.take i) 0 < 0))) := by
  have hl : (l.take i).length = i := by simp; omega
  unfold fits
  rw [firstOf_idx, hl]
  by_cases h0 : 0 < i
  · have e2 : gt (l.take i) ((i : Int) - 1) = gt l ((i : Int) - 1) := by
      have : (i : Int) - 1 = ((i - 1 : Nat) : Int) := by omega
      rw [this]; exact take_gt (by omega) (by omega)
    rw [e2]
    generalize idxI (fun x => (chain t e.node).contains x.node) (l.take i) 0 = k
    by_cases q : k < 0 <;> cases isEvent t e <;> by_cases r : e.time < (gt l ((i : Int) - 1)).time <;> simp [q, r, h0]
  · generalize idxI (fun x => (chain t e.node).contains x.node) (l.take i) 0 = k
    by_cases q : k < 0 <;> cases isEvent t e <;> simp [q, h0]
theorem isEvent_in {t : List Nod} {e : Evt} (h : isEvent t e = true) : 0 ≤ e.node ∧ e.node < t.length := by
  unfold isEvent at h; split at h
  · cases h
  · rename_i g; simpa [isIn_true] using g
theorem afsAt_here {l : List Afr} {i : Nat} (hi : i < l.length) : (afsAt l (gt l (i : Int)).han == (i : Int)) = decide (idxI (fun y => y.han == (gt l (i : Int)).han) (l.take i) 0 < 0) := by
  have key : ∀ (q : Afr → Bool) (l : List Afr) (i : Nat) (hi : i < l.length) (k : Int), 0 ≤ k → q l[i] = true → ((idxI q l k = k + i) ↔ idxI q (l.take i) k < 0) := by
    intro q l
    induction l with
    | nil => intro i hi; simp at hi
    | cons x xs ih =>
      intro i hi k hk hq
      cases i with
      | zero => simp at hq; simp [idxI, hq]
      | succ i =>
        simp only [List.take_succ_cons, idxI]
        by_cases hx : q x = true
        · rw [if_pos hx, if_pos hx]; omega
        · rw [if_neg hx, if_neg hx]
          have := ih i (by simpa using hi) (k + 1) (by omega) (by simpa using hq)
          rw [← this]; omega
  have := key (fun y => y.han == (gt l (i : Int)).han) l i hi 0 (Int.le_refl 0) (by rw [gt_nat hi]; simp)
  rw [Bool.eq_iff_iff]; simp only [afsAt, beq_iff_eq, decide_eq_true_eq]; rw [← this]; omega
end Go.AE
end

section
/- What the conditions of a world answer. -/
namespace Go.AE

def doneN (t : List Nod) (l : List Evt) (n : Int) : Bool := isIn n t && (firstOf t l n).isSome
def belowB (t : List Nod) (l : List Evt) (i : Int) (n : Nod) : Bool :=
  !(doneN t l i && (n.kind == 4 || n.kind == 0) || !doneN t l i && (n.kind != 4 && doneN t l n.up))
def below (w : Wld) : Bool := wldOk w && allI (belowB w.tree w.events) w.tree 0
end Go.AE
end

section
/- What the reference asks of tasks, against the program. -/
namespace Go.AE
def tskS (t : Tsk) : Bool :=
  inR t.prog 0 7 && (inR t.pc 0 12 && (inR t.reg 0 999 && (inR t.group (-1) 7 && (inR t.err 0 99 &&
    (if t.state == 1 then tsk1 t && t.err == 0 else inR t.state 0 2 && (t.why == 0 && (t.what == 0 && (t.timer == -1 && (t.state == 2 || t.err == 0)))))))))
theorem tskOk_eq (t : Tsk) : tskOk t = tskS t := by
  have h1 : t.state = 0 ∨ t.state = 1 ∨ t.state = 2 ∨ (¬ (0 ≤ t.state ∧ t.state ≤ 2) ∧ t.state ≠ 1 ∧ t.state ≠ 2) := by omega
  have h2 : t.why = 0 ∨ t.why = 1 ∨ t.why = 2 ∨ t.why = 3 ∨ t.why = 4 ∨ (¬ (1 ≤ t.why ∧ t.why ≤ 4) ∧ t.why ≠ 0 ∧ t.why ≠ 1 ∧ t.why ≠ 2 ∧ t.why ≠ 3 ∧ t.why ≠ 4) := by omega
  rw [Bool.eq_iff_iff]
  unfold tskOk tskS tsk1
  simp only [Bool.and_eq_true, inR_true, beq_iff_eq, Bool.or_eq_true]
  rcases h1 with h | h | h | ⟨h, h', h''⟩ <;> rcases h2 with g | g | g | g | g | ⟨g0, g1, g2, g3, g4, g5⟩ <;>
    simp_all [inR] <;> omega

theorem tskOk_facts {t : Tsk} (h : tskOk t = true) : 0 ≤ t.prog ∧ t.prog ≤ 7 ∧ 0 ≤ t.pc ∧ t.pc ≤ 12 ∧ 0 ≤ t.reg ∧ t.reg ≤ 999 ∧ -1 ≤ t.group ∧ t.group ≤ 7 ∧ 0 ≤ t.err ∧ t.err ≤ 99 ∧ 0 ≤ t.state ∧ t.state ≤ 2 := by
  rw [tskOk_eq] at h
  simp only [tskS, Bool.and_eq_true, inR_true] at h
  obtain ⟨h1, h2, h3, h4, h5, h6⟩ := h
  have : 0 ≤ t.state ∧ t.state ≤ 2 := by
    split at h6
    · rename_i g; simp at g; omega
    · simp only [Bool.and_eq_true, inR_true] at h6; exact h6.1
  omega
theorem tasksOk_at {l : List Tsk} (h : tasksOk l = true) {i : Int} (h0 : 0 ≤ i) (h1 : i < l.length) : tskOk (gt l i) = true := by
  simp only [tasksOk, Bool.and_eq_true, Bool.not_eq_true', List.any_eq_false] at h
  have := h.2 _ (gt_mem h0 h1)
  simpa using this
def all1 {α : Type} (q : α → Bool) (l : List α) : Bool := l.all q
theorem all1_nil {α : Type} (q : α → Bool) : all1 q [] = true := rfl
theorem all1_cons {α : Type} (q : α → Bool) (x : α) (xs : List α) : all1 q (x :: xs) = (q x && all1 q xs) := rfl
theorem isGroup_eq (w : Wld) (g : Grp) : isGroup w g = (grpOk g && (isIn g.node w.tree && ((gt w.tree g.node).kind == 1 && all1 (fun i => isIn i w.tasks) g.waits))) := by
  simp only [isGroup, all1, List.all_eq_not_any_not]
end Go.AE
end

section
/- What the reference asks of sights, against the program. -/
namespace Go.AE
theorem isSight_eq (w : Wld) (s : Sgt) : isSight w s = (isIn s.node w.tree && (inR s.pos 0 w.events.length && (inR s.err 0 2 && (if s.err == 1 then inR s.cause 0 999 else s.cause == 0)))) := by
  unfold isSight
  by_cases h : s.err = 1
  · cases isIn s.node w.tree <;> cases inR s.pos 0 w.events.length <;> simp [h, inR]
  · have : inR s.err 0 2 = (s.err == 0 || s.err == 2) := by rw [Bool.eq_iff_iff, inR_true]; simp; omega
    rw [this]
    cases isIn s.node w.tree <;> cases inR s.pos 0 w.events.length <;> simp [h]
end Go.AE
end

section
/- What a valid world gives; lists that are picked. -/
namespace Go.AE

theorem wldOk_all {w : Wld} (h : wldOk w = true) : 0 ≤ w.now ∧ w.progs.length ≤ 8 ∧ w.progs.all progOk = true ∧ eventsOk w.tree w.events = true ∧ isSpread w.spread w.tree = true ∧ w.events.all (fun e => inR e.time 0 w.now) = true ∧
    tmsOk w.timers = true ∧ w.timers.list.all (isTimer w) = true ∧ afsOk w.afters = true ∧ w.afters.list.all (fun a => isIn a.node w.tree) = true ∧ tasksOk w.tasks = true ∧ w.tasks.all (isTask w) = true ∧
    w.groups.length ≤ 8 ∧ w.groups.all (isGroup w) = true ∧ w.sights.length ≤ 2000 ∧ w.began.length ≤ 2000 ∧ w.rang.length ≤ 2000 ∧ w.sights.all (isSight w) = true ∧ w.began.all (fun n => inR n 0 99) = true ∧ w.rang.all (fun n => inR n 0 99) = true := by
  simpa only [wldOk, Bool.and_eq_true, decide_eq_true_eq] using h
theorem wldOk_ev {w : Wld} (h : wldOk w = true) : eventsOk w.tree w.events = true := (wldOk_all h).2.2.2.1
theorem wldOk_tree {w : Wld} (h : wldOk w = true) : treeOk w.tree = true := eventsOk_tree (wldOk_ev h)
theorem isSight_in {w : Wld} {s : Sgt} (h : isSight w s = true) : 0 ≤ s.node ∧ s.node < w.tree.length ∧ 0 ≤ s.pos ∧ s.pos ≤ w.events.length := by
  rw [isSight_eq] at h
  simp only [Bool.and_eq_true, inR_true, isIn_true] at h
  omega
theorem wldOk_sight {w : Wld} (h : wldOk w = true) {i : Int} (h0 : 0 ≤ i) (h1 : i < w.sights.length) : 0 ≤ (gt w.sights i).node ∧ (gt w.sights i).node < w.tree.length ∧ 0 ≤ (gt w.sights i).pos ∧ (gt w.sights i).pos ≤ w.events.length :=
  isSight_in (List.all_eq_true.1 (wldOk_all h).2.2.2.2.2.2.2.2.2.2.2.2.2.2.2.2.2.1 _ (gt_mem h0 h1))
end Go.AE
end

section
/- Abstract machine: what the arguments read as. -/
namespace Go.AE
open Go.ChangeShapes Go.Deep

inductive Sh where
  | int (k : IntKind)
  | bool
  | str
  | slice (e : Sh)
  | nil
  | cons (s r : Sh)

def Sh.size : Sh → Nat
  | .nil => 0
  | .cons s r => s.size + r.size
  | _ => 1
def ShR (B : Nat) : Sh → List AV → Prop
  | .int k, l => ∃ n, l = [.int k n] ∧ (Lit.int k n).wf = true
  | .bool, l => ∃ b, l = [.bool b]
  | .str, l => ∃ s, l = [.str s] ∧ s.size ≤ B
  | .slice e, l => l = [.nil] ∨ ∃ xs, l = [.view true e.size xs] ∧ xs.length ≤ B ∧ ∀ c ∈ xs, ShR B e c
  | .nil, l => l = []
  | .cons s r, l => ∃ x y, l = x ++ y ∧ ShR B s x ∧ ShR B r y

theorem ShR.length {B : Nat} : ∀ {s : Sh} {l : List AV}, ShR B s l → l.length = s.size
  | .int k, l, ⟨n, h, _⟩ => by subst h; rfl
  | .bool, l, ⟨n, h⟩ => by subst h; rfl
  | .str, l, ⟨n, h, _⟩ => by subst h; rfl
  | .slice e, l, h => by rcases h with h | ⟨xs, h, _⟩ <;> subst h <;> rfl
  | .nil, l, h => by simp only [ShR] at h; subst h; rfl
  | .cons s r, l, ⟨x, y, h, h1, h2⟩ => by subst h; simp [Sh.size, h1.length, h2.length]

def fsOk (P : Program) (ok : TypeId → Sh → Bool) : Nat → List Field → Sh → Bool
  | _, [], .nil => true
  | off, f :: fs, .cons a b => f.offset == off && ok f.type a && P.cellsOf f.type == a.size && fsOk P ok (off + a.size) fs b
  | _, _, _ => false
section
variable {H : Type} {enc : TypeId × Value → H} {P : Program} {w : World} {base : Nat} {spare : Nat → Bool} {held : Bool} {ρ : Names} {I : Imm}

def VRl (ρ : Names) (I : Imm) (w : World) (l : List AV) (cs : List Value) : Prop := cs.length = l.length ∧ ∀ (i : Nat) a u, l[i]? = some a → cs[i]? = some u → VR ρ I w a u

theorem VRl.one {a : AV} {u : Value} (h : VR ρ I w a u) : VRl ρ I w [a] [u] := ⟨rfl, fun i x v hx hv => by
  cases i with
  | zero => simp at hx hv; subst hx; subst hv; exact h
  | succ => simp at hx⟩
theorem VRl.append {a b : List AV} {u v : List Value} (h1 : VRl ρ I w a u) (h2 : VRl ρ I w b v) : VRl ρ I w (a ++ b) (u ++ v) := by
  refine ⟨by simp [h1.1, h2.1], fun i x y hx hy => ?_⟩
  by_cases hi : i < a.length
  · rw [List.getElem?_append_left hi] at hx
    rw [List.getElem?_append_left (by rw [h1.1]; exact hi)] at hy
    exact h1.2 i x y hx hy
  · rw [List.getElem?_append_right (by omega)] at hx
    rw [List.getElem?_append_right (by rw [h1.1]; omega), h1.1] at hy
    exact h2.2 _ x y hx hy

structure Blk (blk : DataW H → Nat) : Prop where
  str : ∀ b, b.length ≤ blk (.lit (.string b))
  len : ∀ es sp, es.length ≤ blk (.slice es sp)
  elem : ∀ es sp, ∀ e ∈ es, blk e ≤ blk (.slice es sp)
  part : ∀ ps, ∀ e ∈ ps, blk e ≤ blk (.agg ps)

mutual
def abulk {H : Type} : DataW H → Nat
  | .lit (.string bytes) => bytes.length + 1
  | .lit _ => 1
  | .nil => 1
  | .ptr d => abulk d + 1
  | .slice elems spare => abulks elems + abulks spare + 1
  | .agg parts => abulks parts + 1
  | .iface _ d => abulk d + 1
  | .map _ => 1
  | .held _ => 1
def abulks {H : Type} : List (DataW H) → Nat
  | [] => 0
  | d :: r => abulk d + abulks r
end
end
end Go.AE
end

section
/- Abstract machine: a law's row. -/
namespace Go.AE
open Go.RowKit Go.ChangeAt

def topA : Sh → List AV → AV
  | .nil, l => .agg l
  | .cons .., l => .agg l
  | _, l => l.headD .dead

def Imm0 (w : World) : Imm := fun _ b => b < w.heap.size

section
variable {H : Type} {enc : TypeId × Value → H} {P : Program} {w : World} {base : Nat} {spare : Nat → Bool} {held : Bool} {ρ : Names} {I : Imm}

theorem VRl.head {a : AV} {l : List AV} {u : Value} {us : List Value} (h : VRl ρ I w (a :: l) (u :: us)) : VR ρ I w a u := h.2 0 a u rfl rfl

end

theorem law_calls {P : Program} {f : FuncId} {args : List AV} {W : World} {vs : Array Value} (hc : PC P f args (.bool true)) (hv : VRs (fun _ => none) (Imm0 W) W args vs) :
    Calls P f vs W fun e w' => e = .returned (.bool true) ∧ Below W.heap.size W w' := by
  have := hc (fun _ => none) 0 (fun r _ _ => r = .bool true) rfl
  refine (this.2 (fun _ => none) (Imm0 W) W vs (fun _ _ h => (by cases h)) ⟨fun _ _ h => (by cases h), fun _ _ _ h => (by cases h), fun _ _ _ _ _ _ _ h => (by cases h), fun _ _ _ _ _ h => (by cases h), fun _ _ h => h⟩ hv).mono ?_
  rintro e w' ⟨v, r, h', nx', ρ', I', rfl, rfl, hvr, H', E, _, _, _⟩
  cases hvr
  exact ⟨rfl, E.os, E.tape, E.output, E.size, fun k hk => E.frame k hk fun ⟨_, _, _, h, _⟩ => (by cases h)⟩

theorem vrs1 {ρ I w} {a : AV} {u : Value} (h : VR ρ I w a u) : VRs ρ I w [a] #[u] := ⟨rfl, fun i x v hx hv => by
  match i with
  | 0 => simp at hx hv; subst hx; subst hv; exact h
  | _ + 1 => simp at hx⟩
end Go.AE
end

section
/- Abstract machine: arguments of a law, as the program's data. -/
namespace Go.AE

def Up (x y : AV) : Prop := ∀ (ρ : Names) (I : Imm) (w : World) (u : Value), VR ρ I w x u → VR ρ I w y u
theorem Up.refl (x : AV) : Up x x := fun _ _ _ _ h => h
theorem Up.nil (p : Bool) (sz : Nat) : Up .nil (.view p sz []) := fun ρ I w u h => by cases h; exact .viewNil p sz none 0
def UpL (l l' : List AV) : Prop := l'.length = l.length ∧ ∀ (i : Nat) x y, l[i]? = some x → l'[i]? = some y → Up x y
theorem UpL.refl (l : List AV) : UpL l l := ⟨rfl, fun i x y hx hy => by rw [hx] at hy; cases hy; exact .refl _⟩
theorem UpL.one {x y : AV} (h : Up x y) : UpL [x] [y] := ⟨rfl, fun i a b ha hb => by
  cases i with
  | zero => simp at ha hb; subst ha; subst hb; exact h
  | succ i => simp at ha⟩
theorem UpL.append {a b c d : List AV} (h1 : UpL a c) (h2 : UpL b d) : UpL (a ++ b) (c ++ d) := by
  refine ⟨by simp [h1.1, h2.1], fun i x y hx hy => ?_⟩
  by_cases hi : i < a.length
  · rw [List.getElem?_append_left hi] at hx
    rw [List.getElem?_append_left (by rw [h1.1]; exact hi)] at hy
    exact h1.2 i x y hx hy
  · rw [List.getElem?_append_right (by omega)] at hx
    rw [List.getElem?_append_right (by rw [h1.1]; omega), h1.1] at hy
    exact h2.2 _ x y hx hy
theorem UpL.agg {a b : List AV} (h : UpL a b) : Up (.agg a) (.agg b) := fun ρ I w u hv => by
  cases hv with
  | agg _ vs h1 h2 =>
    refine .agg b vs (by rw [h1, h.1]) fun i y u hy hu => ?_
    have hi : i < a.length := by rw [← h.1]; exact (List.getElem?_eq_some_iff.1 hy).1
    exact h.2 i _ y (List.getElem?_eq_getElem hi) hy _ _ _ _ (h2 i _ u (List.getElem?_eq_getElem hi) hu)
theorem Up.view {p : Bool} {sz : Nat} {xs ys : List (List AV)} (hl : ys.length = xs.length) (hc : ∀ (i : Nat) c d, xs[i]? = some c → ys[i]? = some d → UpL c d) : Up (.view p sz xs) (.view p sz ys) := fun ρ I w u hv => by
  have back : ∀ {i j : Nat} {y : AV}, get2 ys i j = some y → ∃ x, get2 xs i j = some x ∧ Up x y := by
    intro i j y hy
    obtain ⟨d, hd, hj⟩ := get2_some hy
    have hi : i < xs.length := by rw [← hl]; exact (List.getElem?_eq_some_iff.1 hd).1
    have hx := List.getElem?_eq_getElem hi
    have hu := hc i _ d hx hd
    have hj' : j < (xs[i]).length := by rw [← hu.1]; exact (List.getElem?_eq_some_iff.1 hj).1
    exact ⟨(xs[i])[j], by simp [get2, hx], hu.2 j _ y (List.getElem?_eq_getElem hj') hj⟩
  generalize hz : AV.view p sz xs = z at hv
  cases hv <;> simp at hz
  · obtain ⟨rfl, rfl, rfl⟩ := hz
    obtain rfl : ys = [] := by simpa using hl
    exact .viewNil ..
  · obtain ⟨rfl, rfl, rfl⟩ := hz
    rename_i b off c h1 h2 h3 h4 h5 h6
    rw [← hl]
    refine .view p sz ys b off c h1 (by omega) (by omega) (fun i d hd => ?_) (fun i j y hy => ?_) (fun i j y u hy hu => ?_)
    · have hi : i < xs.length := by rw [← hl]; exact (List.getElem?_eq_some_iff.1 hd).1
      rw [(hc i _ d (List.getElem?_eq_getElem hi) hd).1]; exact h4 i _ (List.getElem?_eq_getElem hi)
    · obtain ⟨x, hx, _⟩ := back hy
      exact h5 i j x hx
    · obtain ⟨x, hx, hup⟩ := back hy
      exact hup _ _ _ _ (h6 i j x u hx hu)

def Rdr {α : Type} (sh : Sh) (c : α → List AV) (ok : Nat → α → Prop) : Prop := ∀ (B : Nat) (l : List AV), ShR B sh l → ∃ x, UpL l (c x) ∧ ok B x
def okT {α : Type} (B : Nat) (x : α) : Prop := True
theorem Rdr.int : Rdr (.int .i64) iv okT := fun B l h => by obtain ⟨n, rfl, _⟩ := h; exact ⟨n, UpL.refl _, trivial⟩
theorem Rdr.bool : Rdr .bool bv okT := fun B l h => by obtain ⟨n, rfl⟩ := h; exact ⟨n, UpL.refl _, trivial⟩
theorem Rdr.str : Rdr .str (fun s => [.str s]) (fun B (s : ByteArray) => s.size ≤ B) := fun B l h => by obtain ⟨n, rfl, h⟩ := h; exact ⟨n, UpL.refl _, h⟩
theorem Rdr.slice {α : Type} {e : Sh} {c : α → List AV} {ok : Nat → α → Prop} {sz : Nat} (hsz : e.size = sz) (h : Rdr e c ok) : Rdr (.slice e) (fun xs => [.view true sz (xs.map c)]) (fun B (xs : List α) => xs.length ≤ B ∧ ∀ x ∈ xs, ok B x) := fun B l hl => by
  subst hsz
  rcases hl with rfl | ⟨xs, rfl, hle, hx⟩
  · exact ⟨[], UpL.one (Up.nil _ _), by simp, by simp⟩
  · have : ∀ xs : List (List AV), (∀ c ∈ xs, ShR B e c) → ∃ ys : List α, ys.length = xs.length ∧ (∀ (i : Nat) a b, xs[i]? = some a → (ys.map c)[i]? = some b → UpL a b) ∧ ∀ y ∈ ys, ok B y := by
      intro xs
      induction xs with
      | nil => intro _; exact ⟨[], rfl, fun i a b h => by simp at h, by simp⟩
      | cons a xs ih =>
        intro hx
        obtain ⟨ys, h1, h2, h3⟩ := ih fun c hc => hx c (by simp [hc])
        obtain ⟨y, g1, g2⟩ := h B a (hx a (by simp))
        refine ⟨y :: ys, by simp [h1], fun i p q hp hq => ?_, fun z hz => ?_⟩
        · cases i with
          | zero => simp at hp hq; subst hp; subst hq; exact g1
          | succ i => exact h2 i p q (by simpa using hp) (by simpa using hq)
        · rcases List.mem_cons.1 hz with rfl | hz
          · exact g2
          · exact h3 z hz
    obtain ⟨ys, h1, h2, h3⟩ := this xs hx
    exact ⟨ys, UpL.one (Up.view (by simp [h1]) h2), by omega, h3⟩
theorem Rdr.nil : Rdr .nil (fun (_ : Unit) => []) okT := fun B l h => by simp only [ShR] at h; subst h; exact ⟨(), UpL.refl _, trivial⟩
theorem Rdr.cons {α β : Type} {s r : Sh} {c : α → List AV} {d : β → List AV} {ok1 : Nat → α → Prop} {ok2 : Nat → β → Prop} (h1 : Rdr s c ok1) (h2 : Rdr r d ok2) :
    Rdr (.cons s r) (fun p : α × β => c p.1 ++ d p.2) (fun B p => ok1 B p.1 ∧ ok2 B p.2) := fun B l hl => by
  obtain ⟨x, y, rfl, g1, g2⟩ := hl
  obtain ⟨a, u1, o1⟩ := h1 B x g1
  obtain ⟨b, u2, o2⟩ := h2 B y g2
  exact ⟨(a, b), u1.append u2, o1, o2⟩
theorem Rdr.map {α γ : Type} {s : Sh} {c : α → List AV} {ok : Nat → α → Prop} {c' : γ → List AV} {ok' : Nat → γ → Prop} (f : α → γ) (h : Rdr s c ok) (hc : ∀ x, c' (f x) = c x) (ho : ∀ B x, ok B x → ok' B (f x)) : Rdr s c' ok' := fun B l hl => by
  obtain ⟨x, u, o⟩ := h B l hl
  exact ⟨f x, by rw [hc]; exact u, ho B x o⟩

def i64S : Sh := .int .i64
def shInts : Nat → Sh → Sh
  | 0, r => r
  | n + 1, r => .cons i64S (shInts n r)
def shHan : Sh := shInts 2 .nil
def shInn : Sh := shInts 3 .nil
def shNod : Sh := shInts 5 .nil
def shEvt : Sh := shInts 4 .nil
def shTwg : Sh := shInts 3 .nil
def shTmr : Sh := shInts 4 (.cons .bool .nil)
def shAfr : Sh := .cons shHan (shInts 2 (.cons .bool .nil))
def shTsk : Sh := shInts 9 .nil
def shSgt : Sh := shInts 4 .nil
def shPik : Sh := shInts 2 .nil
def shOdr : Sh := shInts 5 .nil
def shGrp : Sh := shInts 3 (.cons (.slice i64S) (.cons i64S .nil))
def shSlt : Sh := .cons (.slice i64S) (.cons (.slice .bool) .nil)
def shSpr : Sh := .cons (.slice .bool) (.cons (.slice i64S) .nil)
def shTms : Sh := .cons (.slice shTwg) (.cons (.slice shTmr) (.cons i64S .nil))
def shAfs : Sh := .cons shSlt (.cons (.slice shAfr) .nil)
def shWld : Sh := .cons i64S (.cons (.slice (.slice shInn)) (.cons (.slice shNod) (.cons (.slice shEvt) (.cons shSpr (.cons shTms (.cons shAfs (.cons (.slice shTsk) (.cons (.slice shGrp) (.cons (.slice shSgt) (.cons (.slice i64S) (.cons (.slice i64S) .nil)))))))))))
theorem rdHan : Rdr shHan hanC okT := (Rdr.int.cons (Rdr.int.cons Rdr.nil)).map (fun p => ⟨p.1, p.2.1⟩) (fun _ => rfl) (fun _ _ _ => trivial)
theorem rdInn : Rdr shInn innC okT := (Rdr.int.cons (Rdr.int.cons (Rdr.int.cons Rdr.nil))).map (fun p => ⟨p.1, p.2.1, p.2.2.1⟩) (fun _ => rfl) (fun _ _ _ => trivial)
theorem rdTwg : Rdr shTwg twgC okT := (Rdr.int.cons (Rdr.int.cons (Rdr.int.cons Rdr.nil))).map (fun p => ⟨p.1, p.2.1, p.2.2.1⟩) (fun _ => rfl) (fun _ _ _ => trivial)
theorem rdNod : Rdr shNod nodC okT := (Rdr.int.cons (Rdr.int.cons (Rdr.int.cons (Rdr.int.cons (Rdr.int.cons Rdr.nil))))).map (fun p => ⟨p.1, p.2.1, p.2.2.1, p.2.2.2.1, p.2.2.2.2.1⟩) (fun _ => rfl) (fun _ _ _ => trivial)
theorem rdEvt : Rdr shEvt evtC okT := (Rdr.int.cons (Rdr.int.cons (Rdr.int.cons (Rdr.int.cons Rdr.nil)))).map (fun p => ⟨p.1, p.2.1, p.2.2.1, p.2.2.2.1⟩) (fun _ => rfl) (fun _ _ _ => trivial)
theorem rdSgt : Rdr shSgt sgtC okT := (Rdr.int.cons (Rdr.int.cons (Rdr.int.cons (Rdr.int.cons Rdr.nil)))).map (fun p => ⟨p.1, p.2.1, p.2.2.1, p.2.2.2.1⟩) (fun _ => rfl) (fun _ _ _ => trivial)
theorem rdTmr : Rdr shTmr tmrC okT := (Rdr.int.cons (Rdr.int.cons (Rdr.int.cons (Rdr.int.cons (Rdr.bool.cons Rdr.nil))))).map (fun p => ⟨p.1, p.2.1, p.2.2.1, p.2.2.2.1, p.2.2.2.2.1⟩) (fun _ => rfl) (fun _ _ _ => trivial)
theorem rdAfr : Rdr shAfr afrC okT := (rdHan.cons (Rdr.int.cons (Rdr.int.cons (Rdr.bool.cons Rdr.nil)))).map (fun p => ⟨p.1, p.2.1, p.2.2.1, p.2.2.2.1⟩) (fun _ => rfl) (fun _ _ _ => trivial)
theorem rdTsk : Rdr shTsk tskC okT := (Rdr.int.cons (Rdr.int.cons (Rdr.int.cons (Rdr.int.cons (Rdr.int.cons (Rdr.int.cons (Rdr.int.cons (Rdr.int.cons (Rdr.int.cons Rdr.nil))))))))).map
  (fun p => ⟨p.1, p.2.1, p.2.2.1, p.2.2.2.1, p.2.2.2.2.1, p.2.2.2.2.2.1, p.2.2.2.2.2.2.1, p.2.2.2.2.2.2.2.1, p.2.2.2.2.2.2.2.2.1⟩) (fun _ => rfl) (fun _ _ _ => trivial)
theorem rdInts : Rdr (.slice i64S) (fun xs => [.view true 1 (xs.map iv)]) (fun B (xs : List Int) => xs.length ≤ B) := (Rdr.slice rfl Rdr.int).map id (fun _ => rfl) (fun _ _ h => h.1)
theorem rdBools : Rdr (.slice .bool) (fun xs => [.view true 1 (xs.map bv)]) (fun B (xs : List Bool) => xs.length ≤ B) := (Rdr.slice rfl Rdr.bool).map id (fun _ => rfl) (fun _ _ h => h.1)
theorem rdS {α : Type} {e : Sh} {c : α → List AV} {sz : Nat} (hsz : e.size = sz) (h : Rdr e c okT) : Rdr (.slice e) (fun xs => [.view true sz (xs.map c)]) (fun B (xs : List α) => xs.length ≤ B) := (Rdr.slice hsz h).map id (fun _ => rfl) (fun _ _ h => h.1)
theorem rdGrp : Rdr shGrp (grpV true) okT := (Rdr.int.cons (Rdr.int.cons (Rdr.int.cons (rdInts.cons (Rdr.int.cons Rdr.nil))))).map (fun p => ⟨p.1, p.2.1, p.2.2.1, p.2.2.2.1, p.2.2.2.2.1⟩) (fun _ => rfl) (fun _ _ _ => trivial)
theorem rdPrg : Rdr (.slice shInn) (prgV true) okT := (rdS rfl rdInn).map id (fun _ => rfl) (fun _ _ _ => trivial)
abbrev FT : Nat → Bool := fun _ => true
theorem rdSlt : Rdr shSlt (sltV FT) okT := (rdInts.cons (rdBools.cons Rdr.nil)).map (fun p => ⟨p.1, p.2.1⟩) (fun _ => rfl) (fun _ _ _ => trivial)
theorem rdSpr : Rdr shSpr (sprV FT) okT := (rdBools.cons (rdInts.cons Rdr.nil)).map (fun p => ⟨p.1, p.2.1⟩) (fun _ => rfl) (fun _ _ _ => trivial)
theorem rdTms : Rdr shTms (tmsV FT) okT := ((rdS rfl rdTwg).cons ((rdS rfl rdTmr).cons (Rdr.int.cons Rdr.nil))).map (fun p => ⟨p.1, p.2.1, p.2.2.1⟩) (fun _ => rfl) (fun _ _ _ => trivial)
theorem rdAfs : Rdr shAfs (afsV FT) okT := (rdSlt.cons ((rdS rfl rdAfr).cons Rdr.nil)).map (fun p => ⟨p.1, p.2.1⟩) (fun _ => rfl) (fun _ _ _ => trivial)
theorem rdWld : Rdr shWld (wldV FT) okT := (Rdr.int.cons ((rdS rfl rdPrg).cons ((rdS rfl rdNod).cons ((rdS rfl rdEvt).cons (rdSpr.cons (rdTms.cons (rdAfs.cons ((rdS rfl rdTsk).cons ((rdS rfl rdGrp).cons ((rdS rfl rdSgt).cons (rdInts.cons (rdInts.cons Rdr.nil)))))))))))).map
  (fun p => ⟨p.1, p.2.1, p.2.2.1, p.2.2.2.1, p.2.2.2.2.1, p.2.2.2.2.2.1, p.2.2.2.2.2.2.1, p.2.2.2.2.2.2.2.1, p.2.2.2.2.2.2.2.2.1, p.2.2.2.2.2.2.2.2.2.1, p.2.2.2.2.2.2.2.2.2.2.1, p.2.2.2.2.2.2.2.2.2.2.2.1⟩) (fun _ => rfl) (fun _ _ _ => trivial)
theorem Rdr.arg {α : Type} {s r : Sh} {c : α → List AV} {ok : Nat → α → Prop} (h : Rdr (.cons s r) c ok) {B : Nat} {l : List AV} (hl : ShR B (.cons s r) l) : ∃ x, Up (topA (.cons s r) l) (.agg (c x)) ∧ ok B x := by
  obtain ⟨x, u, o⟩ := h B l hl
  exact ⟨x, u.agg, o⟩
end Go.AE
end

section
/- Abstract machine: what the arguments read as, by their weights: every slice and string takes at most so many bytes. -/
namespace Go.AE
open Go.ChangeShapes Go.Deep Go.RowKit Go.ChangeAt

def shOkW (P : Program) : Nat → TypeId → Sh → Bool
  | 0, _, _ => false
  | n + 1, t, s =>
    match P.underlying t, s with
    | some (.int k), .int k' => decide (k = k')
    | some .bool, .bool => true
    | some .string, .str => true
    | some (.slice e), .slice s => shOkW P n e s && P.cellsOf e == s.size && (decide (0 < s.size) && decide (0 < P.bytesOf e))
    | some (.struct fs), s => fsOk P (shOkW P n) 0 fs.toList s && P.cellsOf t == s.size
    | _, _ => false

section
variable {H : Type} {enc : TypeId × Value → H} {P : Program} {w : World} {base : Nat} {spare : Nat → Bool} {held : Bool} {ρ : Names} {I : Imm}

def Light (P : Program) (t : TypeId) (d : DataW H) : Prop := (d.weights P t).all (· ≤ reachBytes) = true
theorem light_str {t : TypeId} {b : List UInt8} (h : Light (H := H) P t (.lit (.string b))) : b.length ≤ reachBytes := by
  simp only [Light, DataW.weights, List.all_cons, Bool.and_eq_true, decide_eq_true_eq] at h; exact h.1
theorem light_len {t e : TypeId} {es sp : List (DataW H)} (hu : P.underlying t = some (.slice e)) (hb : 0 < P.bytesOf e) (h : Light P t (.slice es sp)) : es.length ≤ reachBytes := by
  simp only [Light, DataW.weights, hu, List.all_cons, Bool.and_eq_true, decide_eq_true_eq] at h
  have h1 := h.1
  have h2 : (es.length + sp.length) * 1 ≤ (es.length + sp.length) * P.bytesOf e := Nat.mul_le_mul_left _ hb
  omega
theorem light_all {e : TypeId} : ∀ {es : List (DataW H)}, (DataW.weightsAll P e es).all (· ≤ reachBytes) = true → ∀ d ∈ es, Light P e d
  | [], _, d, hd => by simp at hd
  | x :: xs, h, d, hd => by
    simp only [DataW.weightsAll, List.all_append, Bool.and_eq_true] at h
    rcases List.mem_cons.1 hd with rfl | hd
    · exact h.1
    · exact light_all h.2 d hd
theorem light_elem {t e : TypeId} {es sp : List (DataW H)} (hu : P.underlying t = some (.slice e)) (h : Light P t (.slice es sp)) : ∀ d ∈ es, Light P e d := by
  simp only [Light, DataW.weights, hu, List.all_cons, List.all_append, Bool.and_eq_true] at h
  exact light_all h.2.1
theorem light_each : ∀ {ts : List TypeId} {ps : List (DataW H)}, (DataW.weightsEach P ts ps).all (· ≤ reachBytes) = true → ∀ (i : Nat) t d, ts[i]? = some t → ps[i]? = some d → Light P t d
  | [], _, _, i, t, d, h1, _ => by simp at h1
  | t0 :: ts, [], _, i, t, d, _, h2 => by simp at h2
  | t0 :: ts, p :: ps, h, i, t, d, h1, h2 => by
    simp only [DataW.weightsEach, List.all_append, Bool.and_eq_true] at h
    cases i with
    | zero => simp at h1 h2; subst h1; subst h2; exact h.1
    | succ i => exact light_each h.2 i t d (by simpa using h1) (by simpa using h2)
theorem light_part {t : TypeId} {fs : Array Field} {ps : List (DataW H)} (hu : P.underlying t = some (.struct fs)) (h : Light P t (.agg ps)) : ∀ (i : Nat) f d, fs.toList[i]? = some f → ps[i]? = some d → Light P f.type d := by
  simp only [Light, DataW.weights, hu] at h
  intro i f d hf hd
  exact light_each h i f.type d (by rw [List.getElem?_map, hf]; rfl) hd

theorem fields_vrW {ok : TypeId → Sh → Bool} {m : Nat} {cs : List Value}
    (ih : ∀ (s : Sh) (t : TypeId) (cs : List Value) (x : DataW H × List MemPlace), ok t s = true → DataW.trod enc P w base spare held m t cs = some x → Light P t x.1 → ∃ l, ShR reachBytes s l ∧ VRl ρ I w l cs) :
    ∀ (s : Sh) (fs : List Field) (off : Nat) (xs : List (DataW H × List MemPlace)), fsOk P ok off fs s = true → xs.length = fs.length →
      (∀ (i : Nat) (f : Field), fs[i]? = some f → DataW.trod enc P w base spare held m f.type ((cs.drop f.offset).take (P.cellsOf f.type)) = xs[i]?) →
      (∀ (i : Nat) f x, fs[i]? = some f → xs[i]? = some x → Light P f.type x.1) → off + s.size ≤ cs.length → ∃ l, ShR reachBytes s l ∧ VRl ρ I w l ((cs.drop off).take s.size) := by
  intro s
  induction s with
  | nil =>
    intro fs off xs hok hl hx hb hle
    exact ⟨[], rfl, by simp [Sh.size], fun i a u h => by simp at h⟩
  | cons a b _ ihb =>
    intro fs off xs hok hl hx hb hle
    cases fs with
    | nil => simp [fsOk] at hok
    | cons f fs =>
      cases xs with
      | nil => simp at hl
      | cons x xs =>
        simp only [fsOk, Bool.and_eq_true, beq_iff_eq] at hok
        obtain ⟨⟨⟨h1, h2⟩, h3⟩, h4⟩ := hok
        simp only [Sh.size] at hle
        have ht := hx 0 f rfl
        rw [h1, h3] at ht
        obtain ⟨la, ra, va⟩ := ih a f.type _ x h2 ht (hb 0 f x rfl rfl)
        obtain ⟨lb, rb, vb⟩ := ihb fs (off + a.size) xs h4 (by simpa using hl) (fun i g hg => by
          have := hx (i + 1) g (by simpa using hg)
          simpa using this) (fun i g y hg hy => hb (i + 1) g y (by simpa using hg) (by simpa using hy)) (by omega)
        refine ⟨la ++ lb, ⟨la, lb, rfl, ra, rb⟩, ?_⟩
        have e : (cs.drop off).take (Sh.cons a b).size = (cs.drop off).take a.size ++ (cs.drop (off + a.size)).take b.size := by
          simp only [Sh.size]
          rw [List.take_add, List.drop_drop]
        rw [e]
        exact va.append vb
  | _ =>
    intro fs off xs hok
    cases fs <;> simp [fsOk] at hok

theorem trod_vrW (hI : ∀ b, b < w.heap.size → I true b) : ∀ (n : Nat) (s : Sh) (t : TypeId) (fuel : Nat) (cs : List Value) (x : DataW H × List MemPlace),
    shOkW P n t s = true → DataW.trod enc P w base spare held fuel t cs = some x → Light P t x.1 → ∃ l, ShR reachBytes s l ∧ VRl ρ I w l cs := by
  have hB : reachBytes ≤ LIM := by decide
  intro n
  induction n with
  | zero => intro s t fuel cs x h; simp [shOkW] at h
  | succ n ih =>
    intro s t fuel cs x hs ht hb
    unfold shOkW at hs
    split at hs
    · rename_i k k' hu
      simp only [decide_eq_true_eq] at hs
      subst hs
      obtain ⟨z, rfl, rfl, hw⟩ := DataW.trod_int hu ht
      exact ⟨[.int k z], ⟨z, rfl, hw⟩, VRl.one (.int k z)⟩
    · rename_i hu
      obtain ⟨z, rfl, rfl⟩ := DataW.trod_bool hu ht
      exact ⟨[.bool z], ⟨z, rfl⟩, VRl.one (.bool z)⟩
    · rename_i hu
      obtain ⟨z, rfl, rfl, hw⟩ := DataW.trod_string hu ht
      refine ⟨[.str z], ⟨z, rfl, ?_⟩, VRl.one (.str z)⟩
      exact light_str (b := z.data.toList) hb
    · rename_i e se hu
      simp only [Bool.and_eq_true, beq_iff_eq, decide_eq_true_eq] at hs
      obtain ⟨⟨h1, h2⟩, h3, h3b⟩ := hs
      rcases open_slice hu ht with ⟨rfl, rfl⟩ | ⟨a, len, cap, m, n', D, Pl, rfl, hba, hl, hm, hmm, rfl, hx⟩
      · exact ⟨[.nil], .inl rfl, VRl.one .nil⟩
      · have hlm : len ≤ m := by rw [hmm]; split <;> omega
        have hlen : len ≤ reachBytes := by
          have := light_len hu h3b hb
          simp only [List.length_map, List.length_range] at this
          exact this
        rw [h2] at hx
        have hx' : ∀ i, i < len → ∃ l, ShR reachBytes se l ∧ ∃ cs', w.cells? base (a.add (i * se.size)) se.size = some cs' ∧ VRl ρ I w l cs' := by
          intro i hi
          obtain ⟨cs', g1, g2⟩ := hx i (by omega)
          obtain ⟨l, g3, g4⟩ := ih se e n' cs' _ h1 g2 (light_elem hu hb _ (List.mem_map.2 ⟨i, List.mem_range.2 hi, rfl⟩))
          exact ⟨l, g3, cs', g1, g4⟩
        obtain ⟨f, hf⟩ := choose_lt hx'
        refine ⟨[.view true se.size ((List.range len).map f)], .inr ⟨_, rfl, by simpa using hlen, fun c hc => ?_⟩, VRl.one ?_⟩
        · obtain ⟨i, hi, rfl⟩ := List.mem_map.1 hc
          exact (hf i (List.mem_range.1 hi)).1
        · cases len with
          | zero => exact .viewNil ..
          | succ len =>
            have hcell : ∀ i j, i < len + 1 → j < se.size → ∃ u, w.cell? ⟨a.block, a.off + i * se.size + j, none⟩ = some u ∧ ∀ y, (f i)[j]? = some y → VR ρ I w y u := by
              intro i j hi hj
              obtain ⟨_, cs', g1, g2⟩ := hf i hi
              obtain ⟨q1, q2, q3⟩ := World.cells?_some g1
              have q4 := q3 j hj
              rw [List.getElem?_eq_getElem (by omega)] at q4
              have hsp : ((a.add (i * se.size)).add j).spot = none := by
                cases hs : ((a.add (i * se.size)).add j).spot with
                | none => rfl
                | some _ =>
                  unfold World.cell? at q4
                  simp only [hs, Option.isSome_some, if_true] at q4
                  split at q4 <;> cases q4
              have hadd : (a.add (i * se.size)).add j = ⟨a.block, a.off + i * se.size + j, none⟩ := by
                rw [add_add] at hsp ⊢
                unfold Addr.add at hsp ⊢
                split
                · rename_i h0
                  rw [if_pos h0] at hsp
                  cases a; simp_all
                · simp [Nat.add_assoc]
              rw [hadd] at q4
              refine ⟨_, q4, fun y hy => g2.2 j y _ hy (List.getElem?_eq_getElem (by omega))⟩
            have hlt : a.block < w.heap.size := by
              obtain ⟨u, hu, _⟩ := hcell 0 0 (by omega) h3
              unfold World.cell? at hu
              split at hu
              · rename_i heq
                exact (Array.getElem?_eq_some_iff.1 heq).1
              · cases hu
            have hsp : a.spot = none := by
              obtain ⟨_, cs', g1, g2⟩ := hf 0 (by omega)
              obtain ⟨q1, q2, q3⟩ := World.cells?_some g1
              have q4 := q3 0 h3
              rw [List.getElem?_eq_getElem (by omega)] at q4
              simp only [Nat.zero_mul, Addr.add, if_true] at q4
              cases hs : a.spot with
              | none => rfl
              | some _ =>
                unfold World.cell? at q4
                simp only [hs, Option.isSome_some, if_true] at q4
                split at q4 <;> cases q4
            have ha : a = ⟨a.block, a.off, none⟩ := by cases a; simp_all
            have hl1 : ((List.range (len + 1)).map f).length = len + 1 := by simp
            have := VR.view (ρ := ρ) (I := I) (w := w) true se.size ((List.range (len + 1)).map f) a.block a.off cap (hI _ hlt) (by rw [hl1]; omega) (by rw [hl1]; exact hl) (fun i x hx => ?_) (fun i j x hx => ?_) (fun i j x u hx hu => ?_)
            · rw [hl1, ← ha] at this; exact this
            · rw [List.getElem?_map, Option.map_eq_some_iff] at hx
              obtain ⟨i', hi', rfl⟩ := hx
              have := (List.getElem?_eq_some_iff.1 hi')
              obtain ⟨q1, q2⟩ := this
              simp at q1 q2; subst q2
              exact (hf i (by omega)).1.length
            · obtain ⟨cells, q1, q2⟩ := get2_some hx
              rw [List.getElem?_map, Option.map_eq_some_iff] at q1
              obtain ⟨i', hi', rfl⟩ := q1
              obtain ⟨q3, q4⟩ := (List.getElem?_eq_some_iff.1 hi')
              simp at q3 q4; subst q4
              have hj : j < se.size := by rw [← (hf i (by omega)).1.length]; exact (List.getElem?_eq_some_iff.1 q2).1
              obtain ⟨u, hu, _⟩ := hcell i j (by omega) hj
              exact ⟨u, hu⟩
            · obtain ⟨cells, q1, q2⟩ := get2_some hx
              rw [List.getElem?_map, Option.map_eq_some_iff] at q1
              obtain ⟨i', hi', rfl⟩ := q1
              obtain ⟨q3, q4⟩ := (List.getElem?_eq_some_iff.1 hi')
              simp at q3 q4; subst q4
              have hj : j < se.size := by rw [← (hf i (by omega)).1.length]; exact (List.getElem?_eq_some_iff.1 q2).1
              obtain ⟨u', hu', h'⟩ := hcell i j (by omega) hj
              rw [hu'] at hu; cases hu
              exact h' x q2
    · rename_i fs hu

      simp only [Bool.and_eq_true, beq_iff_eq] at hs
      obtain ⟨h1, h2⟩ := hs
      obtain ⟨xs, m, rfl, rfl, hl, hlen, hf⟩ := DataW.trod_struct hu ht
      have := fields_vrW (enc := enc) (P := P) (w := w) (base := base) (spare := spare) (held := held) (ρ := ρ) (I := I) (ok := shOkW P n) (m := m) (cs := cs)
        (fun s t cs x => ih s t m cs x) _ fs.toList 0 xs h1 (by simpa using hlen) (fun i f hi => hf i f (by simpa using hi)) (fun i f x hf hx => light_part hu hb i f x.1 hf (by rw [List.getElem?_map, hx]; rfl)) (by omega)
      rw [List.drop_zero, List.take_of_length_le (by omega)] at this
      exact this
    · cases hs
theorem arg_vrW {n : Nat} {s : Sh} {t : TypeId} {v : Value} {d : DataW H} {ps : List MemPlace} {r : Reach} {b0 : Nat} {W : World}
    (hs : shOkW P n t s = true) (ht : DataW.Trod enc P W base spare held t v d ps) (hok : Value.okWide P W r b0 t v) (hb : Light P t d) :
    ∃ l, ShR reachBytes s l ∧ VR ρ (Imm0 W) W (topA s l) v := by
  obtain ⟨fuel, ht⟩ := ht
  obtain ⟨l, h1, h2⟩ := trod_vrW (ρ := ρ) (I := Imm0 W) (fun b hb => hb) n s t fuel _ _ hs ht hb
  refine ⟨l, h1, ?_⟩
  have hlen := h1.length
  cases n with
  | zero => simp [shOkW] at hs
  | succ n =>
    unfold shOkW at hs
    have one : ∀ (x : Value), v = x → (v.cells.toList = [x]) → l.length = 1 → VR ρ (Imm0 W) W (l.headD .dead) v := by
      intro x hx hc hl
      match l, hl with
      | [a], _ => rw [hc] at h2; rw [hx]; exact h2.head
    have agg : ∀ cs, v = .agg cs → VR ρ (Imm0 W) W (.agg l) v := by
      rintro cs rfl
      exact .agg l cs (by simpa [Value.cells] using h2.1) fun i x u hx hu => h2.2 i x u hx (by simpa [Value.cells] using hu)
    split at hs
    · rename_i k k' hu
      obtain ⟨z, rfl⟩ := WideShapes.okWide_int hu hok
      exact one _ rfl rfl hlen
    · rename_i hu
      have : ∃ z, v = .bool z := by
        simp only [Value.okWide, hu, Cell.okWide] at hok
        cases v <;> simp_all [Cell.ok]
      obtain ⟨z, rfl⟩ := this
      exact one _ rfl rfl hlen
    · rename_i hu
      obtain ⟨z, rfl⟩ := WideShapes.okWide_string hu hok
      exact one _ rfl rfl hlen
    · rename_i e se hu
      obtain ⟨a, len, cap, rfl⟩ := WideShapes.okWide_slice hu hok
      exact one _ rfl rfl hlen
    · rename_i s1 _ _ fs hu
      simp only [Bool.and_eq_true] at hs
      obtain ⟨h3, _⟩ := hs
      simp only [Value.okWide, hu] at hok
      obtain ⟨cs, rfl, _⟩ := hok
      cases s1 with
      | nil => exact agg _ rfl
      | cons a b => exact agg _ rfl
      | _ => cases hfs : fs.toList <;> simp [hfs, fsOk] at h3
    · cases hs
end

end Go.AE
end

section
/- Observations that take nothing back, in plain terms. -/
namespace Go.AE
def okSgt (a b : Sgt) : Bool := !(a.node == b.node && (!(a.err == 0) && (!(a.err == b.err) || !(a.cause == b.cause))))
def steadyL : List Sgt → List Sgt → Bool
  | _, [] => true
  | s, b :: r => s.all (okSgt · b) && steadyL (s ++ [b]) r
def stedy (w : Wld) : Bool := wldOk w && steadyL [] w.sights
def lastS : List Sgt → Int → Option Sgt
  | [], _ => none
  | b :: r, n => match lastS r n with | some x => some x | none => if b.node = n ∧ b.err ≠ 0 then some b else none
theorem lastS_snoc (s : List Sgt) (b : Sgt) (n : Int) : lastS (s ++ [b]) n = if b.node = n ∧ b.err ≠ 0 then some b else lastS s n := by
  induction s with
  | nil => simp [lastS]
  | cons a s ih =>
    simp only [List.cons_append, lastS, ih]
    by_cases hc : b.node = n ∧ b.err ≠ 0
    · rw [if_pos hc, if_pos hc]
    · rw [if_neg hc, if_neg hc]
theorem lastS_some {s : List Sgt} {n : Int} {x : Sgt} (h : lastS s n = some x) : x ∈ s ∧ x.node = n ∧ x.err ≠ 0 := by
  induction s with
  | nil => simp [lastS] at h
  | cons a s ih =>
    simp only [lastS] at h
    split at h
    · rename_i y hy; cases h; obtain ⟨h1, h2⟩ := ih hy; exact ⟨.tail _ h1, h2⟩
    · split at h
      · cases h; rename_i h2; exact ⟨.head _, h2.1, h2.2⟩
      · cases h
theorem lastS_none {s : List Sgt} {n : Int} (h : lastS s n = none) : ∀ a ∈ s, a.node = n → a.err = 0 := by
  induction s with
  | nil => simp
  | cons a s ih =>
    simp only [lastS] at h
    split at h
    · cases h
    · rename_i hn
      split at h
      · cases h
      · rename_i h2
        intro x hx hxn
        rcases List.mem_cons.1 hx with rfl | hx
        · exact Classical.byContradiction fun hc => h2 ⟨hxn, hc⟩
        · exact ih hn x hx hxn
def agreeS (s : List Sgt) : Prop := ∀ n x, lastS s n = some x → ∀ a ∈ s, a.node = n → a.err ≠ 0 → a.err = x.err ∧ a.cause = x.cause
theorem agreeS_nil : agreeS [] := fun n x h => by simp [lastS] at h
theorem okSgt_iff {a b : Sgt} : okSgt a b = true ↔ (a.node = b.node → a.err ≠ 0 → a.err = b.err ∧ a.cause = b.cause) := by
  simp only [okSgt, Bool.not_eq_true', Bool.and_eq_false_iff, beq_eq_false_iff_ne, Bool.not_eq_false', beq_iff_eq, Bool.or_eq_false_iff, ne_eq]
  constructor
  · rintro (h | h | h) h1 h2
    · exact absurd h1 h
    · exact absurd h h2
    · exact h
  · intro h
    by_cases h1 : a.node = b.node
    · by_cases h2 : a.err = 0
      · exact .inr (.inl h2)
      · exact .inr (.inr (h h1 h2))
    · exact .inl h1
theorem agree_all {s : List Sgt} {b : Sgt} (h : agreeS s) : s.all (okSgt · b) = (match lastS s b.node with | some x => (x.err == b.err && x.cause == b.cause) | none => true) := by
  rw [Bool.eq_iff_iff, List.all_eq_true]
  simp only [okSgt_iff]
  cases hl : lastS s b.node with
  | none => simp only [iff_true]; exact fun a ha hn he => absurd (lastS_none hl a ha hn) he
  | some x =>
    simp only [Bool.and_eq_true, beq_iff_eq]
    obtain ⟨h1, h2, h3⟩ := lastS_some hl
    constructor
    · intro hh; exact hh x h1 h2 h3
    · intro hh a ha hn he
      obtain ⟨g1, g2⟩ := h _ _ hl a ha hn he
      exact ⟨g1.trans hh.1, g2.trans hh.2⟩
theorem agree_snoc {s : List Sgt} {b : Sgt} (h : agreeS s) (ho : s.all (okSgt · b) = true) : agreeS (s ++ [b]) := by
  intro n x hx a ha hn he
  rw [lastS_snoc] at hx
  rw [List.all_eq_true] at ho
  rcases List.mem_append.1 ha with ha | ha
  · split at hx
    · rename_i hb; cases hx
      exact okSgt_iff.1 (ho a ha) (hn.trans hb.1.symm) he
    · exact h n x hx a ha hn he
  · rw [List.mem_singleton] at ha; subst ha
    rw [if_pos ⟨hn, he⟩] at hx; cases hx; exact ⟨rfl, rfl⟩
theorem steady_take {l : List Sgt} {i : Nat} (hi : i < l.length) : steadyL (l.take i) (l.drop i) = ((l.take i).all (okSgt · l[i]) && steadyL (l.take (i + 1)) (l.drop (i + 1))) := by
  rw [List.drop_eq_getElem_cons hi]
  simp only [steadyL, List.take_append_getElem hi]
theorem steady_end {l : List Sgt} {i : Nat} (hi : l.length ≤ i) : steadyL (l.take i) (l.drop i) = true := by rw [List.drop_eq_nil_of_le hi]; simp [steadyL]
theorem steady_step {l : List Sgt} {k : Nat} (hk : k < l.length) (ha : agreeS (l.take k)) (hs : steadyL (l.take k) (l.drop k) = steadyL [] l)
    (hc : ((lastS (l.take k) (gt l (k : Int)).node).isSome && (!((gt l (k : Int)).err == ((lastS (l.take k) (gt l (k : Int)).node).getD ⟨0, 0, 0, 0⟩).err) || !((gt l (k : Int)).cause == ((lastS (l.take k) (gt l (k : Int)).node).getD ⟨0, 0, 0, 0⟩).cause))) = false) :
    agreeS (l.take (k + 1)) ∧ steadyL (l.take (k + 1)) (l.drop (k + 1)) = steadyL [] l := by
  have h1 := agree_all (b := gt l (k : Int)) ha
  have h2 : (l.take k).all (okSgt · (gt l (k : Int))) = true := by
    rw [h1]
    cases hl : lastS (l.take k) (gt l (k : Int)).node with
    | none => rfl
    | some x =>
      rw [hl] at hc
      simp only [Option.isSome_some, Bool.true_and, Option.getD_some, Bool.or_eq_false_iff, Bool.not_eq_false', beq_iff_eq] at hc
      simp [hc.1, hc.2]
  rw [gt_nat hk] at h2
  have h3 := agree_snoc ha h2
  rw [List.take_append_getElem hk] at h3
  rw [steady_take hk, h2] at hs
  exact ⟨h3, by simpa using hs⟩
theorem steady_fail {l : List Sgt} {k : Nat} (hk : k < l.length) (ha : agreeS (l.take k)) (hs : steadyL (l.take k) (l.drop k) = steadyL [] l)
    (hc : ((lastS (l.take k) (gt l (k : Int)).node).isSome && (!((gt l (k : Int)).err == ((lastS (l.take k) (gt l (k : Int)).node).getD ⟨0, 0, 0, 0⟩).err) || !((gt l (k : Int)).cause == ((lastS (l.take k) (gt l (k : Int)).node).getD ⟨0, 0, 0, 0⟩).cause))) = true) : steadyL [] l = false := by
  have h1 := agree_all (b := gt l (k : Int)) ha
  have h2 : (l.take k).all (okSgt · (gt l (k : Int))) = false := by
    rw [h1]
    cases hl : lastS (l.take k) (gt l (k : Int)).node with
    | none => rw [hl] at hc; simp at hc
    | some x =>
      rw [hl] at hc
      simp only [Option.isSome_some, Bool.true_and, Option.getD_some, Bool.or_eq_true, Bool.not_eq_true', beq_eq_false_iff_ne, ne_eq] at hc
      simp only [Bool.and_eq_false_iff, beq_eq_false_iff_ne, ne_eq]
      exact hc.imp (fun h e => h e.symm) (fun h e => h e.symm)
  rw [gt_nat hk] at h2
  rw [steady_take hk, h2] at hs
  simpa using hs.symm
def pairs (l : List Sgt) (i j : Nat) : Bool := ((l.take i).drop j).all (okSgt · (gt l (i : Int)))
theorem steady_go {l : List Sgt} {i : Nat} (hi : i < l.length) (h : steadyL (l.take i) (l.drop i) = steadyL [] l) (hp : pairs l i 0 = true) : steadyL (l.take (i + 1)) (l.drop (i + 1)) = steadyL [] l := by
  rw [steady_take hi] at h
  simp only [pairs, gt_nat hi, List.drop_zero] at hp
  rw [hp] at h
  simpa using h
theorem steady_no {l : List Sgt} {i : Nat} (hi : i < l.length) (h : steadyL (l.take i) (l.drop i) = steadyL [] l) (hp : pairs l i 0 = false) : steadyL [] l = false := by
  rw [steady_take hi] at h
  simp only [pairs, gt_nat hi, List.drop_zero] at hp
  rw [hp] at h
  simpa using h.symm
theorem pairs_step {l : List Sgt} {i j : Nat} (hi : i < l.length) (hj : j < i) : pairs l i j = (okSgt (gt l (j : Int)) (gt l (i : Int)) && pairs l i (j + 1)) := by
  have h1 : j < (l.take i).length := by simp; omega
  unfold pairs
  rw [List.drop_eq_getElem_cons h1, List.all_cons, List.getElem_take, gt_nat (by omega : j < l.length)]
theorem pairs_end {l : List Sgt} {i j : Nat} (hj : i ≤ j) : pairs l i j = true := by
  unfold pairs
  rw [List.drop_eq_nil_of_le (by simp; omega)]; rfl
end Go.AE
end

section
/- A map that a call makes and keeps to itself, of observations by their nodes; what a call makes anew changes no abstract memory. -/
namespace Go.AE
open Go.RowKit
theorem HRel.below {ρ : Names} {I : Imm} {w w' : World} {h : Heap} (H : HRel ρ I w h) (b : Below w.heap.size w w') : HRel ρ I w' h ∧ Ext h ρ I w h ρ I w' := by
  have hI : ∀ p b', I p b' → w'.heap[b']? = w.heap[b']? := fun p b' hb => b.block b' (H.immlt p b' hb)
  refine ⟨⟨fun id cells he => ?_, fun id sz xs he => ?_, H.sep, H.imm, fun p b' hb => Nat.lt_of_lt_of_le (H.immlt p b' hb) b.size⟩, ⟨fun _ _ h => h, fun _ _ h => h, fun _ h => h, fun _ h => .inl h, fun _ h => .inl h, b.os, b.tape, b.output, b.size, fun k hk _ => b.block k hk⟩⟩
  · exact (H.obj id cells he).mono (fun _ _ h => h) (fun _ _ h => h) hI fun B b' hB hb => b.block b' ((H.ent he).lt hB hb)
  · exact (H.row id sz xs he).mono (fun _ _ h => h) (fun _ _ h => h) hI fun B b' hB hb => b.block b' ((H.ent he).lt hB hb)
theorem HRel.owns_lt {ρ : Names} {I : Imm} {w : World} {h : Heap} (H : HRel ρ I w h) {b : Nat} (o : Owns h ρ b) : b < w.heap.size := by
  obtain ⟨id, e, B, h1, h2, h3⟩ := o
  exact (H.ent h1).lt h2 h3
theorem VRs.ext {h ρ I w h' ρ' I' w'} {args : List AV} {vs : Array Value} (e : Ext h ρ I w h' ρ' I' w') (hr : HRel ρ I w h) (hv : VRs ρ I w args vs) : VRs ρ' I' w' args vs :=
  ⟨hv.1, fun i x u hx hu => e.vr hr (hv.2 i x u hx hu)⟩
theorem PC.ofExt {P : Program} {f : FuncId} {args : List AV} {b : Bool} (en : Enters P f)
    (hc : ∀ (h : Heap) (nx : Nat) (ρ : Names) (I : Imm) (w : World) (vs : Array Value), (∀ id B, ρ id = some B → id < nx) → HRel ρ I w h → VRs ρ I w args vs →
      Calls P f vs w fun e w' => e = .returned (.bool b) ∧ ∃ I' w1, HRel ρ I' w1 h ∧ Ext h ρ I w h ρ I' w1 ∧ Below w1.heap.size w1 w') : PC P f args (.bool b) :=
  fun h nx Q hQ => ⟨en, fun ρ I w vs hnm H hv => (hc h nx ρ I w vs hnm H hv).mono fun e w' ⟨he, I', w1, H1, E1, bel⟩ =>
    ⟨.bool b, .bool b, h, nx, ρ, I', he, hQ, .bool b, (H1.below bel).1, E1.trans (H1.below bel).2, fun id B hB => .inl hB, Nat.le_refl _, hnm⟩⟩
theorem PC.calls {P : Program} {f : FuncId} {args : List AV} {b : Bool} (hc : PC P f args (.bool b)) {h : Heap} {nx : Nat} {ρ : Names} {I : Imm} {w : World} {vs : Array Value}
    (hnm : ∀ id B, ρ id = some B → id < nx) (H : HRel ρ I w h) (hv : VRs ρ I w args vs) : Calls P f vs w fun e w' => e = .returned (.bool b) ∧ ∃ I', HRel ρ I' w' h ∧ Ext h ρ I w h ρ I' w' :=
  ((hc h nx (fun r h' nx' => r = .bool b ∧ h' = h ∧ nx' = nx) ⟨rfl, rfl, rfl⟩).2 ρ I w vs hnm H hv).mono fun e w' ⟨v, r, h', nx', ρ', I', he, ⟨q1, q2, q3⟩, hvr, H', E, hf, hle, hn⟩ => by
    subst q1 q2 q3
    have : ρ' = ρ := funext fun id => by
      cases hr : ρ' id with
      | none => cases hq : ρ id with
        | none => rfl
        | some B => have := E.rho _ _ hq; rw [hr] at this; cases this
      | some B => rcases hf id B hr with q | q
                  · exact q.symm
                  · have := hn id B hr; omega
    subst this
    cases hvr
    exact ⟨he, I', H', E⟩
def sV (x : Sgt) : Value := .agg #[.int .i64 x.node, .int .i64 x.err, .int .i64 x.cause, .int .i64 x.pos]
def sD (x : Sgt) : DataW Unit := .agg [.lit (.int .i64 x.node), .lit (.int .i64 x.err), .lit (.int .i64 x.cause), .lit (.int .i64 x.pos)]
def sE (v : Value) : Option (DataW Unit × List MemPlace) :=
  match v with
  | .agg cs => match cs.toList with | [.int .i64 a, .int .i64 b, .int .i64 c, .int .i64 d] => some (sD ⟨a, b, c, d⟩, []) | _ => none
  | _ => none
theorem sE_mk (x : Sgt) : sE (sV x) = some (sD x, []) := rfl
theorem sD_inj {x y : Sgt} (h : sD x = sD y) : x = y := by cases x; cases y; simp [sD] at h ⊢; exact h
theorem sE_inv {v : Value} {x : Sgt} {ps : List MemPlace} (h : sE v = some (sD x, ps)) : v = sV x := by
  unfold sE at h
  split at h
  · rename_i cs
    split at h
    · rename_i a b c d hc
      have h1 : sD ⟨a, b, c, d⟩ = sD x := by injection h with h; injection h
      rw [← sD_inj h1]
      simp only [sV]; congr 1
      exact Array.ext' hc
    · cases h
  · cases h
def OwnsS (P : Program) (k : TypeId) (w : World) (b n : Nat) (s : List Sgt) : Prop :=
  ∃ D : DataW Unit, w.ownsMap P k sE b n D ∧ Maps.IsMap D ∧ ∀ m, Maps.has D (.int .i64 m) = (lastS s m).isSome ∧ ∀ x, lastS s m = some x → ∀ z, D.atKey (.int .i64 m) z = sD x
theorem OwnsS.made (P : Program) (k : TypeId) (w : World) : OwnsS P k (w.alloc (.map #[] 0)) w.heap.size 0 [] :=
  ⟨.map [], World.ownsMap_made _ _ _ _, Maps.isMap_empty, fun m => ⟨rfl, fun x h => by simp [lastS] at h⟩⟩
theorem OwnsS.skip {P : Program} {k : TypeId} {w : World} {b n : Nat} {s : List Sgt} {x : Sgt} (h : OwnsS P k w b n s) (hx : x.err = 0) : OwnsS P k w b n (s ++ [x]) := by
  obtain ⟨D, h1, h2, h3⟩ := h
  refine ⟨D, h1, h2, fun m => ?_⟩
  rw [lastS_snoc, if_neg (fun c => c.2 hx)]
  exact h3 m
theorem OwnsS.mono {P : Program} {k : TypeId} {w : World} {b n n' : Nat} {s : List Sgt} (h : OwnsS P k w b n s) (hn : n ≤ n') : OwnsS P k w b n' s := by
  obtain ⟨D, h1, h2⟩ := h
  exact ⟨D, h1.mono hn, h2⟩
theorem OwnsS.alloc {P : Program} {k : TypeId} {w : World} {b n : Nat} {s : List Sgt} (h : OwnsS P k w b n s) (o : Obj) : OwnsS P k (w.alloc o) b n s := by
  obtain ⟨D, h1, h2⟩ := h
  exact ⟨D, h1.alloc o, h2⟩
theorem OwnsS.lt {P : Program} {k : TypeId} {w : World} {b n : Nat} {s : List Sgt} (h : OwnsS P k w b n s) : b < w.heap.size := by
  obtain ⟨D, h1, h2⟩ := h
  exact h1.lt
def lkS (s : List Sgt) (n : Int) : Sgt := (lastS s n).getD ⟨0, 0, 0, 0⟩
section
variable {P : Program} (w : World) {ops : Array Oper} {rest : List Oper} {o : Oper} {a : Act} {Q : Exit → Act → World → Prop}
theorem wpList_lookup_S (hg : o.guard = none) (m x : Operand) (t : TypeId) (hop : o.op = Op.lookup t m x true) (k e : TypeId) (K : Maps.Keyed P k) (ht : P.underlying t = some (.map k e))
    (hz : (zeroValue e).run P w = .ok (sV ⟨0, 0, 0, 0⟩) w) (b n : Nat) (s : List Sgt) (hm : a.eval m = .map (some b)) (hown : OwnsS P k w b n s) (nd : Int) (hx : a.eval x = .int .i64 nd) (hkey : keyOf P k (.int .i64 nd) = some (.int .i64 nd))
    (hK : wpList P ops Q rest (a.put o.dst (.tuple #[.agg #[.int .i64 (lkS s nd).node, .int .i64 (lkS s nd).err, .int .i64 (lkS s nd).cause, .int .i64 (lkS s nd).pos], .bool (lastS s nd).isSome])) w) : wpList P ops Q (o :: rest) a w := by
  obtain ⟨D, h1, h2, h3⟩ := hown
  refine wpList_lookup_own_ok w hg m x t hop k e K ht sE hz (sD ⟨0, 0, 0, 0⟩) [] (sE_mk _) b n D hm h1 _ _ hx hkey fun v ps hv => ?_
  have e1 : D.atKey (.int .i64 nd) (sD ⟨0, 0, 0, 0⟩) = sD ((lastS s nd).getD ⟨0, 0, 0, 0⟩) := by
    cases hl : lastS s nd with
    | some y => exact (h3 nd).2 y hl _
    | none => exact Maps.atKey_of_not_has (by rw [(h3 nd).1, hl]; rfl) _
  rw [e1] at hv
  rw [sE_inv hv, (h3 nd).1]
  exact hK
theorem wpList_update_S (hg : o.guard = none) (m x v : Operand) (t : TypeId) (hop : o.op = Op.mapUpdate t m x v) (k e : TypeId) (K : Maps.Keyed P k) (ht : P.underlying t = some (.map k e)) (b n : Nat) (s : List Sgt)
    (hm : a.eval m = .map (some b)) (hown : OwnsS P k w b n s) (hn : n < maxLen) (y : Sgt) (hy : y.err ≠ 0) (hx : a.eval x = .int .i64 y.node) (hv : a.eval v = sV y) (hkey : keyOf P k (.int .i64 y.node) = some (.int .i64 y.node))
    (hK : ∀ w', OwnsS P k w' b (n + 1) (s ++ [y]) → w.grownBy w' (some b) → wpList P ops Q rest (a.put o.dst undef) w') : wpList P ops Q (o :: rest) a w := by
  obtain ⟨D, h1, h2, h3⟩ := hown
  refine wpList_mapUpdate_own w hg m x v t hop k e K ht sE b n D hm h1 hn _ _ _ hx hv hkey (sD y) [] (sE_mk _) fun w' q1 q2 => hK w' ⟨_, q1, h2.put _ _, fun m => ?_⟩ q2
  have hk : WideAt.IsKeyLit (.int .i64 y.node) := trivial
  rw [lastS_snoc]
  by_cases e1 : m = y.node
  · subst e1
    rw [if_pos ⟨rfl, hy⟩]
    exact ⟨Maps.has_put_same h2 hk _, fun x hx z => by cases hx; exact Maps.atKey_put_same h2 hk _ _⟩
  · have hne : (Lit.int .i64 m) ≠ .int .i64 y.node := fun c => e1 (by injection c)
    rw [if_neg (fun c => e1 c.1.symm), Maps.has_put_other hne]
    exact ⟨(h3 m).1, fun x hx z => by rw [Maps.atKey_put_other hne]; exact (h3 m).2 x hx z⟩
end
end Go.AE
end
