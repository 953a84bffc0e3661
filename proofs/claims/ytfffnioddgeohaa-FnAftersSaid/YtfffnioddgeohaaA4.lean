/- An abstract machine over the model: its states, its steps, and that what it shows holds of the model. -/
import Derived.Test.YtfffnioddgeohaaA3
set_option linter.unusedVariables false
set_option linter.unusedSimpArgs false
set_option linter.deprecated false
section
/- Abstract machine: rows of a world are laid anew, under new names. -/
namespace Go.AE
end Go.AE
end

section
/- A valid world is small. -/
namespace Go.AE
end Go.AE
end

section
/- The first timer rings: what the request makes of a world, in plain terms. -/
namespace Go.AE
section
variable {t : Tms} {now : Int}
end
theorem tmr_one (x : Tmr) : ∀ y ∈ tmrC x, y.one = true := fun y hy => by simp [tmrC] at hy; rcases hy with rfl | rfl | rfl | rfl | rfl <;> rfl
@[simp] theorem tmr_take_one {l : List Tmr} {i : Nat} : (∀ x, x ∈ List.take i (List.map tmrC l) → ∀ y, y ∈ x → y.one = true) = True := by
  simp only [eq_iff_iff, iff_true]
  intro x hx y hy
  obtain ⟨z, _, rfl⟩ := List.mem_map.1 (List.mem_of_mem_take hx)
  exact tmr_one z y hy
end Go.AE
end

section
/- A step of propagation: what the request makes of a world, in plain terms. -/
namespace Go.AE
def setS (w : Wld) (s : Spr) : Wld := mkW w w.tree w.events s w.timers
def queueF (n : Int) (x : Afr) : Afr := if x.node == n then ⟨x.han, x.node, x.fn, true⟩ else x
def queueA (a : Afs) (n : Int) : Afs := ⟨a.slots, a.list.map (queueF n)⟩
theorem part_get {α : Type} [Inhabited α] {f : α → α} {l : List α} {i : Nat} (hi : i < l.length) : ((l.take i).map f ++ l.drop i)[i]? = some (gt l (i : Int)) ∧
    ((l.take i).map f ++ l.drop i).set i (f (gt l (i : Int))) = (l.take (i + 1)).map f ++ l.drop (i + 1) ∧ (f (gt l (i : Int)) = gt l (i : Int) → (l.take (i + 1)).map f ++ l.drop (i + 1) = (l.take i).map f ++ l.drop i) := by
  have e1 : ((l.take i).map f).length = i := by simp; omega
  have e2 := drop_gt hi
  have e3 : l.take (i + 1) = l.take i ++ [gt l (i : Int)] := by rw [gt_nat hi]; exact (List.take_append_getElem hi).symm
  refine ⟨?_, ?_, fun h => ?_⟩
  · rw [List.getElem?_append_right (by omega), e1, e2]; simp
  · rw [List.set_append_right _ _ (by omega), e1, e2, e3]; simp
  · rw [e3, e2]; simp [h]
@[simp] theorem iv_tail_one {l : List Int} : (∀ x, x ∈ (List.map iv l).tail → ∀ y, y ∈ x → y.one = true) = True := by
  simp only [eq_iff_iff, iff_true]
  intro x hx y hy
  obtain ⟨z, _, rfl⟩ := List.mem_map.1 (List.mem_of_mem_tail hx)
  simp [iv] at hy; subst hy; rfl
end Go.AE
end

section
/- Functions that are registered, queued, started and called off: what a law asks of them, in plain terms. -/
namespace Go.AE
def AfQ (p ia ib ic : Nat) (a : Afs) (nx : Nat) (h' : Heap) (nx' : Nat) : Prop := ∃ id, (id = ic ∨ nx ≤ id) ∧ id < nx' ∧ h' p = some (.obj (afsR ia ib id a)) ∧ AfO h' ia ib id a
theorem afs_slen {a : Afs} (h : afsOk a = true) : a.slots.ages.length ≤ 64 := by
  have := (afsOk_iff.1 h).1
  simp only [sltOk, Bool.and_eq_true, inR, decide_eq_true_eq] at this
  omega
def newMk (id : Nat) (l c : AV) : Option TyD → Option (AV × Ent)
  | some de => match l, c with
    | .int _ n, .int _ m => if 0 < de.size ∧ de.bytes ≤ 128 ∧ n = m ∧ 0 ≤ n ∧ n ≤ MLIM then some (.ref id de.size 0 n.toNat, .row de.size (List.replicate n.toNat de.zero)) else none
    | _, _ => none
  | none => none
@[simp] theorem newA_mk {C : Ctx} (id ev t l c) : newA C id ev (.makeSlice t l c) = newMk id (ev l) (ev c) (elemOf C t) := by
  simp only [newA, elemOf]
  cases ((C.ty t).bind (·.elem)).bind C.ty <;> simp only [newMk] <;> cases ev l <;> cases ev c <;> rfl
@[simp] theorem newMk_some (id k k' n m e) : newMk id (.int k n) (.int k' m) (some e) = if 0 < e.size ∧ e.bytes ≤ 128 ∧ n = m ∧ 0 ≤ n ∧ n ≤ MLIM then some (.ref id e.size 0 n.toNat, .row e.size (List.replicate n.toNat e.zero)) else none := rfl
theorem fros_same {h : Heap} : ∀ (l : List AV), Fros h l l
  | [] => .nil
  | x :: l => .cons (.same _) (fros_same l)
theorem pd_afs {h h' : Heap} {nx nx' i j k : Nat} {a : Afs} (K : KeepB nx h' h) (hi : nx ≤ i) (hj : nx ≤ j) (hk : nx ≤ k) (O : AfO h' i j k a) :
    ∃ g : Heap, (∀ id e, g id = some e → h' id = some e ∧ nx ≤ id) ∧ Fro g (.agg (afsR i j k a)) (.agg (afsV (fun _ => true) a)) ∧ KeepB nx h' h :=
  ⟨fun id => if nx ≤ id then h' id else none, fun id e he => by dsimp only at he; split at he <;> simp_all, .aggs (.cons (.ref0 (by rw [if_pos hi]; exact O.r1) (by simp)) (.cons (.ref0 (by rw [if_pos hj]; exact O.r2) (by simp)) (.cons (.ref0 (by rw [if_pos hk]; exact O.r3) (by simp)) .nil))), K⟩
theorem pdQ_agg {h h' : Heap} {nx nx' i j k : Nat} {a : Afs} (K : KeepB nx h' h) (hi : nx ≤ i) (hj : nx ≤ j) (hk : nx ≤ k) (O : AfO h' i j k a) : PdQ (.agg (afsV (fun _ => true) a)) h nx (.agg (afsR i j k a)) h' nx' := pd_afs (nx' := nx') K hi hj hk O
theorem pdQ_tup {h h' : Heap} {nx nx' i j k : Nat} {a : Afs} {l : List AV} (K : KeepB nx h' h) (hi : nx ≤ i) (hj : nx ≤ j) (hk : nx ≤ k) (O : AfO h' i j k a) : PdQ (.tup (.agg (afsV (fun _ => true) a) :: l)) h nx (.tup (.agg (afsR i j k a) :: l)) h' nx' := by
  obtain ⟨g, g1, g2, g3⟩ := pd_afs (nx' := nx') K hi hj hk O
  exact ⟨g, g1, .tups (.cons g2 (fros_same _)), g3⟩
def freeAt (s : Slt) (i : Nat) : Bool := !gt s.used (i : Int) && gt s.ages (i : Int) != 1000000
def takeAt (s : Slt) : Option Nat := (List.range s.ages.length).findIdx? (freeAt s)
def takeS (s : Slt) (i : Nat) : Slt := ⟨s.ages, s.used.set i true⟩
theorem holds_take (s : Slt) (i : Nat) (x : Han) : sltHolds (takeS s i) x = (isIn x.slot s.ages && (gt (s.used.set i true) x.slot && gt s.ages x.slot == x.age)) := rfl
theorem takeAt_some {s : Slt} {i : Nat} (hi : i < s.ages.length) (h0 : ∀ k : Nat, k < i → freeAt s k = false) (h1 : freeAt s i = true) : takeAt s = some i := by
  unfold takeAt
  rw [List.findIdx?_eq_some_iff_getElem]
  refine ⟨by simpa using hi, by simpa using h1, fun j hj => ?_⟩
  simp [h0 j hj]
theorem takeAt_none {s : Slt} (h0 : ∀ k : Nat, k < s.ages.length → freeAt s k = false) : takeAt s = none := by
  unfold takeAt
  rw [List.findIdx?_eq_none_iff]
  intro x hx
  exact h0 x (List.mem_range.1 hx)
theorem takeAt_of {s : Slt} {i : Nat} (h : takeAt s = some i) : i < s.ages.length ∧ freeAt s i = true := by
  unfold takeAt at h
  rw [List.findIdx?_eq_some_iff_getElem] at h
  obtain ⟨h1, h2, _⟩ := h
  exact ⟨by simpa using h1, by simpa using h2⟩
theorem takeAt_not {s : Slt} (h : takeAt s = none) : ∀ k : Nat, k < s.ages.length → freeAt s k = false := fun k hk => by
  unfold takeAt at h
  rw [List.findIdx?_eq_none_iff] at h
  exact h k (List.mem_range.2 hk)
theorem snoc_no {p : Nat → Bool} {i : Nat} (h : ∀ k : Nat, k < i → p k = false) (hi : p i = false) : ∀ k : Nat, k < i + 1 → p k = false := fun k hk => by
  by_cases e : k < i
  · exact h k e
  · obtain rfl : k = i := by omega
    exact hi
def takeH (s : Slt) (i : Nat) : Han := ⟨i, gt s.ages (i : Int)⟩
def regA (a : Afs) (node fn : Int) : Afs := match takeAt a.slots with
  | some i => ⟨takeS a.slots i, a.list ++ [⟨takeH a.slots i, node, fn, false⟩]⟩
  | none => a
def regH (a : Afs) : Han := match takeAt a.slots with | some i => takeH a.slots i | none => default
def regB (a : Afs) : Bool := (takeAt a.slots).isSome
theorem afsOk_reg {a : Afs} {i : Nat} {node fn : Int} (h : afsOk a = true) (hi : takeAt a.slots = some i) (hf : isAfter node fn = true) : afsOk ⟨takeS a.slots i, a.list ++ [⟨takeH a.slots i, node, fn, false⟩]⟩ = true := by
  obtain ⟨f1, f2, f3⟩ := afs_facts h
  obtain ⟨t1, t2⟩ := takeAt_of hi
  simp only [freeAt, Bool.and_eq_true, Bool.not_eq_true', bne_iff_ne] at t2
  rw [afsOk_iff] at h ⊢
  obtain ⟨h1, h2, h3, h4⟩ := h
  have n2 : i < a.slots.used.length := by omega
  have hu : a.slots.used[i] = false := by rw [← gt_nat n2]; exact t2.1
  have hg : ∀ z : Int, 0 ≤ z → z < a.slots.ages.length → gt (a.slots.used.set i true) z = (gt a.slots.used z || decide (z.toNat = i)) := fun z z0 z1 => by
    have p1 := gt_some (xs := a.slots.used.set i true) z0 (by simp; omega)
    have p2 := gt_some (xs := a.slots.used) z0 (by omega)
    rw [List.getElem?_set] at p1
    by_cases e : i = z.toNat
    · rw [if_pos e, if_pos (by omega)] at p1
      rw [← Option.some.inj p1]; simp [e]
    · rw [if_neg e, p2] at p1
      rw [← Option.some.inj p1]; simp [show ¬ z.toNat = i by omega]
  refine ⟨?_, ?_, fun x hx => ?_, ?_⟩
  · simp only [sltOk, takeS, Bool.and_eq_true, List.length_set] at h1 ⊢; exact h1
  · have e2 : (a.slots.used.set i true).countP id = a.slots.used.countP id + 1 := by
      rw [List.countP_set n2]; simp [hu]
    simp only [takeS, cntB, e2, List.length_append, List.length_cons, List.length_nil] at h2 ⊢
    omega
  · rcases List.mem_append.1 hx with q | q
    · refine ⟨(h3 x q).1, ?_⟩
      have hd := (h3 x q).2
      rw [holds_take]
      simp only [sltHolds, Bool.and_eq_true, isIn, inR, decide_eq_true_eq, beq_iff_eq] at hd ⊢
      obtain ⟨⟨d1, d2⟩, d3, d4⟩ := hd
      refine ⟨⟨d1, d2⟩, ?_, d4⟩
      rw [hg _ d1 (by omega), d3]; rfl
    · obtain rfl := List.mem_singleton.1 q
      refine ⟨hf, ?_⟩
      dsimp only [takeH]
      rw [holds_take]
      simp only [Bool.and_eq_true, isIn, inR, decide_eq_true_eq, beq_iff_eq]
      refine ⟨⟨by omega, by omega⟩, ?_, trivial⟩
      rw [hg _ (by omega) (by omega)]; simp
  · rw [List.pairwise_append]
    refine ⟨h4, List.pairwise_singleton .., fun x hx y hy => ?_⟩
    obtain rfl := List.mem_singleton.1 hy
    intro e
    have hd := (h3 x hx).2
    simp only [sltHolds, Bool.and_eq_true] at hd
    rw [e] at hd
    simp only [takeH] at hd
    rw [t2.1] at hd
    exact absurd hd.2.1 (by decide)
def offB (a : Afs) (h : Han) : Bool := decide (0 ≤ afsAt a.list h) && !(gt a.list (afsAt a.list h)).queued
def offA (a : Afs) (h : Han) : Afs := if offB a h = true then goA a (afsAt a.list h).toNat else a
structure Rg where
  node : Int
  st : Int
  han : Han
deriving DecidableEq, Inhabited
def liveA : Int → List Rg → List Afr
  | _, [] => []
  | c, x :: r => if x.st < 2 then ⟨x.han, x.node, c, x.st == 1⟩ :: liveA (c + 1) r else liveA (c + 1) r
theorem liveA_app : ∀ (c : Int) (l r : List Rg), liveA c (l ++ r) = liveA c l ++ liveA (c + l.length) r
  | c, [], r => by simp [liveA]
  | c, x :: l, r => by
    simp only [List.cons_append, liveA, List.length_cons]
    rw [liveA_app (c + 1) l r, show c + 1 + (l.length : Int) = c + ((l.length + 1 : Nat) : Int) by omega]
    split <;> simp
theorem liveA_len : ∀ (c : Int) (l : List Rg), (liveA c l).length = l.countP (fun x => decide (x.st < 2))
  | c, [] => rfl
  | c, x :: l => by
    simp only [liveA, List.countP_cons]
    by_cases h : x.st < 2
    · simp [h, liveA_len (c + 1) l]
    · simp [h, liveA_len (c + 1) l]
theorem liveA_mem : ∀ {c : Int} {l : List Rg} {y : Afr}, y ∈ liveA c l → ∃ x ∈ l, x.st < 2 ∧ y.han = x.han ∧ y.node = x.node ∧ y.queued = (x.st == 1)
  | c, x :: l, y, h => by
    simp only [liveA] at h
    split at h
    · rename_i hx
      rcases List.mem_cons.1 h with rfl | q
      · exact ⟨x, by simp, hx, rfl, rfl, rfl⟩
      · obtain ⟨z, z1, z2⟩ := liveA_mem q; exact ⟨z, by simp [z1], z2⟩
    · obtain ⟨z, z1, z2⟩ := liveA_mem h; exact ⟨z, by simp [z1], z2⟩
def qR (m : Int) (x : Rg) : Rg := if (x.node == m && x.st == 0) = true then ⟨x.node, 1, x.han⟩ else x
theorem qR_node (m : Int) (x : Rg) : (qR m x).node = x.node := by unfold qR; split <;> rfl
theorem qR_han (m : Int) (x : Rg) : (qR m x).han = x.han := by unfold qR; split <;> rfl
theorem liveA_q (m : Int) : ∀ (c : Int) (l : List Rg), (∀ x ∈ l, 0 ≤ x.st) → liveA c (l.map (qR m)) = (liveA c l).map (queueF m)
  | c, [], _ => rfl
  | c, x :: l, h0 => by
    have hx := h0 x (by simp)
    simp only [List.map_cons, liveA, liveA_q m (c + 1) l fun y hy => h0 y (by simp [hy])]
    by_cases h1 : x.node = m
    · by_cases h2 : x.st = 0
      · simp [qR, queueF, h1, h2]
      · by_cases h3 : x.st < 2
        · by_cases h4 : x.st = 1
          · simp [qR, queueF, h1, h4]
          · omega
        · simp [qR, h1, h2, h3]
    · by_cases h3 : x.st < 2
      · simp [qR, queueF, h1, h3]
      · simp [qR, h1, h3]
def cntL (l : List Rg) : Int := cntB (fun x => decide (x.st < 2)) l
structure AInv (n i : Nat) (A : Afs) (L : List Rg) : Prop where
  ok : afsOk A = true
  nl : A.slots.ages.length = n
  len : L.length ≤ i
  lst : A.list = liveA 0 L
  age : ∀ x ∈ A.slots.ages, x ≤ i
  st : ∀ x ∈ L, 0 ≤ x.st
  dead : ∀ x ∈ L, 2 ≤ x.st → isIn x.han.slot A.slots.ages = true ∧ x.han.age < gt A.slots.ages x.han.slot
namespace AInv
variable {n i : Nat} {A : Afs} {L : List Rg}
theorem mono (I : AInv n i A L) : AInv n (i + 1) A L := ⟨I.ok, I.nl, by have := I.len; omega, I.lst, fun x hx => by have := I.age x hx; omega, I.st, I.dead⟩
theorem cnt (I : AInv n i A L) : (A.list.length : Int) = cntL L ∧ cntB id A.slots.used = cntL L := by
  have h := (afsOk_iff.1 I.ok).2.1
  have e : (A.list.length : Int) = cntL L := by rw [I.lst, liveA_len]; rfl
  exact ⟨e, by rw [← e, h]⟩
theorem can (I : AInv n i A L) (hi : i < 1000) : ∀ k : Nat, k < A.list.length → canDrop A.slots (gt A.list (k : Int)).han = true := fun k hk => by
  have hh := afs_held I.ok k hk
  have h0 := hh
  simp only [sltHolds, Bool.and_eq_true, isIn, inR, decide_eq_true_eq, beq_iff_eq] at hh
  have := I.age _ (gt_mem (xs := A.slots.ages) (z := (gt A.list (k : Int)).han.slot) (by omega) (by omega))
  simp only [canDrop, h0, Bool.true_and, bne_iff_ne]
  omega
theorem queue (I : AInv n i A L) (m : Int) : AInv n (i + 1) (queueA A m) (L.map (qR m)) := by
  have h := afsOk_iff.1 I.ok
  have e1 : (queueA A m).slots = A.slots := rfl
  have hq : ∀ x : Afr, (queueF m x).han = x.han ∧ (queueF m x).node = x.node ∧ (queueF m x).fn = x.fn := fun x => by unfold queueF; split <;> exact ⟨rfl, rfl, rfl⟩
  refine ⟨?_, I.nl, by have := I.len; simp; omega, by rw [queueA, liveA_q m 0 L I.st, ← I.lst], fun x hx => by have := I.age x hx; omega, fun x hx => ?_, fun x hx h2 => ?_⟩
  · rw [afsOk_iff]
    refine ⟨h.1, by simpa [queueA] using h.2.1, fun x hx => ?_, ?_⟩
    · obtain ⟨y, hy, rfl⟩ := List.mem_map.1 hx
      have := h.2.2.1 y hy
      rw [(hq y).1, (hq y).2.1, (hq y).2.2]; exact this
    · simp only [queueA, List.pairwise_map]
      refine h.2.2.2.imp fun {a b} hab => ?_
      rw [(hq a).1, (hq b).1]; exact hab
  · obtain ⟨y, hy, rfl⟩ := List.mem_map.1 hx
    have := I.st y hy
    unfold qR; split
    · show (0 : Int) ≤ 1; decide
    · exact this
  · obtain ⟨y, hy, rfl⟩ := List.mem_map.1 hx
    have h3 : 2 ≤ y.st := by
      unfold qR at h2; split at h2
      · simp at h2
      · exact h2
    rw [qR_han]; exact I.dead y hy h3
theorem go {L1 L2 : List Rg} {x : Rg} {v : Int} (I : AInv n i A (L1 ++ x :: L2)) (hx : x.st < 2) (hv : 2 ≤ v) (hi : i < 1000) :
    (liveA 0 L1).length < A.list.length ∧ gt A.list ((liveA 0 L1).length : Nat) = ⟨x.han, x.node, L1.length, x.st == 1⟩ ∧ AInv n (i + 1) (goA A (liveA 0 L1).length) (L1 ++ ⟨x.node, v, x.han⟩ :: L2) := by
  have hl : A.list = liveA 0 L1 ++ ⟨x.han, x.node, L1.length, x.st == 1⟩ :: liveA (L1.length + 1) L2 := by
    rw [I.lst, liveA_app]; simp [liveA, hx]
  have hk : (liveA 0 L1).length < A.list.length := by rw [hl]; simp
  have hg : gt A.list ((liveA 0 L1).length : Nat) = ⟨x.han, x.node, L1.length, x.st == 1⟩ := by
    rw [gt_nat hk]; simp [hl]
  refine ⟨hk, hg, ?_⟩
  have hc := I.can hi _ hk
  have hok := afsOk_go I.ok hk hc
  have hh := afs_held I.ok _ hk
  simp only [sltHolds, Bool.and_eq_true, isIn, inR, decide_eq_true_eq, beq_iff_eq] at hh
  rw [hg] at hh
  dsimp only at hh
  obtain ⟨⟨c1, c2⟩, c3, c4⟩ := hh
  have ha := I.age _ (gt_mem (xs := A.slots.ages) (z := x.han.slot) (by omega) (by omega))
  have e0 : (goA A (liveA 0 L1).length).slots.ages = A.slots.ages.set x.han.slot.toNat (x.han.age + 1) := by simp only [goA, hg, dropS]
  have hset : ∀ z : Int, 0 ≤ z → z < A.slots.ages.length → gt (A.slots.ages.set x.han.slot.toNat (x.han.age + 1)) z = if z = x.han.slot then x.han.age + 1 else gt A.slots.ages z := fun z z0 z1 => by
    have p1 := gt_some (xs := A.slots.ages.set x.han.slot.toNat (x.han.age + 1)) z0 (by simp; omega)
    have p2 := gt_some (xs := A.slots.ages) z0 (by omega)
    rw [List.getElem?_set] at p1
    by_cases e : x.han.slot.toNat = z.toNat
    · rw [if_pos e, if_pos (by omega)] at p1
      rw [← Option.some.inj p1, if_pos (by omega)]
    · rw [if_neg e, p2] at p1
      rw [← Option.some.inj p1, if_neg (fun h => e (by rw [h]))]
  refine ⟨hok, ?_, ?_, ?_, fun y hy => ?_, fun y hy => ?_, fun y hy h2 => ?_⟩
  · rw [e0, List.length_set]; exact I.nl
  · have := I.len; simp only [List.length_append, List.length_cons] at this ⊢; omega
  · simp only [goA]
    rw [hl, List.eraseIdx_append_of_length_le (Nat.le_refl _), liveA_app]
    have : ¬ v < 2 := by omega
    simp [liveA, this]
  · rw [e0] at hy
    rcases List.mem_or_eq_of_mem_set hy with q | q
    · have := I.age y q; omega
    · omega
  · rcases List.mem_append.1 hy with q | q
    · exact I.st y (by simp [q])
    · rcases List.mem_cons.1 q with rfl | q
      · show 0 ≤ v; omega
      · exact I.st y (by simp [q])
  · rw [e0]
    have key : ∀ z ∈ L1 ++ x :: L2, 2 ≤ z.st → isIn z.han.slot (A.slots.ages.set x.han.slot.toNat (x.han.age + 1)) = true ∧ z.han.age < gt (A.slots.ages.set x.han.slot.toNat (x.han.age + 1)) z.han.slot := fun z hz hz2 => by
      obtain ⟨d1, d2⟩ := I.dead z hz hz2
      have d3 := d1
      simp only [isIn, inR, Bool.and_eq_true, decide_eq_true_eq, List.length_set] at d1 ⊢
      refine ⟨d1, ?_⟩
      rw [hset _ d1.1 (by omega)]
      split
      · rename_i e; rw [e] at d2; omega
      · exact d2
    rcases List.mem_append.1 hy with q | q
    · exact key y (by simp [q]) h2
    · rcases List.mem_cons.1 q with rfl | q
      · dsimp only
        simp only [isIn, inR, Bool.and_eq_true, decide_eq_true_eq, List.length_set]
        refine ⟨⟨c1, c2⟩, ?_⟩
        rw [hset _ c1 (by omega), if_pos rfl]; omega
      · exact key y (by simp [q]) h2
theorem reg {k : Nat} {m : Int} (I : AInv n i A L) (hi : i < 99) (hk : takeAt A.slots = some k) (h0 : 0 ≤ m) (h1 : m ≤ 2) :
    regA A m L.length = ⟨takeS A.slots k, A.list ++ [⟨takeH A.slots k, m, L.length, false⟩]⟩ ∧ AInv n (i + 1) (regA A m L.length) (L ++ [⟨m, 0, takeH A.slots k⟩]) := by
  have e : regA A m L.length = ⟨takeS A.slots k, A.list ++ [⟨takeH A.slots k, m, L.length, false⟩]⟩ := by simp [regA, hk]
  have hl := I.len
  refine ⟨e, ?_⟩
  rw [e]
  refine ⟨afsOk_reg I.ok hk (by simp [isAfter, inR]; omega), I.nl, by simp; omega, ?_, fun x hx => by have := I.age x hx; omega, fun x hx => ?_, fun x hx h2 => ?_⟩
  · rw [liveA_app, ← I.lst]; simp [liveA]
  · rcases List.mem_append.1 hx with q | q
    · exact I.st x q
    · obtain rfl := List.mem_singleton.1 q; exact Int.le_refl 0
  · rcases List.mem_append.1 hx with q | q
    · exact I.dead x q h2
    · obtain rfl := List.mem_singleton.1 q; exact absurd (show (2 : Int) ≤ 0 from h2) (by decide)
theorem room (I : AInv n i A L) (hi : i < 1000) : (takeAt A.slots).isSome = decide (cntL L < n) := by
  have hc := I.cnt.2
  obtain ⟨f1, f2, f3⟩ := afs_facts I.ok
  have hn := I.nl
  have hle := List.countP_le_length (p := id) (l := A.slots.used)
  simp only [cntB] at hc
  cases ht : takeAt A.slots with
  | none =>
    have h := takeAt_not ht
    have hall : A.slots.used.countP id = A.slots.used.length := by
      rw [List.countP_eq_length]
      intro b hb
      obtain ⟨j, hj, rfl⟩ := List.getElem_of_mem hb
      have := h j (by omega)
      simp only [freeAt, gt_nat hj, gt_nat (show j < A.slots.ages.length by omega)] at this
      have h2 := I.age _ (List.getElem_mem (show j < A.slots.ages.length by omega))
      have h3 : (A.slots.ages[j]'(by omega) != 1000000) = true := by simp only [bne_iff_ne]; omega
      rw [h3] at this
      simpa using this
    simp only [Option.isSome_none, Bool.false_eq, decide_eq_false_iff_not]
    omega
  | some k =>
    obtain ⟨t1, t2⟩ := takeAt_of ht
    simp only [freeAt, Bool.and_eq_true, Bool.not_eq_true'] at t2
    have hne : A.slots.used.countP id ≠ A.slots.used.length := by
      intro e
      rw [List.countP_eq_length] at e
      have := e (gt A.slots.used (k : Int)) (gt_mem (by omega) (by omega))
      rw [t2.1] at this
      exact absurd this (by decide)
    simp only [Option.isSome_some, true_eq_decide_iff]
    omega
theorem started (I : AInv n i A L) (hi : i < 1000) :
    (idxI (fun x : Rg => x.st == 1) L 0 = -1 → goAt A = none) ∧
    (∀ L1 x L2, L = L1 ++ x :: L2 → x.st = 1 → (∀ y ∈ L1, y.st ≠ 1) → goAt A = some (liveA 0 L1).length) := by
  constructor
  · intro h
    have h2 : ∀ x ∈ L, (x.st == 1) = false := (idxI_none _ _ 0 (Int.le_refl 0)).1 (by omega)
    refine goAt_none fun k hk => ?_
    have hm : gt A.list (k : Int) ∈ A.list := gt_mem (by omega) (by omega)
    rw [I.lst] at hm
    obtain ⟨y, y1, y2, y3, y4, y5⟩ := liveA_mem hm
    rw [← I.lst] at y5
    simp only [isGo, y5, h2 y y1, Bool.false_and]
  · rintro L1 x L2 rfl hx hn
    obtain ⟨g1, g2, _⟩ := I.go (v := 2) (by omega) (by omega) hi
    have hc := I.can hi
    refine goAt_some g1 (fun k hk => ?_) ?_
    · have hm : gt A.list (k : Int) ∈ liveA 0 L1 := by
        have e : A.list = liveA 0 L1 ++ liveA (0 + L1.length) (x :: L2) := by rw [I.lst, liveA_app]
        rw [gt_nat (by omega)]
        simp only [e]
        rw [List.getElem_append_left hk]; exact List.getElem_mem hk
      obtain ⟨y, y1, y2, y3, y4, y5⟩ := liveA_mem hm
      have : (y.st == 1) = false := beq_eq_false_iff_ne.2 (hn y y1)
      simp only [isGo, y5, this, Bool.false_and]
    · have := hc _ g1
      simp only [isGo, this, Bool.and_true]
      rw [g2]; simp [hx]
theorem off {L1 L2 : List Rg} {x : Rg} (I : AInv n i A (L1 ++ x :: L2)) (hi : i < 1000) :
    offB A x.han = (x.st == 0) ∧ AInv n (i + 1) (offA A x.han) (L1 ++ (if x.st = 0 then ⟨x.node, 3, x.han⟩ else x) :: L2) := by
  have h4 := (afsOk_iff.1 I.ok).2.2.2
  by_cases hx : x.st < 2
  · obtain ⟨g1, g2, g3⟩ := I.go (v := 3) hx (by omega) hi
    have hat : afsAt A.list x.han = ((liveA 0 L1).length : Nat) := by
      have := afsAt_here g1
      rw [g2] at this
      dsimp only at this
      have h5 : idxI (fun y : Afr => y.han == x.han) (A.list.take (liveA 0 L1).length) 0 < 0 := by
        rw [idxI_none _ _ 0 (Int.le_refl 0)]
        intro y hy
        obtain ⟨j, hj, rfl⟩ := List.mem_take_iff_getElem.1 hy
        have := List.pairwise_iff_getElem.1 h4 j (liveA 0 L1).length (by omega) g1 (by omega)
        rw [← gt_nat g1, g2] at this
        simpa using this
      rw [decide_eq_true h5] at this
      simpa using this
    have hb : offB A x.han = (x.st == 0) := by
      simp only [offB, hat, g2]
      have h0 := I.st x (by simp)
      have : decide (0 ≤ (((liveA 0 L1).length : Nat) : Int)) = true := decide_eq_true (by omega)
      rw [this, Bool.true_and]
      by_cases e : x.st = 0
      · simp [e]
      · have : x.st = 1 := by omega
        simp [this]
    refine ⟨hb, ?_⟩
    unfold offA
    rw [hb]
    by_cases e : x.st = 0
    · rw [if_pos (by simp [e]), if_pos e, hat, Int.toNat_natCast]; exact g3
    · rw [if_neg (by simp [e]), if_neg e]; exact I.mono
  · obtain ⟨d1, d2⟩ := I.dead x (by simp) (by omega)
    have hat : afsAt A.list x.han < 0 := by
      unfold afsAt
      rw [idxI_none _ _ 0 (Int.le_refl 0)]
      intro y hy
      have hh := ((afsOk_iff.1 I.ok).2.2.1 y hy).2
      simp only [sltHolds, Bool.and_eq_true, beq_iff_eq] at hh
      simp only [beq_eq_false_iff_ne]
      intro e
      rw [e] at hh
      omega
    have hb : offB A x.han = false := by simp only [offB]; rw [decide_eq_false (by omega), Bool.false_and]
    have e : ¬ x.st = 0 := by omega
    refine ⟨by rw [hb]; exact (beq_eq_false_iff_ne.2 e).symm, ?_⟩
    unfold offA
    rw [hb, if_neg (by decide), if_neg e]; exact I.mono
end AInv
end Go.AE
end

section
/- Functions that are registered, queued, started and called off by a law's draws. -/
namespace Go.AE
@[simp] theorem keepT_updR {ms : List Nat} {i : Nat} {f t : Nat → AV} {v : AV} (hi : i ∈ ms) : KeepT ms f (upd t i v) = KeepT ms f t := by
  apply propext
  constructor
  · intro h j hj
    have := h j hj
    rwa [upd_ne _ _ _ _ (fun e : j = i => hj (by rw [e]; exact hi))] at this
  · intro h j hj
    rw [upd_ne _ _ _ _ (fun e : j = i => hj (by rw [e]; exact hi))]; exact h j hj
theorem KeepT.u {ms : List Nat} {i : Nat} {f t : Nat → AV} {v : AV} (hi : ms.contains i = true) (h : KeepT ms f t) : KeepT ms (upd f i v) t := by
  rw [keepT_upd (by simpa using hi)]; exact h
theorem KeepT.o {ms : List Nat} {f t : Nat → AV} {i : Nat} {v l} (hi : ms.contains i = true) (h : KeepT ms (ov l f) t) : KeepT ms (ov ((i, v) :: l) f) t := by
  rw [keepT_ov (by simpa using hi)]; exact h
theorem KeepT.on {ms : List Nat} {f t : Nat → AV} (h : KeepT ms f t) : KeepT ms (ov [] f) t := h
theorem KeepT.m {ms : List Nat} {tm t : Nat → AV} : KeepT ms (mask ms tm t) t := by rw [keepT_mask]; trivial
theorem KeepT.mm {ms ms' : List Nat} {tm t t' : Nat → AV} (hs : ms'.all ms.contains = true) (h : KeepT ms t' t) : KeepT ms (mask ms' tm t') t := by
  rw [keepT_mask' (by simpa using hs)]; exact h
structure RO (m n : Nat) (h : Heap) (p q j1 j2 j3 : Nat) (xs : List Int) (A : Afs) (L : List Rg) : Prop where
  a : h p = some (.obj (afsV (fun _ => true) A))
  d : DiceO h q xs
  r1 : h j1 = some (.row 1 (L.map fun x => iv x.node))
  r2 : h j2 = some (.row 1 (L.map fun x => iv x.st))
  r3 : h j3 = some (.row 2 (L.map fun x => hanC x.han))
  n12 : j1 ≠ j2
  lo : m ≤ p ∧ m ≤ q ∧ m ≤ j1 ∧ m ≤ j2 ∧ m ≤ j3
  hi : p < n ∧ q < n ∧ j1 < n ∧ j2 < n ∧ j3 < n
namespace RO
variable {m n : Nat} {h : Heap} {p q j1 j2 j3 : Nat} {xs : List Int} {A : Afs} {L : List Rg}
theorem ne (R : RO m n h p q j1 j2 j3 xs A L) : j1 ≠ j3 ∧ j2 ≠ j3 ∧ p ≠ q ∧ p ≠ j1 ∧ p ≠ j2 ∧ p ≠ j3 ∧ q ≠ j1 ∧ q ≠ j2 ∧ q ≠ j3 := by
  obtain ⟨i, H, _, h2⟩ := R.d
  refine ⟨fun e => ?_, fun e => ?_, fun e => ?_, fun e => ?_, fun e => ?_, fun e => ?_, fun e => ?_, fun e => ?_, fun e => ?_⟩
  · have := R.r1; rw [e, R.r3] at this; simp at this
  · have := R.r2; rw [e, R.r3] at this; simp at this
  · have := R.a; rw [e, h2] at this; simp [afsV] at this
  · have := R.a; rw [e, R.r1] at this; simp at this
  · have := R.a; rw [e, R.r2] at this; simp at this
  · have := R.a; rw [e, R.r3] at this; simp at this
  · rw [e, R.r1] at h2; simp at h2
  · rw [e, R.r2] at h2; simp at h2
  · rw [e, R.r3] at h2; simp at h2
theorem roll {h' : Heap} {n' : Nat} (R : RO m n h p q j1 j2 j3 xs A L) (hn : n ≤ n') (hd : DiceO h' q xs) (hf : ∀ j, j < n → j ≠ q → h' j = h j) : RO m n' h' p q j1 j2 j3 xs A L := by
  obtain ⟨e1, e2, e3, e4, e5, e6, e7, e8, e9⟩ := R.ne
  obtain ⟨b1, b2, b3, b4, b5⟩ := R.hi
  exact ⟨(hf _ b1 e3).trans R.a, hd, (hf _ b3 e7.symm).trans R.r1, (hf _ b4 e8.symm).trans R.r2, (hf _ b5 e9.symm).trans R.r3, R.n12, R.lo, by omega, by omega, by omega, by omega, by omega⟩
theorem mono {n' : Nat} (R : RO m n h p q j1 j2 j3 xs A L) (hn : n ≤ n') : RO m n' h p q j1 j2 j3 xs A L := R.roll hn R.d (fun _ _ _ => rfl)
theorem same {h' : Heap} {n' : Nat} (R : RO m n h p q j1 j2 j3 xs A L) (hn : n ≤ n') (hf : ∀ j, j < n → h' j = h j) : RO m n' h' p q j1 j2 j3 xs A L := by
  obtain ⟨i, H, g1, g2⟩ := R.d
  exact R.roll hn ⟨i, H, g1, (hf _ R.hi.2.1).trans g2⟩ (fun j hj _ => hf j hj)
theorem cast {A' : Afs} {L' : List Rg} (R : RO m n h p q j1 j2 j3 xs A L) (hA : A' = A) (hL : L' = L) : RO m n h p q j1 j2 j3 xs A' L' := by subst hA hL; exact R
theorem setA {h' : Heap} {n' : Nat} {A' : Afs} (R : RO m n h p q j1 j2 j3 xs A L) (hn : n ≤ n') (h0 : h' p = some (.obj (afsV (fun _ => true) A'))) (hf : ∀ j, j < n → j ≠ p → h' j = h j) : RO m n' h' p q j1 j2 j3 xs A' L := by
  obtain ⟨e1, e2, e3, e4, e5, e6, e7, e8, e9⟩ := R.ne
  obtain ⟨b1, b2, b3, b4, b5⟩ := R.hi
  obtain ⟨i, H, g1, g2⟩ := R.d
  exact ⟨h0, ⟨i, H, g1, (hf _ b2 e3.symm).trans g2⟩, (hf _ b3 e4.symm).trans R.r1, (hf _ b4 e5.symm).trans R.r2, (hf _ b5 e6.symm).trans R.r3, R.n12, R.lo, by omega, by omega, by omega, by omega, by omega⟩
theorem setS {h' : Heap} {n' : Nat} {L' : List Rg} (R : RO m n h p q j1 j2 j3 xs A L) (hn : n ≤ n') (h2 : h' j2 = some (.row 1 (L'.map fun x => iv x.st))) (e1 : (L'.map fun x => iv x.node) = L.map fun x => iv x.node) (e3 : (L'.map fun x => hanC x.han) = L.map fun x => hanC x.han)
    (hf : ∀ j, j < n → j ≠ j2 → h' j = h j) : RO m n' h' p q j1 j2 j3 xs A L' := by
  obtain ⟨f1, f2, f3, f4, f5, f6, f7, f8, f9⟩ := R.ne
  obtain ⟨b1, b2, b3, b4, b5⟩ := R.hi
  obtain ⟨i, H, g1, g2⟩ := R.d
  exact ⟨(hf _ b1 f5).trans R.a, ⟨i, H, g1, (hf _ b2 f8).trans g2⟩, by rw [e1]; exact (hf _ b3 R.n12).trans R.r1, h2, by rw [e3]; exact (hf _ b5 f2.symm).trans R.r3, R.n12, R.lo, by omega, by omega, by omega, by omega, by omega⟩
end RO
theorem AInv.cast {n i : Nat} {A A' : Afs} {L L' : List Rg} (I : AInv n i A L) (hA : A' = A) (hL : L' = L) : AInv n i A' L' := by subst hA hL; exact I
theorem row_get {α : Type} [Inhabited α] {f : α → List AV} {l : List α} {k : Nat} (hk : k < l.length) : (l.map f)[k]? = some (f (gt l (k : Int))) := by
  rw [List.getElem?_map, ← Int.toNat_natCast k, gt_some (by omega) (by omega)]; simp
@[simp] theorem cntL_nil : cntL [] = 0 := rfl
theorem cntL_succ {l : List Rg} {k : Nat} (hk : k < l.length) : cntL (l.take (k + 1)) = cntL (l.take k) + if (gt l (k : Int)).st < 2 then 1 else 0 := by
  rw [← List.take_append_getElem hk, gt_nat hk]
  simp only [cntL, cntB, List.countP_append, List.countP_cons, List.countP_nil]
  split <;> simp_all <;> omega
theorem cntL_le (l : List Rg) : 0 ≤ cntL l ∧ cntL l ≤ l.length := ⟨by simp [cntL, cntB], cntB_le _ _⟩
@[simp] theorem idxI_nil {α : Type} (q : α → Bool) (k : Int) : idxI q [] k = -1 := rfl
theorem idx_split {q : Rg → Bool} : ∀ (l : List Rg) (k : Int), 0 ≤ k → idxI q l k = -1 ∨ ∃ l1 x l2, l = l1 ++ x :: l2 ∧ q x = true ∧ (∀ y ∈ l1, q y = false) ∧ idxI q l k = k + (l1.length : Int)
  | [], k, _ => .inl rfl
  | x :: l, k, hk => by
    by_cases hx : q x = true
    · exact .inr ⟨[], x, l, rfl, hx, by simp, by simp [idxI, hx]⟩
    · have hf : q x = false := by simpa using hx
      rcases idx_split l (k + 1) (by omega) with h | ⟨l1, y, l2, rfl, h2, h3, h4⟩
      · exact .inl (by simp only [idxI, hf, Bool.false_eq_true, if_false]; exact h)
      · refine .inr ⟨x :: l1, y, l2, rfl, h2, fun z hz => ?_, ?_⟩
        · rcases List.mem_cons.1 hz with rfl | hz
          · exact hf
          · exact h3 z hz
        · simp only [idxI, hf, Bool.false_eq_true, if_false, h4, List.length_cons]; omega
theorem idx_step {q : Rg → Bool} {l : List Rg} {k : Nat} (hk : k < l.length) : idxI q (l.drop k) (k : Int) = if q (gt l (k : Int)) = true then (k : Int) else idxI q (l.drop (k + 1)) ((k + 1 : Nat) : Int) := by
  rw [List.drop_eq_getElem_cons hk, gt_nat hk]
  simp only [idxI]
  split <;> simp_all
theorem mid_eq {l : List Rg} {k : Nat} (hk : k < l.length) : l = l.take k ++ gt l (k : Int) :: l.drop (k + 1) := by
  rw [gt_nat hk, ← List.drop_eq_getElem_cons hk, List.take_append_drop]
theorem set_same {α : Type} {l : List α} {k : Nat} {x : α} (h : l[k]? = some x) : l.set k x = l := by
  obtain ⟨h1, rfl⟩ := List.getElem?_eq_some_iff.1 h
  exact List.set_getElem_self h1
theorem set_mid {α : Type} {l1 l2 : List α} {x y : α} : (l1 ++ x :: l2).set l1.length y = l1 ++ y :: l2 := by simp
theorem newA_inv {n : Nat} (h0 : 1 ≤ n) (h1 : n ≤ 5) : AInv n 0 ⟨⟨List.replicate n 0, List.replicate n false⟩, []⟩ [] := by
  have hn : n = 1 ∨ n = 2 ∨ n = 3 ∨ n = 4 ∨ n = 5 := by omega
  refine ⟨?_, by simp, by simp, rfl, fun x hx => ?_, by simp, by simp⟩
  · rcases hn with rfl | rfl | rfl | rfl | rfl <;> decide
  · rw [List.eq_of_mem_replicate hx]; decide
end Go.AE
end
