/- An abstract machine over the model: its states, its steps, and that what it shows holds of the model. -/
import Derived.Test.YtfffnioddgeohaaGreatA2
import Derived.ChangeShapes
import Derived.Deep.Slices
import Derived.DataReads
import Derived.Below
import Derived.WideShapes
import GoSem.ClaimJoined
set_option linter.unusedVariables false
set_option linter.unusedSimpArgs false
set_option linter.deprecated false
section
/- What the reference's readers answer, against the program's. -/
namespace Go.AE
theorem sltOk_len {s:Slt} (h:zF0 s = true):s.used.length = s.ages.length:=by simp [zF0] at h;omega
theorem cmp2_lt (a b:Int):(cmp2 a b < 0) = (a < b):=by
 unfold cmp2;split
 ·simp [*]
 ·split <;> simp [*] <;> omega
theorem cmp2_z (a b:Int):(cmp2 a b = 0) = (a = b):=by
 unfold cmp2;split
 ·simp;omega
 ·split <;> simp <;> omega
theorem twgCmp_lt (a b:Twg):decide (uX a b < 0) = (decide (a.due < b.due) || (a.due == b.due && decide (a.seq < b.seq))):=by
 have e:uX a b = if cmp2 a.due b.due ≠ 0 then cmp2 a.due b.due else if cmp2 a.seq b.seq ≠ 0 then cmp2 a.seq b.seq else 0:=by
  simp only [uX,orI,bne_iff_ne]
 have h1:=cmp2_lt a.due b.due
 have h2:=cmp2_z a.due b.due
 have h3:=cmp2_lt a.seq b.seq
 have h4:=cmp2_z a.seq b.seq
 simp only [eq_iff_iff] at h1 h2 h3 h4
 rw [e,Bool.eq_iff_iff]
 simp only [Bool.or_eq_true,Bool.and_eq_true,decide_eq_true_eq,beq_iff_eq]
 generalize cmp2 a.due b.due = x at *
 generalize cmp2 a.seq b.seq = y at *
 split <;> (try split) <;> omega
def rkI (h:List Twg):Int:=match rk h with | some r=>r | none => -1
def zL2 (h:List Twg):Bool:=uA (fun i x => !(decide (0 ≤ zH3 (h.take i.toNat) x.seq))) h 0
theorem heapOk_eq (h:List Twg):zF6 h = (decide (h.length ≤ 64) && (zL2 h && decide (0 ≤ rkI h))):=by
 unfold zF6 rkI zL2
 cases hr:rk h with
 | none=>simp
 | some r=>simp
theorem rkI_cases (h:List Twg):(rk h = none ∧ rkI h = -1) ∨ ∃ r:Nat,rk h = some r ∧ rkI h = r:=by
 unfold rkI
 cases rk h with
 | none=>exact .inl ⟨rfl,rfl⟩
 | some r=>exact .inr ⟨r,rfl,rfl⟩
theorem rkI_nil:rkI [] = 0:=rfl
def tmr1 (x:Tmr) (next:Int):Bool:=inR x.seq 0 (next - 1) && (inR x.what 0 2 && inR x.whom 0 99)
def nod1 (n:Nod):Bool :=
 if n.kind != 2 && n.due != never then false
 else if n.kind == 3 then inR n.key 1 9 && inR n.value 0 999
 else inR n.kind 0 4 && (n.key == 0 && n.value == 0)
theorem zJ9 (n:Nod) (i:Int):zK9 n i = (nod1 n && if n.kind == 0 then n.up == -1 else inR n.up 0 (i - 1)):=by
 unfold zK9 nod1
 simp only [inR]
 grind
theorem treeOk_eq (t:List Nod):uJ t = (decide (t.length ≤ 60) && uA (fun i n=>zK9 n i) t 0):=by
 unfold uJ
 rw [Bool.eq_iff_iff,Bool.and_eq_true,zK1,zK1,decide_eq_true_eq]
 constructor
 ·intro h
  refine ⟨?_,fun i hi => ?_⟩
  ·by_cases hl:t.length ≤ 60
   ·exact hl
   ·have:=h 60 (by omega);simp at this
  ·have:=h i hi;simp at this;simpa using this.2
 ·rintro ⟨hl,h⟩ i hi
  have:=h i hi
  simp;exact ⟨by omega,by simpa using this⟩
structure Odr where
 kind:Int
 a:Int
 b:Int
 c:Int
 d:Int
 deriving DecidableEq,Inhabited
def odrC (x:Odr):List AV:=[.int .i64 x.kind,.int .i64 x.a,.int .i64 x.b,.int .i64 x.c,.int .i64 x.d]
@[simp] theorem odrC_len (x:Odr):(odrC x).length = 5:=rfl
@[simp] theorem odrC_take (x:Odr):(odrC x).take 5 = odrC x:=rfl
@[simp] theorem odrC_one (x:Odr):(odrC x).all AV.one = true:=rfl
@[simp] theorem frz_odrC (h x):frz h (odrC x) = some (odrC x,h):=by simp [odrC]
theorem han_beq (a b:Han):(a == b) = (a.slot == b.slot && (a.age == b.age)):=by
 obtain ⟨a0,a1⟩:=a;obtain ⟨b0,b1⟩:=b
 rw [Bool.eq_iff_iff];simp
theorem inn_beq (a b:Inn):(a == b) = (a.op == b.op && (a.a == b.a && (a.b == b.b))):=by
 obtain ⟨a0,a1,a2⟩:=a;obtain ⟨b0,b1,b2⟩:=b
 rw [Bool.eq_iff_iff];simp
theorem nod_beq (a b:Nod):(a == b) = (a.kind == b.kind && (a.up == b.up && (a.due == b.due && (a.key == b.key && (a.value == b.value))))):=by
 obtain ⟨a0,a1,a2,a3,a4⟩:=a;obtain ⟨b0,b1,b2,b3,b4⟩:=b
 rw [Bool.eq_iff_iff];simp
theorem evt_beq (a b:Evt):(a == b) = (a.node == b.node && (a.err == b.err && (a.cause == b.cause && (a.time == b.time)))):=by
 obtain ⟨a0,a1,a2,a3⟩:=a;obtain ⟨b0,b1,b2,b3⟩:=b
 rw [Bool.eq_iff_iff];simp
theorem twg_beq (a b:Twg):(a == b) = (a.due == b.due && (a.seq == b.seq && (a.lefts == b.lefts))):=by
 obtain ⟨a0,a1,a2⟩:=a;obtain ⟨b0,b1,b2⟩:=b
 rw [Bool.eq_iff_iff];simp
theorem tmr_beq (a b:Tmr):(a == b) = (a.seq == b.seq && (a.due == b.due && (a.what == b.what && (a.whom == b.whom && (a.armed == b.armed))))):=by
 obtain ⟨a0,a1,a2,a3,a4⟩:=a;obtain ⟨b0,b1,b2,b3,b4⟩:=b
 rw [Bool.eq_iff_iff];simp
theorem afr_beq (a b:Afr):(a == b) = (a.han == b.han && (a.node == b.node && (a.fn == b.fn && (a.queued == b.queued)))):=by
 obtain ⟨a0,a1,a2,a3⟩:=a;obtain ⟨b0,b1,b2,b3⟩:=b
 rw [Bool.eq_iff_iff];simp
theorem tsk_beq (a b:Tsk):(a == b) = (a.prog == b.prog && (a.pc == b.pc && (a.state == b.state && (a.why == b.why && (a.what == b.what && (a.timer == b.timer && (a.reg == b.reg && (a.group == b.group && (a.err == b.err))))))))):=by
 obtain ⟨a0,a1,a2,a3,a4,a5,a6,a7,a8⟩:=a;obtain ⟨b0,b1,b2,b3,b4,b5,b6,b7,b8⟩:=b
 rw [Bool.eq_iff_iff];simp
theorem sgt_beq (a b:Sgt):(a == b) = (a.node == b.node && (a.err == b.err && (a.cause == b.cause && (a.pos == b.pos)))):=by
 obtain ⟨a0,a1,a2,a3⟩:=a;obtain ⟨b0,b1,b2,b3⟩:=b
 rw [Bool.eq_iff_iff];simp
theorem grp_beq (a b:Grp):(a == b) = (a.node == b.node && (a.limit == b.limit && (a.active == b.active && (a.waits == b.waits && (a.first == b.first))))):=by
 obtain ⟨a0,a1,a2,a3,a4⟩:=a;obtain ⟨b0,b1,b2,b3,b4⟩:=b
 rw [Bool.eq_iff_iff];simp
theorem slt_beq (a b:Slt):(a == b) = (a.ages == b.ages && (a.used == b.used)):=by
 obtain ⟨a0,a1⟩:=a;obtain ⟨b0,b1⟩:=b
 rw [Bool.eq_iff_iff];simp
theorem spr_beq (a b:Spr):(a == b) = (a.told == b.told && (a.work == b.work)):=by
 obtain ⟨a0,a1⟩:=a;obtain ⟨b0,b1⟩:=b
 rw [Bool.eq_iff_iff];simp
theorem tms_beq (a b:Tms):(a == b) = (a.heap == b.heap && (a.list == b.list && (a.next == b.next))):=by
 obtain ⟨a0,a1,a2⟩:=a;obtain ⟨b0,b1,b2⟩:=b
 rw [Bool.eq_iff_iff];simp
theorem afs_beq (a b:Afs):(a == b) = (a.slots == b.slots && (a.list == b.list)):=by
 obtain ⟨a0,a1⟩:=a;obtain ⟨b0,b1⟩:=b
 rw [Bool.eq_iff_iff];simp
theorem wld_beq (a b:Wld):(a == b) = (a.now == b.now && (a.progs == b.progs && (a.tree == b.tree && (a.events == b.events && (a.spread == b.spread && (a.timers == b.timers && (a.afters == b.afters && (a.tasks == b.tasks && (a.groups == b.groups && (a.sights == b.sights && (a.began == b.began && (a.rang == b.rang)))))))))))):=by
 obtain ⟨a0,a1,a2,a3,a4,a5,a6,a7,a8,a9,a10,a11⟩:=a;obtain ⟨b0,b1,b2,b3,b4,b5,b6,b7,b8,b9,b10,b11⟩:=b
 rw [Bool.eq_iff_iff];simp
def szR (n:Nat) (k:Int):Int:=if k < n then -1 else k - n
theorem uM (n:Nat) (k:Int):(k < n ∧ szR n k = -1) ∨ (n ≤ k ∧ szR n k = k - n):=by
 unfold szR;split
 ·exact .inl ⟨by assumption,rfl⟩
 ·exact .inr ⟨by omega,rfl⟩
def uS {α:Type} (f:α → Nat):List α → Nat
 | []=>0
 | x :: xs=>f x + uS f xs
theorem zB0 {α:Type} (f:α → Nat) {x:α}:∀ {xs:List α},x ∈ xs → f x ≤ uS f xs
 | y :: ys,h=>by
   rcases List.mem_cons.1 h with rfl | h
   ·simp only [uS];omega
   ·have:=zB0 f h;simp only [uS];omega
def sltsz (s:Slt):Nat:=s.ages.length + s.used.length
def sprsz (s:Spr):Nat:=s.told.length + s.work.length
def tmssz (s:Tms):Nat:=s.heap.length + s.list.length
def afssz (s:Afs):Nat:=sltsz s.slots + s.list.length
def zB8 (s:Wld):Nat:=(s.progs.length + uS (·.length) s.progs) + s.tree.length + s.events.length + sprsz s.spread + tmssz s.timers + afssz s.afters + s.tasks.length + (s.groups.length + uS (·.waits.length) s.groups) + s.sights.length + s.began.length + s.rang.length
theorem prgV_fz (x:List Inn):∀ c ∈ zD7 true x,Fz c:=by simp [zD7];exact .vmap innC_fz
theorem grpV_fz (x:Grp):∀ c ∈ vJ true x,Fz c:=by simp [vJ];exact .vmap zA5
theorem sprV_fz {F} (x:Spr):∀ c ∈ uK F x,Fz c:=by simp [uK];exact ⟨.vmap zJ0,.vmap zA5⟩
theorem tmsV_fz {F} (x:Tms):∀ c ∈ vM F x,Fz c:=by simp [vM];exact ⟨.vmap yJ,.vmap uV⟩
theorem afsV_fz {F} (x:Afs):∀ c ∈ uZ F x,Fz c:=by simp [uZ];exact ⟨.vmap zA5,.vmap zJ0,.vmap zA0⟩
theorem wldV_fz (x:Wld):∀ c ∈ wldV (fun _=>true) x,Fz c:=by
 simp [wldV]
 exact ⟨.vmap prgV_fz,.vmap nodC_fz,.vmap zQ2,.vmap zJ0,.vmap zA5,.vmap yJ,.vmap uV,.vmap zA5,.vmap zJ0,.vmap zA0,.vmap zE0,.vmap grpV_fz,.vmap sgtC_fz,.vmap zA5,.vmap zA5⟩
theorem rkI_bad {l:List Twg} (hp:0 < l.length) (h:¬ (0 ≤ (gt l 0).lefts ∧ (gt l 0).lefts < l.length)):rkI l = -1:=by
 have e:=rk_tail hp
 rw [if_neg (by rw [vX];omega)] at e
 simp [rkI,e]
theorem rkI_step {l:List Twg} (hp:0 < l.length) (h0:0 ≤ (gt l 0).lefts) (h1:(gt l 0).lefts < l.length):rkI l =
 if decide (0 < (l.tail.take (gt l 0).lefts.toNat).length) && !decide (uX (gt l 0) (gt (l.tail.take (gt l 0).lefts.toNat) 0) < 0) ||
  decide (0 < (l.drop ((gt l 0).lefts.toNat + 1)).length) && !decide (uX (gt l 0) (gt (l.drop ((gt l 0).lefts.toNat + 1)) 0) < 0) then -1
 else if decide (rkI (l.tail.take (gt l 0).lefts.toNat) < 0) || (decide (rkI (l.drop ((gt l 0).lefts.toNat + 1)) < 0) || decide (rkI (l.tail.take (gt l 0).lefts.toNat) < rkI (l.drop ((gt l 0).lefts.toNat + 1)))) then -1
 else rkI (l.drop ((gt l 0).lefts.toNat + 1)) + 1:=by
 have e:=rk_tail hp
 simp only [head_all] at e
 rw [if_pos (by rw [vX];omega)] at e
 generalize l.tail.take (gt l 0).lefts.toNat = a at *
 generalize l.drop ((gt l 0).lefts.toNat + 1) = b at *
 unfold rkI
 cases ha:rk a with
 | none=>simp [e,ha]
 | some x =>
   cases hb:rk b with
   | none=>simp [e,ha,hb]
   | some y =>
     rw [e,ha,hb]
     simp only
     by_cases c1:y ≤ x ∧ (a.length = 0 ∨ uX (gt l 0) (gt a 0) < 0) ∧ (b.length = 0 ∨ uX (gt l 0) (gt b 0) < 0)
     ·rw [if_pos c1]
      obtain ⟨q1,q2,q3⟩:=c1
      rw [if_neg (by simp;omega),if_neg (by simp;omega)];simp
     ·rw [if_neg c1]
      simp only
      by_cases c2:(decide (0 < a.length) && !decide (uX (gt l 0) (gt a 0) < 0) || decide (0 < b.length) && !decide (uX (gt l 0) (gt b 0) < 0)) = true
      ·rw [if_pos c2]
      ·rw [if_neg c2,if_pos]
       simp only [Bool.or_eq_true,Bool.and_eq_true,decide_eq_true_eq,Bool.not_eq_true',decide_eq_false_iff_not] at c2 ⊢
       by_cases hyx:y ≤ x
       ·exfalso;apply c1
        refine ⟨hyx,?_,?_⟩ <;> by_cases h0:uX (gt l 0) (gt a 0) < 0 <;> by_cases h1:uX (gt l 0) (gt b 0) < 0 <;> simp only [h0,h1,true_or,or_true,or_false,not_true,not_false_eq_true,and_true,and_false,false_or,or_self] at c2 ⊢ <;> omega
       ·right;right;omega
theorem rkI_le (l:List Twg) : -1 ≤ rkI l ∧ rkI l ≤ l.length:=by
 rcases rkI_cases l with ⟨h,e⟩ | ⟨r,h,e⟩
 ·omega
 ·have:=rk_le h;omega
def tsk1 (t:Tsk):Bool :=
 if t.why == 1 then inR t.what 0 59 && t.timer == -1
 else if t.why == 2 then inR t.what 0 59 && inR t.timer 0 1000000
 else if t.why == 3 || t.why == 4 then inR t.what 0 7 && t.timer == -1
 else false
theorem zC7 {t:List Nod} {l:List Evt} (h:yT t l = true):uJ t = true:=by
 simp only [yT,Bool.and_eq_true] at h;exact h.1
theorem zP6 {t:List Nod} {l:List Evt} (h:yT t l = true) (i:Nat) (hi:i < l.length):fits t (l.take i) l[i] = true:=by
 simp only [yT,Bool.and_eq_true] at h
 have:=zK1.1 h.2 i hi
 simpa using this
theorem find_idx {α:Type} [Inhabited α] (q:α → Bool) (l:List α):l.find? q = if yH q l 0 < 0 then none else some (gt l (yH q l 0)):=by
 split
 ·rename_i h
  have:=(zR4 q l 0 (Int.le_refl 0)).1 h
  rw [List.find?_eq_none];intro x hx;simp [this x hx]
 ·rename_i h
  obtain ⟨i,hi,e,hq,hlt⟩:=idxI_at q l 0 (Int.le_refl 0) (by omega)
  rw [e,Int.zero_add,yU hi,List.find?_eq_some_iff_getElem]
  exact ⟨hq,i,hi,rfl,fun j hj=>by simp [hlt j hj]⟩
theorem firstOf_idx {t:List Nod} {l:List Evt} {n:Int}:zH1 t l n = if yH (fun e=>(zH6 t n).contains e.node) l 0 < 0 then none else some (gt l (yH (fun e=>(zH6 t n).contains e.node) l 0)):=find_idx _ _
theorem fits_step {t:List Nod} {l:List Evt} {e:Evt} (h:fits t l e = true):zD4 t e = true ∧ (0 < l.length → (gt l ((l.length:Int) - 1)).time ≤ e.time) ∧ (zH1 t l e.node).isSome = false:=by
 unfold fits at h
 split at h
 ·cases h
 ·rename_i g;simp at g h;exact ⟨g.1,fun hp=>g.2 hp,by simpa using h⟩
theorem zQ8 {t:List Nod} {l:List Evt} (h:yT t l = true):∀ (j i:Nat) (hij:i ≤ j) (hj:j < l.length),(l[i]'(by omega)).time ≤ l[j].time:=by
 intro j
 induction j with
 | zero=>intro i hij hj;obtain rfl:i = 0:=by omega
         exact Int.le_refl _
 | succ j ih =>
   intro i hij hj
   by_cases e:i = j + 1
   ·subst e;exact Int.le_refl _
   ·have h1:=ih i (by omega) (by omega)
    have h2:=(fits_step (zP6 h (j + 1) hj)).2.1 (by simp;omega)
    have e2:gt (l.take (j + 1)) (((l.take (j + 1)).length:Int) - 1) = l[j]:=by
     have:((l.take (j + 1)).length:Int) - 1 = (j:Nat):=by simp;omega
     rw [this,yU (by simp;omega)];simp
    rw [e2] at h2
    omega
theorem evTimes_eq {t:List Nod} {l:List Evt} {now:Int}:(yT t l && l.all (fun e=>inR e.time 0 now)) =
 (yT t l && (decide (l.length = 0) || (decide (0 ≤ (gt l 0).time) && decide ((gt l ((l.length:Int) - 1)).time ≤ now)))):=by
 by_cases h:yT t l = true
 ·rw [h,Bool.true_and,Bool.true_and,Bool.eq_iff_iff]
  simp only [List.all_eq_true,vX,Bool.or_eq_true,Bool.and_eq_true,decide_eq_true_eq]
  by_cases h0:l.length = 0
  ·have:l = []:=by simpa using h0
   subst this;simp
  ·have e1:gt l ((l.length:Int) - 1) = l[l.length - 1]:=by
    have:(l.length:Int) - 1 = ((l.length - 1:Nat):Int):=by omega
    rw [this,yU]
   have e0:gt l 0 = l[0]:=yU (i:=0) (by omega)
   rw [e1,e0]
   constructor
   ·intro hh;exact .inr ⟨(hh _ (List.getElem_mem (by omega))).1,(hh _ (List.getElem_mem (by omega))).2⟩
   ·rintro (hh | ⟨h1,h2⟩)
    ·omega
    ·intro x hx
     obtain ⟨i,hi,rfl⟩:=List.mem_iff_getElem.1 hx
     have a:=zQ8 h i 0 (by omega) hi
     have b:=zQ8 h (l.length - 1) i (by omega) (by omega)
     omega
 ·simp [h]
theorem zD8 {n:Nat} {k:Int} (h:k ≤ 1048576):szR n k ≤ 1048576:=by rcases uM n k with q | q <;> omega
def szN:List Nat → Int → Int
 | [],k=>k
 | n :: ns,k=>if szR n k < 0 then -1 else szN ns (szR n k)
theorem szN_eq:∀ (ns:List Nat) (k:Int),0 ≤ k → szN ns k = szR ns.sum k
 | [],k,h=>by rcases uM 0 k with q | q <;> simp [szN] <;> omega
 | n :: ns,k,h=>by
   simp only [szN,List.sum_cons]
   rcases uM n k with q | q
   ·rw [if_pos (by omega)];rcases uM (n + ns.sum) k with q' | q' <;> omega
   ·rw [if_neg (by omega),szN_eq ns _ (by omega),q.2]
    rcases uM ns.sum (k - n) with q' | q' <;> rcases uM (n + ns.sum) k with q2 | q2 <;> omega
theorem slt_szN (s:Slt) {k:Int} (h:0 ≤ k):szR (sltsz s) k = szN [s.ages.length,s.used.length] k:=by rw [szN_eq _ _ h];simp [sltsz]
theorem spr_szN (s:Spr) {k:Int} (h:0 ≤ k):szR (sprsz s) k = szN [s.told.length,s.work.length] k:=by rw [szN_eq _ _ h];simp [sprsz]
theorem tms_szN (s:Tms) {k:Int} (h:0 ≤ k):szR (tmssz s) k = szN [s.heap.length,s.list.length] k:=by rw [szN_eq _ _ h];simp [tmssz]
theorem afs_szN (s:Afs) {k:Int} (h:0 ≤ k):szR (afssz s) k = szN [sltsz s.slots,s.list.length] k:=by rw [szN_eq _ _ h];simp [afssz]
theorem wld_szN (s:Wld) {k:Int} (h:0 ≤ k):szR (zB8 s) k = szN [s.progs.length + uS (·.length) s.progs,s.tree.length,s.events.length,sprsz s.spread,tmssz s.timers,afssz s.afters,s.tasks.length,s.groups.length + uS (·.waits.length) s.groups,s.sights.length,s.began.length,s.rang.length] k:=by
 rw [szN_eq _ _ h];simp [zB8];congr 1;omega
theorem take_gt {α:Type} [Inhabited α] {l:List α} {i j:Nat} (h:j < i) (hi:i ≤ l.length):gt (l.take i) (j:Int) = gt l (j:Int):=by
 rw [yU (by simp;omega),yU (by omega)];simp
theorem seqs_false {l:List Twg} {i:Nat} (hi:i < l.length) (hJ:uA (fun i x => !(decide (0 ≤ zH3 (l.take i.toNat) x.seq))) (l.drop i) i = zL2 l) (h:0 ≤ zH3 (l.take i) (gt l (i:Int)).seq):zL2 l = false:=by
 rw [zQ hi] at hJ;simp only [uA,Int.toNat_natCast] at hJ;rw [← hJ];simp;intro h';omega
theorem seqs_next {l:List Twg} {i:Nat} (hi:i < l.length) (hJ:uA (fun i x => !(decide (0 ≤ zH3 (l.take i.toNat) x.seq))) (l.drop i) i = zL2 l) (h:zH3 (l.take i) (gt l (i:Int)).seq < 0) :
 uA (fun i x => !(decide (0 ≤ zH3 (l.take i.toNat) x.seq))) (l.drop (i + 1)) ((i + 1:Nat):Int) = zL2 l:=by
 rw [zQ hi] at hJ;simp only [uA,Int.toNat_natCast] at hJ;rw [← hJ]
 have:(decide (0 ≤ zH3 (l.take i) (gt l (i:Int)).seq)) = false:=by simp;omega
 rw [this];simp
theorem idx_here {α:Type} [Inhabited α] {q:α → Bool} {l:List α} {i j:Nat} (hj:j < i) (hi:i ≤ l.length) {r:Int} (hJ:yH q ((l.take i).drop j) j = r) (hq:q (gt l (j:Int)) = true):r = j:=by
 rw [zQ (by simp;omega)] at hJ;simp only [yH,take_gt hj hi,hq,if_true] at hJ;exact hJ.symm
theorem idx_on {α:Type} [Inhabited α] {q:α → Bool} {l:List α} {i j:Nat} (hj:j < i) (hi:i ≤ l.length) {r:Int} (hJ:yH q ((l.take i).drop j) j = r) (hq:q (gt l (j:Int)) = false):yH q ((l.take i).drop (j + 1)) ((j + 1:Nat):Int) = r:=by
 rw [zQ (by simp;omega)] at hJ;simp only [yH,take_gt hj hi,hq] at hJ;exact hJ
theorem idx_end {α:Type} [Inhabited α] {q:α → Bool} {l:List α} {i j:Nat} (hj:i ≤ j) {r:Int} (hJ:yH q ((l.take i).drop j) j = r):r = -1:=by
 rw [List.drop_eq_nil_of_le (by simp;omega)] at hJ;simp only [yH] at hJ;exact hJ.symm
theorem fits_eq {t:List Nod} {l:List Evt} {e:Evt} {i:Nat} (hi:i < l.length):fits t (l.take i) e =
 (zD4 t e && (!(decide (0 < i) && decide (e.time < (gt l ((i:Int) - 1)).time)) && decide (yH (fun x=>(zH6 t e.node).contains x.node) (l.take i) 0 < 0))):=by
 have hl:(l.take i).length = i:=by simp;omega
 unfold fits
 rw [firstOf_idx,hl]
 by_cases h0:0 < i
 ·have e2:gt (l.take i) ((i:Int) - 1) = gt l ((i:Int) - 1):=by
   have:(i:Int) - 1 = ((i - 1:Nat):Int):=by omega
   rw [this];exact take_gt (by omega) (by omega)
  rw [e2]
  generalize yH (fun x=>(zH6 t e.node).contains x.node) (l.take i) 0 = k
  by_cases q:k < 0 <;> cases zD4 t e <;> by_cases r:e.time < (gt l ((i:Int) - 1)).time <;> simp [q,r,h0]
 ·generalize yH (fun x=>(zH6 t e.node).contains x.node) (l.take i) 0 = k
  by_cases q:k < 0 <;> cases zD4 t e <;> simp [q,h0]
theorem isEvent_in {t:List Nod} {e:Evt} (h:zD4 t e = true):0 ≤ e.node ∧ e.node < t.length:=by
 unfold zD4 at h;split at h
 ·cases h
 ·rename_i g;simpa [zE4] using g
theorem afsAt_here {l:List Afr} {i:Nat} (hi:i < l.length):(afsAt l (gt l (i:Int)).han == (i:Int)) = decide (yH (fun y=>y.han == (gt l (i:Int)).han) (l.take i) 0 < 0):=by
 have key:∀ (q:Afr → Bool) (l:List Afr) (i:Nat) (hi:i < l.length) (k:Int),0 ≤ k → q l[i] = true → ((yH q l k = k + i) ↔ yH q (l.take i) k < 0):=by
  intro q l
  induction l with
  | nil=>intro i hi;simp at hi
  | cons x xs ih =>
    intro i hi k hk hq
    cases i with
    | zero=>simp at hq;simp [yH,hq]
    | succ i =>
      simp only [List.take_succ_cons,yH]
      by_cases hx:q x = true
      ·rw [if_pos hx,if_pos hx];omega
      ·rw [if_neg hx,if_neg hx]
       have:=ih i (by simpa using hi) (k + 1) (by omega) (by simpa using hq)
       rw [← this];omega
 have:=key (fun y=>y.han == (gt l (i:Int)).han) l i hi 0 (Int.le_refl 0) (by rw [yU hi];simp)
 rw [Bool.eq_iff_iff];simp only [afsAt,beq_iff_eq,decide_eq_true_eq];rw [← this];omega
end Go.AE
end
section
/- Heaps of timers: joining, merging, taking out, in plain terms; a heap stays a heap. -/
namespace Go.AE
def lt2 (x y:Twg):Prop:=x.due < y.due ∨ (x.due = y.due ∧ x.seq < y.seq)
theorem cmp_lt {x y:Twg}:uX x y < 0 ↔ lt2 x y:=by
 have:=twgCmp_lt x y
 rw [Bool.eq_iff_iff] at this
 simpa [lt2] using this
instance (x y:Twg):Decidable (lt2 x y):=by unfold lt2;infer_instance
theorem lt2_trans {x y z:Twg} (h:lt2 x y) (h2:lt2 y z):lt2 x z:=by unfold lt2 at *; omega
theorem lt2_irr {x y:Twg} (h:lt2 x y):¬ lt2 y x:=by unfold lt2 at *; omega
theorem lt2_tot {x y:Twg} (h:x.seq ≠ y.seq):lt2 x y ∨ lt2 y x:=by unfold lt2;omega
def ky (x:Twg):Int × Int:=(x.due,x.seq)
theorem lt2_ky {x y x' y':Twg} (hx:ky x = ky x') (hy:ky y = ky y'):lt2 x y ↔ lt2 x' y':=by
 simp only [ky,Prod.mk.injEq] at hx hy
 unfold lt2;omega
def isH (h:List Twg):Prop:=(rk h).isSome = true
def rk0 (h:List Twg):Nat:=(rk h).getD 0
theorem zN4 {x:Twg} {xs:List Twg}:isH (x :: xs) ↔ (0 ≤ x.lefts ∧ x.lefts ≤ xs.length) ∧ isH (xs.take x.lefts.toNat) ∧ isH (xs.drop x.lefts.toNat) ∧ rk0 (xs.drop x.lefts.toNat) ≤ rk0 (xs.take x.lefts.toNat) ∧
 (∀ y ∈ (xs.take x.lefts.toNat).head?,lt2 x y) ∧ (∀ y ∈ (xs.drop x.lefts.toNat).head?,lt2 x y):=by
 unfold isH rk0
 rw [rk_cons]
 simp only [cmp_lt]
 by_cases hx:0 ≤ x.lefts ∧ x.lefts ≤ xs.length
 ·rw [if_pos hx]
  cases h1:rk (xs.take x.lefts.toNat) with
  | none=>simp
  | some a =>
    cases h2:rk (xs.drop x.lefts.toNat) with
    | none=>simp
    | some b =>
      simp only [Option.isSome_some,Option.getD_some,true_and]
      by_cases hc:b ≤ a ∧ (∀ y ∈ (xs.take x.lefts.toNat).head?,lt2 x y) ∧ (∀ y ∈ (xs.drop x.lefts.toNat).head?,lt2 x y)
      ·rw [if_pos hc];simp only [Option.isSome_some,true_iff];exact ⟨hx,hc⟩
      ·rw [if_neg hc];simp only [Option.isSome_none,Bool.false_eq_true,false_iff];exact fun h=>hc h.2
 ·rw [if_neg hx];simp [hx]
theorem isH_min:∀ (n:Nat) {x:Twg} {xs:List Twg},xs.length ≤ n → isH (x :: xs) → ∀ y ∈ xs,lt2 x y:=by
 intro n
 induction n with
 | zero=>intro x xs hl h y hy;have:xs = []:=List.eq_nil_of_length_eq_zero (by omega);subst this;simp at hy
 | succ n ih =>
   intro x xs hl h y hy
   obtain ⟨⟨h1,h2⟩,h3,h4,h5,h6,h7⟩:=zN4.1 h
   rw [← List.take_append_drop x.lefts.toNat xs] at hy
   have key:∀ l:List Twg,l.length ≤ n + 1 → isH l → (∀ y ∈ l.head?,lt2 x y) → y ∈ l → lt2 x y:=by
    intro l hl hh hx hy
    cases l with
    | nil=>simp at hy
    | cons z zs =>
      have hz:=hx z (by simp)
      rcases List.mem_cons.1 hy with rfl | hy
      ·exact hz
      ·exact lt2_trans hz (ih (by simpa using hl) hh y hy)
   rcases List.mem_append.1 hy with hy | hy
   ·exact key _ (by simp;omega) h3 h6 hy
   ·exact key _ (by simp;omega) h4 h7 hy
def zD0 (x:Twg) (l r:List Twg):List Twg:=if rk0 l < rk0 r then { x with lefts:=r.length } :: (r ++ l) else { x with lefts:=l.length } :: (l ++ r)
theorem joinH_len (x:Twg) (l r:List Twg):(zD0 x l r).length = l.length + r.length + 1:=by
 unfold zD0;split <;> simp <;> omega
theorem joinH_isH {x:Twg} {l r:List Twg} (hl:isH l) (hr:isH r) (h1:∀ y ∈ l,lt2 x y) (h2:∀ y ∈ r,lt2 x y):isH (zD0 x l r):=by
 have key:∀ (n:Nat) (a b:List Twg),n = a.length → isH a → isH b → rk0 b ≤ rk0 a → (∀ y ∈ a,lt2 x y) → (∀ y ∈ b,lt2 x y) → isH ({ x with lefts:=(n:Int) } :: (a ++ b)):=by
  intro n a b hn ha hb hk g1 g2
  subst hn
  rw [zN4]
  simp only [Int.toNat_natCast]
  have e1:(a ++ b).take a.length = a:=by simp
  have e2:(a ++ b).drop a.length = b:=by simp
  rw [e1,e2]
  have up:∀ y,lt2 x y → lt2 { x with lefts:=(a.length:Int) } y:=fun y h=>h
  exact ⟨by simp;omega,ha,hb,hk,fun y hy=>up y (g1 y (List.mem_of_mem_head? hy)),fun y hy=>up y (g2 y (List.mem_of_mem_head? hy))⟩
 unfold zD0;split
 ·exact key _ r l rfl hr hl (by omega) h2 h1
 ·exact key _ l r rfl hl hr (by omega) h1 h2
theorem joinH_perm (x:Twg) (l r:List Twg):((zD0 x l r).map ky).Perm (ky x :: (l.map ky ++ r.map ky)):=by
 unfold zD0;split
 ·simp only [List.map_cons,List.map_append]
  refine List.Perm.cons _ List.perm_append_comm
 ·simp [ky]
def zM9:Nat → List Twg → List Twg → List Twg
 | _,[],b=>b
 | _,a,[]=>a
 | 0,a,_=>a
 | n + 1,x :: xs,y :: ys =>
   if lt2 y x then zD0 y (ys.take y.lefts.toNat) (zM9 n (ys.drop y.lefts.toNat) (x :: xs))
   else zD0 x (xs.take x.lefts.toNat) (zM9 n (xs.drop x.lefts.toNat) (y :: ys))
def mrg (a b:List Twg):List Twg:=zM9 (a.length + b.length) a b
def apart (a b:List Twg):Prop := ∀ x ∈ a,∀ y ∈ b,x.seq ≠ y.seq
theorem zI6 {a b:List Twg} (h:apart a b):apart b a:=fun x hx y hy e=>h y hy x hx e.symm
theorem mem_of_ky {l m:List Twg} (h:(l.map ky).Perm (m.map ky)) {y:Twg} (hy:y ∈ l):∃ z ∈ m,ky z = ky y:=by
 have:=h.mem_iff.1 (List.mem_map.2 ⟨y,hy,rfl⟩)
 obtain ⟨z,hz,e⟩:=List.mem_map.1 this
 exact ⟨z,hz,e⟩
theorem mrgN_ok:∀ (n:Nat) (a b:List Twg),a.length + b.length ≤ n → isH a → isH b → apart a b → isH (zM9 n a b) ∧ ((zM9 n a b).map ky).Perm (a.map ky ++ b.map ky):=by
 intro n
 induction n with
 | zero =>
   intro a b hl ha hb hd
   have:a = []:=List.eq_nil_of_length_eq_zero (by omega)
   subst this
   exact ⟨by simpa [zM9] using hb,by simp [zM9]⟩
 | succ n ih =>
   intro a b hl ha hb hd
   match a,b with
   | [],b=>exact ⟨by simpa [zM9] using hb,by simp [zM9]⟩
   | x :: xs,[]=>exact ⟨by simpa [zM9] using ha,by simp [zM9]⟩
   | x :: xs,y :: ys =>
     have key:∀ (x:Twg) (xs:List Twg) (b:List Twg),xs.length + b.length ≤ n → isH (x :: xs) → isH b → apart (x :: xs) b → (∀ z ∈ b,lt2 x z) →
      isH (zD0 x (xs.take x.lefts.toNat) (zM9 n (xs.drop x.lefts.toNat) b)) ∧ ((zD0 x (xs.take x.lefts.toNat) (zM9 n (xs.drop x.lefts.toNat) b)).map ky).Perm (ky x :: (xs.map ky ++ b.map ky)):=by
      intro x xs b hl ha hb hd hm
      obtain ⟨⟨h1,h2⟩,h3,h4,h5,h6,h7⟩:=zN4.1 ha
      have hmin:=isH_min _ (Nat.le_refl _) ha
      obtain ⟨g1,g2⟩:=ih (xs.drop x.lefts.toNat) b (by simp;omega) h4 hb (fun p hp q hq=>hd p (List.mem_cons_of_mem _ (List.mem_of_mem_drop hp)) q hq)
      refine ⟨joinH_isH h3 g1 (fun y hy=>hmin y (List.mem_of_mem_take hy)) (fun y hy => ?_),?_⟩
      ·have hp:((zM9 n (xs.drop x.lefts.toNat) b).map ky).Perm ((xs.drop x.lefts.toNat ++ b).map ky):=by simpa using g2
       obtain ⟨z,hz,e⟩:=mem_of_ky hp hy
       rw [lt2_ky (rfl:ky x = ky x) e.symm]
       rcases List.mem_append.1 hz with hz | hz
       ·exact hmin z (List.mem_of_mem_drop hz)
       ·exact hm z hz
      ·refine (joinH_perm _ _ _).trans (List.Perm.cons _ ?_)
       refine (List.Perm.append_left _ g2).trans ?_
       rw [← List.append_assoc,← List.map_append,List.take_append_drop]
     have hmx:=isH_min _ (Nat.le_refl _) ha
     have hmy:=isH_min _ (Nat.le_refl _) hb
     simp only [zM9]
     split
     ·rename_i hyx
      obtain ⟨k1,k2⟩:=key y ys (x :: xs) (by simp at hl ⊢; omega) hb ha (zI6 hd) (fun z hz=>by
       rcases List.mem_cons.1 hz with rfl | hz
       ·exact hyx
       ·exact lt2_trans hyx (hmx z hz))
      refine ⟨k1,k2.trans ?_⟩
      have:(ky y :: (ys.map ky ++ (x :: xs).map ky)) = (y :: ys).map ky ++ (x :: xs).map ky:=rfl
      rw [this];exact List.perm_append_comm
     ·rename_i hyx
      have hxy:lt2 x y:=by
       rcases lt2_tot (hd x (by simp) y (by simp)) with h | h
       ·exact h
       ·exact absurd h hyx
      exact key x xs (y :: ys) (by simp at hl ⊢; omega) ha hb hd (fun z hz=>by
       rcases List.mem_cons.1 hz with rfl | hz
       ·exact hxy
       ·exact lt2_trans hxy (hmy z hz))
theorem mrg_ok {a b:List Twg} (ha:isH a) (hb:isH b) (hd:apart a b):isH (mrg a b) ∧ ((mrg a b).map ky).Perm (a.map ky ++ b.map ky):=mrgN_ok _ _ _ (Nat.le_refl _) ha hb hd
def woN:Nat → List Twg → Int → List Twg
 | _,[],_=>[]
 | 0,h,_=>h
 | n + 1,x :: xs,s =>
   if x.seq = s then mrg (xs.take x.lefts.toNat) (xs.drop x.lefts.toNat)
   else if (xs.take x.lefts.toNat).any (fun y=>y.seq == s) then zD0 x (woN n (xs.take x.lefts.toNat) s) (xs.drop x.lefts.toNat)
   else zD0 x (xs.take x.lefts.toNat) (woN n (xs.drop x.lefts.toNat) s)
def wo (h:List Twg) (s:Int):List Twg:=woN h.length h s
def once (h:List Twg):Prop:=h.Pairwise (fun x y=>x.seq ≠ y.seq)
theorem once_ky {l m:List Twg} (h:(l.map ky).Perm (m.map ky)) (ho:once m):once l:=by
 have e:∀ l:List Twg,once l ↔ ((l.map ky).map (·.2)).Nodup:=fun l=>by
  simp only [once,List.Nodup,List.pairwise_map,List.map_map];rfl
 rw [e] at ho ⊢
 exact (h.map _).nodup_iff.2 ho
theorem woN_ok:∀ (n:Nat) (h:List Twg) (s:Int),h.length ≤ n → isH h → once h → (∃ x ∈ h,x.seq = s) → isH (woN n h s) ∧ ∃ x ∈ h,x.seq = s ∧ (h.map ky).Perm (ky x :: (woN n h s).map ky):=by
 intro n
 induction n with
 | zero =>
   intro h s hl hh ho ⟨x,hx,_⟩
   have:h = []:=List.eq_nil_of_length_eq_zero (by omega)
   subst this;simp at hx
 | succ n ih =>
   intro h s hl hh ho hx
   match h with
   | []=>obtain ⟨x,hx,_⟩:=hx;simp at hx
   | x :: xs =>
     obtain ⟨⟨h1,h2⟩,h3,h4,h5,h6,h7⟩:=zN4.1 hh
     have hmin:=isH_min _ (Nat.le_refl _) hh
     obtain ⟨o1,o2⟩:=List.pairwise_cons.1 ho
     have osp:once (xs.take x.lefts.toNat) ∧ once (xs.drop x.lefts.toNat) ∧ apart (xs.take x.lefts.toNat) (xs.drop x.lefts.toNat):=by
      have:=o2
      rw [← List.take_append_drop x.lefts.toNat xs] at this
      obtain ⟨a1,a2,a3⟩:=List.pairwise_append.1 this
      exact ⟨a1,a2,a3⟩
     have hxs:xs.map ky = (xs.take x.lefts.toNat).map ky ++ (xs.drop x.lefts.toNat).map ky:=by rw [← List.map_append,List.take_append_drop]
     have sm:∀ {l:List Twg} {z:Twg},(l.map ky).Perm (ky z :: (woN n l s).map ky) → ∀ y ∈ woN n l s,∃ q ∈ l,ky q = ky y:=by
      intro l z hp y hy
      have:=hp.symm.mem_iff.1 (List.mem_cons_of_mem _ (List.mem_map.2 ⟨y,hy,rfl⟩))
      obtain ⟨q,hq,e⟩:=List.mem_map.1 this
      exact ⟨q,hq,e⟩
     simp only [woN]
     split
     ·rename_i hs
      obtain ⟨g1,g2⟩:=mrg_ok h3 h4 osp.2.2
      refine ⟨g1,x,by simp,hs,?_⟩
      simp only [List.map_cons]
      rw [hxs]
      exact List.Perm.cons _ g2.symm
     ·rename_i hs
      split
      ·rename_i ha
       rw [List.any_eq_true] at ha
       obtain ⟨z,hz,hzs⟩:=ha
       obtain ⟨g1,q,hq,hqs,g2⟩:=ih (xs.take x.lefts.toNat) s (by simp at hl ⊢; omega) h3 osp.1 ⟨z,hz,by simpa using hzs⟩
       refine ⟨joinH_isH g1 h4 (fun y hy => ?_) (fun y hy=>hmin y (List.mem_of_mem_drop hy)),q,List.mem_cons_of_mem _ (List.mem_of_mem_take hq),hqs,?_⟩
       ·obtain ⟨p,hp,e⟩:=sm g2 y hy
        rw [← lt2_ky (rfl:ky x = ky x) e]
        exact hmin p (List.mem_of_mem_take hp)
       ·simp only [List.map_cons]
        rw [hxs]
        refine (List.Perm.cons _ (List.Perm.append_right _ g2)).trans ?_
        refine List.Perm.trans ?_ (List.Perm.cons _ (joinH_perm _ _ _).symm)
        exact List.Perm.swap _ _ _
      ·rename_i ha
       have hin:∃ z ∈ xs.drop x.lefts.toNat,z.seq = s:=by
        obtain ⟨z,hz,hzs⟩:=hx
        rcases List.mem_cons.1 hz with rfl | hz
        ·exact absurd hzs hs
        ·rw [← List.take_append_drop x.lefts.toNat xs] at hz
         rcases List.mem_append.1 hz with hz | hz
         ·exact absurd (List.any_eq_true.2 ⟨z,hz,by simpa using hzs⟩) ha
         ·exact ⟨z,hz,hzs⟩
       obtain ⟨g1,q,hq,hqs,g2⟩:=ih (xs.drop x.lefts.toNat) s (by simp at hl ⊢; omega) h4 osp.2.1 hin
       refine ⟨joinH_isH h3 g1 (fun y hy=>hmin y (List.mem_of_mem_take hy)) (fun y hy => ?_),q,List.mem_cons_of_mem _ (List.mem_of_mem_drop hq),hqs,?_⟩
       ·obtain ⟨p,hp,e⟩:=sm g2 y hy
        rw [← lt2_ky (rfl:ky x = ky x) e]
        exact hmin p (List.mem_of_mem_drop hp)
       ·simp only [List.map_cons]
        rw [hxs]
        refine (List.Perm.cons _ (List.Perm.append_left _ g2)).trans ?_
        refine List.Perm.trans ?_ (List.Perm.cons _ (joinH_perm _ _ _).symm)
        refine (List.Perm.cons _ List.perm_middle).trans ?_
        exact List.Perm.swap _ _ _
end Go.AE
end
section
/- What the conditions of a world answer. -/
namespace Go.AE
end Go.AE
end
section
/- What the reference asks of tasks, against the program. -/
namespace Go.AE
def tskS (t:Tsk):Bool :=
 inR t.prog 0 7 && (inR t.pc 0 12 && (inR t.reg 0 999 && (inR t.group (-1) 7 && (inR t.err 0 99 &&
  (if t.state == 1 then tsk1 t && t.err == 0 else inR t.state 0 2 && (t.why == 0 && (t.what == 0 && (t.timer == -1 && (t.state == 2 || t.err == 0)))))))))
theorem tskOk_eq (t:Tsk):zB5 t = tskS t:=by
 have h1:t.state = 0 ∨ t.state = 1 ∨ t.state = 2 ∨ (¬ (0 ≤ t.state ∧ t.state ≤ 2) ∧ t.state ≠ 1 ∧ t.state ≠ 2):=by omega
 have h2:t.why = 0 ∨ t.why = 1 ∨ t.why = 2 ∨ t.why = 3 ∨ t.why = 4 ∨ (¬ (1 ≤ t.why ∧ t.why ≤ 4) ∧ t.why ≠ 0 ∧ t.why ≠ 1 ∧ t.why ≠ 2 ∧ t.why ≠ 3 ∧ t.why ≠ 4):=by omega
 rw [Bool.eq_iff_iff]
 unfold zB5 tskS tsk1
 simp only [Bool.and_eq_true,vX,beq_iff_eq,Bool.or_eq_true]
 rcases h1 with h | h | h | ⟨h,h',h''⟩ <;> rcases h2 with g | g | g | g | g | ⟨g0,g1,g2,g3,g4,g5⟩ <;>
  simp_all [inR] <;> omega
theorem tskOk_facts {t:Tsk} (h:zB5 t = true):0 ≤ t.prog ∧ t.prog ≤ 7 ∧ 0 ≤ t.pc ∧ t.pc ≤ 12 ∧ 0 ≤ t.reg ∧ t.reg ≤ 999 ∧ -1 ≤ t.group ∧ t.group ≤ 7 ∧ 0 ≤ t.err ∧ t.err ≤ 99 ∧ 0 ≤ t.state ∧ t.state ≤ 2:=by
 rw [tskOk_eq] at h
 simp only [tskS,Bool.and_eq_true,vX] at h
 obtain ⟨h1,h2,h3,h4,h5,h6⟩:=h
 have:0 ≤ t.state ∧ t.state ≤ 2:=by
  split at h6
  ·rename_i g;simp at g;omega
  ·simp only [Bool.and_eq_true,vX] at h6;exact h6.1
 omega
theorem tasksOk_at {l:List Tsk} (h:vA l = true) {i:Int} (h0:0 ≤ i) (h1:i < l.length):zB5 (gt l i) = true:=by
 simp only [vA,Bool.and_eq_true,Bool.not_eq_true',List.any_eq_false] at h
 have:=h.2 _ (vR h0 h1)
 simpa using this
def zS4 {α:Type} (q:α → Bool) (l:List α):Bool:=l.all q
theorem yB {α:Type} (q:α → Bool):zS4 q [] = true:=rfl
theorem zS {α:Type} (q:α → Bool) (x:α) (xs:List α):zS4 q (x :: xs) = (q x && zS4 q xs):=rfl
theorem zI4 (w:Wld) (g:Grp):zH2 w g = (zJ6 g && (uF g.node w.tree && ((gt w.tree g.node).kind == 1 && zS4 (fun i=>uF i w.tasks) g.waits))):=by
 simp only [zH2,zS4,List.all_eq_not_any_not]
end Go.AE
end
section
/- What the reference asks of sights, against the program. -/
namespace Go.AE
theorem zG1 (w:Wld) (s:Sgt):zH9 w s = (uF s.node w.tree && (inR s.pos 0 w.events.length && (inR s.err 0 2 && (if s.err == 1 then inR s.cause 0 999 else s.cause == 0)))):=by
 unfold zH9
 by_cases h:s.err = 1
 ·cases uF s.node w.tree <;> cases inR s.pos 0 w.events.length <;> simp [h,inR]
 ·have:inR s.err 0 2 = (s.err == 0 || s.err == 2):=by rw [Bool.eq_iff_iff,vX];simp;omega
  rw [this]
  cases uF s.node w.tree <;> cases inR s.pos 0 w.events.length <;> simp [h]
end Go.AE
end
section
/- What a valid world gives; lists that are picked. -/
namespace Go.AE
theorem zE8 {w:Wld} (h:zB1 w = true):0 ≤ w.now ∧ w.progs.length ≤ 8 ∧ w.progs.all zF4 = true ∧ yT w.tree w.events = true ∧ vF w.spread w.tree = true ∧ w.events.all (fun e=>inR e.time 0 w.now) = true ∧
 vZ w.timers = true ∧ w.timers.list.all (zD3 w) = true ∧ zD6 w.afters = true ∧ w.afters.list.all (fun a=>uF a.node w.tree) = true ∧ vA w.tasks = true ∧ w.tasks.all (zH8 w) = true ∧
 w.groups.length ≤ 8 ∧ w.groups.all (zH2 w) = true ∧ w.sights.length ≤ 2000 ∧ w.began.length ≤ 2000 ∧ w.rang.length ≤ 2000 ∧ w.sights.all (zH9 w) = true ∧ w.began.all (fun n=>inR n 0 99) = true ∧ w.rang.all (fun n=>inR n 0 99) = true:=by
 simpa only [zB1,Bool.and_eq_true,decide_eq_true_eq] using h
theorem wldOk_ev {w:Wld} (h:zB1 w = true):yT w.tree w.events = true:=(zE8 h).2.2.2.1
theorem wldOk_tasks {w:Wld} (h:zB1 w = true):vA w.tasks = true:=(zE8 h).2.2.2.2.2.2.2.2.2.2.1
theorem zK6 {l:List Tsk} (h:vA l = true):l.length ≤ 60:=by
 simp only [vA,Bool.and_eq_true,decide_eq_true_eq] at h;exact h.1
theorem zS1 {α β:Type} (q:Int → α → Bool) (f:Int → α → β) (k:Int):zF3 q f [] k = []:=rfl
theorem pickI_cons {α β:Type} (q:Int → α → Bool) (f:Int → α → β) (x:α) (xs:List α) (k:Int):zF3 q f (x :: xs) k = if q k x then f k x :: zF3 q f xs (k + 1) else zF3 q f xs (k + 1):=rfl
theorem zR3 {α:Type} {q:Int → α → Bool}:∀ {l:List α} {k:Int} {n:Int},n ∈ zF3 q (fun i _=>i) l k ↔ ∃ (i:Nat) (hi:i < l.length),n = k + i ∧ q (k + i) l[i] = true
 | [],k,n=>by simp [zF3]
 | x :: xs,k,n=>by
   rw [pickI_cons]
   have step:(∃ (i:Nat) (hi:i < (x :: xs).length),n = k + i ∧ q (k + i) (x :: xs)[i] = true) ↔ (n = k ∧ q k x = true) ∨ ∃ (i:Nat) (hi:i < xs.length),n = k + 1 + i ∧ q (k + 1 + i) xs[i] = true:=by
    constructor
    ·rintro ⟨i,hi,e,hq⟩
     cases i with
     | zero=>left;exact ⟨by simpa using e,by simpa using hq⟩
     | succ i =>
       right
       refine ⟨i,by simpa using hi,by omega,?_⟩
       have e2:k + 1 + (i:Int) = k + ((i + 1:Nat):Int):=by omega
       rw [e2];simpa using hq
    ·rintro (⟨e,hq⟩ | ⟨i,hi,e,hq⟩)
     ·exact ⟨0,by simp,by simpa using e,by simpa using hq⟩
     ·refine ⟨i + 1,by simpa using hi,by omega,?_⟩
      have e2:k + ((i + 1:Nat):Int) = k + 1 + (i:Int):=by omega
      rw [e2];simpa using hq
   rw [step]
   split
   ·rename_i hq
    rw [List.mem_cons,zR3]
    simp [hq]
   ·rename_i hq
    rw [zR3]
    simp [hq]
end Go.AE
end
section
/- Abstract machine: names that are not yet given. -/
namespace Go.AE
def Fr (n:Nat) (h:zW):Prop := ∀ k,n ≤ k → h k = none
theorem Fr.upd {m id:Nat} {f:zW} {e:Option Ent} (hi:id < m) (hf:Fr m f):Fr m (upd f id e):=fun k hk=>by
 rw [upd_at,if_neg (by omega)];exact hf k hk
theorem Fr.mono {n m:Nat} {f:zW} (h:Fr n f) (hl:n ≤ m):Fr m f:=fun k hk=>h k (by omega)
theorem Fr.start {nx m:Nat} {h:zW} (hnx:∀ j,h j ≠ none → j < nx) (hl:nx ≤ m):Fr m h:=fun k hk=>by
 cases hh:h k with
 | none=>rfl
 | some e=>have:=hnx k (by rw [hh];simp);omega
theorem Fr.at {n:Nat} {h:zW} (hf:Fr n h):∀ k,h (n + k) = none:=fun k=>hf _ (by omega)
section
variable {C:Ctx}
def minS (C:Ctx) (n:Nxt) (d:Option Tmp) (x y:AV) (st:St):Prop :=
 match x,y with
 | .int k m,.int _ z=>uG C n (st.put d (.int k (if z < m then z else m)))
 | _,_=>False
@[simp] theorem run_min (d x y ts ty ps af n0 gd i os) (st:St) (k:Kont) :
 vW C n0 gd i (⟨d,.call ⟨.builtin .min,#[x,y],ts⟩,ty,ps,af,none⟩ :: os) st k = minS C ⟨n0,gd,i + 1,os,k⟩ d (st.ev x) (st.ev y) st:=propext Iff.rfl
@[simp] theorem minS_int (n d k k' m z) (st:St):minS C n d (.int k m) (.int k' z) st = uG C n (st.put d (.int k (if z < m then z else m))):=propext Iff.rfl
end
end Go.AE
end
section
/- Abstract machine: what the arguments read as. -/
namespace Go.AE
open Go.ChangeShapes Go.Deep
inductive Sh where
 | int (k:IntKind)
 | bool
 | str
 | slice (e:Sh)
 | nil
 | cons (s r:Sh)
def Sh.size:Sh → Nat
 | .nil=>0
 | .cons s r=>s.size + r.size
 | _=>1
def ShR (B:Nat):Sh → List AV → Prop
 | .int k,l => ∃ n,l = [.int k n] ∧ (Lit.int k n).wf = true
 | .bool,l => ∃ b,l = [.bool b]
 | .str,l => ∃ s,l = [.str s] ∧ s.size ≤ B
 | .slice e,l=>l = [.nil] ∨ ∃ xs,l = [.view true e.size xs] ∧ xs.length ≤ B ∧ ∀ c ∈ xs,ShR B e c
 | .nil,l=>l = []
 | .cons s r,l => ∃ x y,l = x ++ y ∧ ShR B s x ∧ ShR B r y
theorem ShR.length {B:Nat}:∀ {s:Sh} {l:List AV},ShR B s l → l.length = s.size
 | .int k,l,⟨n,h,_⟩=>by subst h;rfl
 | .bool,l,⟨n,h⟩=>by subst h;rfl
 | .str,l,⟨n,h,_⟩=>by subst h;rfl
 | .slice e,l,h=>by rcases h with h | ⟨xs,h,_⟩ <;> subst h <;> rfl
 | .nil,l,h=>by simp only [ShR] at h;subst h;rfl
 | .cons s r,l,⟨x,y,h,h1,h2⟩=>by subst h;simp [Sh.size,h1.length,h2.length]
def fsOk (P:Program) (ok:TypeId → Sh → Bool):Nat → List Field → Sh → Bool
 | _,[],.nil=>true
 | off,f :: fs,.cons a b=>f.offset == off && ok f.type a && P.cellsOf f.type == a.size && fsOk P ok (off + a.size) fs b
 | _,_,_=>false
section
variable {H:Type} {enc:TypeId × Value → H} {P:Program} {w:World} {base:Nat} {spare:Nat → Bool} {held:Bool} {ρ:yK} {I:Imm}
def VRl (ρ:yK) (I:Imm) (w:World) (l:List AV) (cs:List Value):Prop:=cs.length = l.length ∧ ∀ (i:Nat) a u,l[i]? = some a → cs[i]? = some u → VR ρ I w a u
theorem VRl.one {a:AV} {u:Value} (h:VR ρ I w a u):VRl ρ I w [a] [u]:=⟨rfl,fun i x v hx hv=>by
 cases i with
 | zero=>simp at hx hv;subst hx;subst hv;exact h
 | succ=>simp at hx⟩
theorem VRl.append {a b:List AV} {u v:List Value} (h1:VRl ρ I w a u) (h2:VRl ρ I w b v):VRl ρ I w (a ++ b) (u ++ v):=by
 refine ⟨by simp [h1.1,h2.1],fun i x y hx hy => ?_⟩
 by_cases hi:i < a.length
 ·rw [List.getElem?_append_left hi] at hx
  rw [List.getElem?_append_left (by rw [h1.1];exact hi)] at hy
  exact h1.2 i x y hx hy
 ·rw [List.getElem?_append_right (by omega)] at hx
  rw [List.getElem?_append_right (by rw [h1.1];omega),h1.1] at hy
  exact h2.2 _ x y hx hy
structure Blk (blk:DataW H → Nat):Prop where
 str:∀ b,b.length ≤ blk (.lit (.string b))
 len:∀ es sp,es.length ≤ blk (.slice es sp)
 elem:∀ es sp,∀ e ∈ es,blk e ≤ blk (.slice es sp)
 part:∀ ps,∀ e ∈ ps,blk e ≤ blk (.agg ps)
mutual
def abulk {H:Type}:DataW H → Nat
 | .lit (.string bytes)=>bytes.length + 1
 | .lit _=>1
 | .nil=>1
 | .ptr d=>abulk d + 1
 | .slice elems spare=>abulks elems + abulks spare + 1
 | .agg parts=>abulks parts + 1
 | .iface _ d=>abulk d + 1
 | .map _=>1
 | .held _=>1
def abulks {H:Type}:List (DataW H) → Nat
 | []=>0
 | d :: r=>abulk d + abulks r
end
end
end Go.AE
end
section
/- Abstract machine: a law's row. -/
namespace Go.AE
open Go.RowKit Go.ChangeAt
def topA:Sh → List AV → AV
 | .nil,l=>.agg l
 | .cons ..,l=>.agg l
 | _,l=>l.headD .dead
def Imm0 (w:World):Imm:=fun _ b=>b < w.heap.size
section
variable {H:Type} {enc:TypeId × Value → H} {P:Program} {w:World} {base:Nat} {spare:Nat → Bool} {held:Bool} {ρ:yK} {I:Imm}
theorem VRl.head {a:AV} {l:List AV} {u:Value} {us:List Value} (h:VRl ρ I w (a :: l) (u :: us)):VR ρ I w a u:=h.2 0 a u rfl rfl
end
theorem law_calls {P:Program} {f:FuncId} {args:List AV} {W:World} {vs:Array Value} (hc:PC P f args (.bool true)) (hv:VRs (fun _=>none) (Imm0 W) W args vs) :
 Calls P f vs W fun e w'=>e = .returned (.bool true) ∧ Below W.heap.size W w':=by
 have:=hc (fun _=>none) 0 (fun r _ _=>r = .bool true) rfl
 refine (this.2 (fun _=>none) (Imm0 W) W vs (fun _ _ h=>(by cases h)) ⟨fun _ _ h=>(by cases h),fun _ _ _ h=>(by cases h),fun _ _ _ _ _ _ _ h=>(by cases h),fun _ _ _ _ _ h=>(by cases h),fun _ _ h=>h⟩ hv).mono ?_
 rintro e w' ⟨v,r,h',nx',ρ',I',rfl,rfl,hvr,H',E,_,_,_⟩
 cases hvr
 exact ⟨rfl,E.os,E.tape,E.output,E.size,fun k hk=>E.frame k hk fun ⟨_,_,_,h,_⟩=>(by cases h)⟩
theorem vrs1 {ρ I w} {a:AV} {u:Value} (h:VR ρ I w a u):VRs ρ I w [a] #[u]:=⟨rfl,fun i x v hx hv=>by
 match i with
 | 0=>simp at hx hv;subst hx;subst hv;exact h
 | _ + 1=>simp at hx⟩
end Go.AE
end
section
/- Abstract machine: arguments of a law, as the program's data. -/
namespace Go.AE
def Up (x y:AV):Prop := ∀ (ρ:yK) (I:Imm) (w:World) (u:Value),VR ρ I w x u → VR ρ I w y u
theorem Up.refl (x:AV):Up x x:=fun _ _ _ _ h=>h
theorem Up.nil (p:Bool) (sz:Nat):Up .nil (.view p sz []):=fun ρ I w u h=>by cases h;exact .viewNil p sz none 0
def UpL (l l':List AV):Prop:=l'.length = l.length ∧ ∀ (i:Nat) x y,l[i]? = some x → l'[i]? = some y → Up x y
theorem UpL.refl (l:List AV):UpL l l:=⟨rfl,fun i x y hx hy=>by rw [hx] at hy;cases hy;exact .refl _⟩
theorem UpL.one {x y:AV} (h:Up x y):UpL [x] [y]:=⟨rfl,fun i a b ha hb=>by
 cases i with
 | zero=>simp at ha hb;subst ha;subst hb;exact h
 | succ i=>simp at ha⟩
theorem UpL.append {a b c d:List AV} (h1:UpL a c) (h2:UpL b d):UpL (a ++ b) (c ++ d):=by
 refine ⟨by simp [h1.1,h2.1],fun i x y hx hy => ?_⟩
 by_cases hi:i < a.length
 ·rw [List.getElem?_append_left hi] at hx
  rw [List.getElem?_append_left (by rw [h1.1];exact hi)] at hy
  exact h1.2 i x y hx hy
 ·rw [List.getElem?_append_right (by omega)] at hx
  rw [List.getElem?_append_right (by rw [h1.1];omega),h1.1] at hy
  exact h2.2 _ x y hx hy
theorem UpL.agg {a b:List AV} (h:UpL a b):Up (.agg a) (.agg b):=fun ρ I w u hv=>by
 cases hv with
 | agg _ vs h1 h2 =>
   refine .agg b vs (by rw [h1,h.1]) fun i y u hy hu => ?_
   have hi:i < a.length:=by rw [← h.1];exact (List.getElem?_eq_some_iff.1 hy).1
   exact h.2 i _ y (List.getElem?_eq_getElem hi) hy _ _ _ _ (h2 i _ u (List.getElem?_eq_getElem hi) hu)
theorem Up.view {p:Bool} {sz:Nat} {xs ys:List (List AV)} (hl:ys.length = xs.length) (hc:∀ (i:Nat) c d,xs[i]? = some c → ys[i]? = some d → UpL c d):Up (.view p sz xs) (.view p sz ys):=fun ρ I w u hv=>by
 have back:∀ {i j:Nat} {y:AV},zA7 ys i j = some y → ∃ x,zA7 xs i j = some x ∧ Up x y:=by
  intro i j y hy
  obtain ⟨d,hd,hj⟩:=yC hy
  have hi:i < xs.length:=by rw [← hl];exact (List.getElem?_eq_some_iff.1 hd).1
  have hx:=List.getElem?_eq_getElem hi
  have hu:=hc i _ d hx hd
  have hj':j < (xs[i]).length:=by rw [← hu.1];exact (List.getElem?_eq_some_iff.1 hj).1
  exact ⟨(xs[i])[j],by simp [zA7,hx],hu.2 j _ y (List.getElem?_eq_getElem hj') hj⟩
 generalize hz:AV.view p sz xs = z at hv
 cases hv <;> simp at hz
 ·obtain ⟨rfl,rfl,rfl⟩:=hz
  obtain rfl:ys = []:=by simpa using hl
  exact .viewNil ..
 ·obtain ⟨rfl,rfl,rfl⟩:=hz
  rename_i b off c h1 h2 h3 h4 h5 h6
  rw [← hl]
  refine .view p sz ys b off c h1 (by omega) (by omega) (fun i d hd => ?_) (fun i j y hy => ?_) (fun i j y u hy hu => ?_)
  ·have hi:i < xs.length:=by rw [← hl];exact (List.getElem?_eq_some_iff.1 hd).1
   rw [(hc i _ d (List.getElem?_eq_getElem hi) hd).1];exact h4 i _ (List.getElem?_eq_getElem hi)
  ·obtain ⟨x,hx,_⟩:=back hy
   exact h5 i j x hx
  ·obtain ⟨x,hx,hup⟩:=back hy
   exact hup _ _ _ _ (h6 i j x u hx hu)
def Rdr {α:Type} (sh:Sh) (c:α → List AV) (ok:Nat → α → Prop):Prop := ∀ (B:Nat) (l:List AV),ShR B sh l → ∃ x,UpL l (c x) ∧ ok B x
def okT {α:Type} (B:Nat) (x:α):Prop:=True
theorem Rdr.int:Rdr (.int .i64) iv okT:=fun B l h=>by obtain ⟨n,rfl,_⟩:=h;exact ⟨n,UpL.refl _,trivial⟩
theorem Rdr.bool:Rdr .bool bv okT:=fun B l h=>by obtain ⟨n,rfl⟩:=h;exact ⟨n,UpL.refl _,trivial⟩
theorem Rdr.str:Rdr .str (fun s=>[.str s]) (fun B (s:ByteArray)=>s.size ≤ B):=fun B l h=>by obtain ⟨n,rfl,h⟩:=h;exact ⟨n,UpL.refl _,h⟩
theorem Rdr.slice {α:Type} {e:Sh} {c:α → List AV} {ok:Nat → α → Prop} {sz:Nat} (hsz:e.size = sz) (h:Rdr e c ok):Rdr (.slice e) (fun xs=>[.view true sz (xs.map c)]) (fun B (xs:List α)=>xs.length ≤ B ∧ ∀ x ∈ xs,ok B x):=fun B l hl=>by
 subst hsz
 rcases hl with rfl | ⟨xs,rfl,hle,hx⟩
 ·exact ⟨[],UpL.one (Up.nil _ _),by simp,by simp⟩
 ·have:∀ xs:List (List AV),(∀ c ∈ xs,ShR B e c) → ∃ ys:List α,ys.length = xs.length ∧ (∀ (i:Nat) a b,xs[i]? = some a → (ys.map c)[i]? = some b → UpL a b) ∧ ∀ y ∈ ys,ok B y:=by
   intro xs
   induction xs with
   | nil=>intro _;exact ⟨[],rfl,fun i a b h=>by simp at h,by simp⟩
   | cons a xs ih =>
     intro hx
     obtain ⟨ys,h1,h2,h3⟩:=ih fun c hc=>hx c (by simp [hc])
     obtain ⟨y,g1,g2⟩:=h B a (hx a (by simp))
     refine ⟨y :: ys,by simp [h1],fun i p q hp hq => ?_,fun z hz => ?_⟩
     ·cases i with
      | zero=>simp at hp hq;subst hp;subst hq;exact g1
      | succ i=>exact h2 i p q (by simpa using hp) (by simpa using hq)
     ·rcases List.mem_cons.1 hz with rfl | hz
      ·exact g2
      ·exact h3 z hz
  obtain ⟨ys,h1,h2,h3⟩:=this xs hx
  exact ⟨ys,UpL.one (Up.view (by simp [h1]) h2),by omega,h3⟩
theorem Rdr.nil:Rdr .nil (fun (_:Unit)=>[]) okT:=fun B l h=>by simp only [ShR] at h;subst h;exact ⟨(),UpL.refl _,trivial⟩
theorem Rdr.cons {α β:Type} {s r:Sh} {c:α → List AV} {d:β → List AV} {ok1:Nat → α → Prop} {ok2:Nat → β → Prop} (h1:Rdr s c ok1) (h2:Rdr r d ok2) :
 Rdr (.cons s r) (fun p:α × β=>c p.1 ++ d p.2) (fun B p=>ok1 B p.1 ∧ ok2 B p.2):=fun B l hl=>by
 obtain ⟨x,y,rfl,g1,g2⟩:=hl
 obtain ⟨a,u1,o1⟩:=h1 B x g1
 obtain ⟨b,u2,o2⟩:=h2 B y g2
 exact ⟨(a,b),u1.append u2,o1,o2⟩
theorem Rdr.map {α γ:Type} {s:Sh} {c:α → List AV} {ok:Nat → α → Prop} {c':γ → List AV} {ok':Nat → γ → Prop} (f:α → γ) (h:Rdr s c ok) (hc:∀ x,c' (f x) = c x) (ho:∀ B x,ok B x → ok' B (f x)):Rdr s c' ok':=fun B l hl=>by
 obtain ⟨x,u,o⟩:=h B l hl
 exact ⟨f x,by rw [hc];exact u,ho B x o⟩
def i64S:Sh:=.int .i64
def zK0:Nat → Sh → Sh
 | 0,r=>r
 | n + 1,r=>.cons i64S (zK0 n r)
def shHan:Sh:=zK0 2 .nil
def shInn:Sh:=zK0 3 .nil
def shNod:Sh:=zK0 5 .nil
def shEvt:Sh:=zK0 4 .nil
def shTwg:Sh:=zK0 3 .nil
def shTmr:Sh:=zK0 4 (.cons .bool .nil)
def shAfr:Sh:=.cons shHan (zK0 2 (.cons .bool .nil))
def shTsk:Sh:=zK0 9 .nil
def shSgt:Sh:=zK0 4 .nil
def shPik:Sh:=zK0 2 .nil
def shOdr:Sh:=zK0 5 .nil
def shGrp:Sh:=zK0 3 (.cons (.slice i64S) (.cons i64S .nil))
def shSlt:Sh:=.cons (.slice i64S) (.cons (.slice .bool) .nil)
def shSpr:Sh:=.cons (.slice .bool) (.cons (.slice i64S) .nil)
def shTms:Sh:=.cons (.slice shTwg) (.cons (.slice shTmr) (.cons i64S .nil))
def shAfs:Sh:=.cons shSlt (.cons (.slice shAfr) .nil)
def shWld:Sh:=.cons i64S (.cons (.slice (.slice shInn)) (.cons (.slice shNod) (.cons (.slice shEvt) (.cons shSpr (.cons shTms (.cons shAfs (.cons (.slice shTsk) (.cons (.slice shGrp) (.cons (.slice shSgt) (.cons (.slice i64S) (.cons (.slice i64S) .nil)))))))))))
theorem rdHan:Rdr shHan zG0 okT:=(Rdr.int.cons (Rdr.int.cons Rdr.nil)).map (fun p=>⟨p.1,p.2.1⟩) (fun _=>rfl) (fun _ _ _=>trivial)
theorem rdInn:Rdr shInn vY okT:=(Rdr.int.cons (Rdr.int.cons (Rdr.int.cons Rdr.nil))).map (fun p=>⟨p.1,p.2.1,p.2.2.1⟩) (fun _=>rfl) (fun _ _ _=>trivial)
theorem rdTwg:Rdr shTwg zZ okT:=(Rdr.int.cons (Rdr.int.cons (Rdr.int.cons Rdr.nil))).map (fun p=>⟨p.1,p.2.1,p.2.2.1⟩) (fun _=>rfl) (fun _ _ _=>trivial)
theorem rdNod:Rdr shNod yS okT:=(Rdr.int.cons (Rdr.int.cons (Rdr.int.cons (Rdr.int.cons (Rdr.int.cons Rdr.nil))))).map (fun p=>⟨p.1,p.2.1,p.2.2.1,p.2.2.2.1,p.2.2.2.2.1⟩) (fun _=>rfl) (fun _ _ _=>trivial)
theorem rdEvt:Rdr shEvt vD okT:=(Rdr.int.cons (Rdr.int.cons (Rdr.int.cons (Rdr.int.cons Rdr.nil)))).map (fun p=>⟨p.1,p.2.1,p.2.2.1,p.2.2.2.1⟩) (fun _=>rfl) (fun _ _ _=>trivial)
theorem rdSgt:Rdr shSgt uU okT:=(Rdr.int.cons (Rdr.int.cons (Rdr.int.cons (Rdr.int.cons Rdr.nil)))).map (fun p=>⟨p.1,p.2.1,p.2.2.1,p.2.2.2.1⟩) (fun _=>rfl) (fun _ _ _=>trivial)
theorem rdTmr:Rdr shTmr yN okT:=(Rdr.int.cons (Rdr.int.cons (Rdr.int.cons (Rdr.int.cons (Rdr.bool.cons Rdr.nil))))).map (fun p=>⟨p.1,p.2.1,p.2.2.1,p.2.2.2.1,p.2.2.2.2.1⟩) (fun _=>rfl) (fun _ _ _=>trivial)
theorem rdAfr:Rdr shAfr vB okT:=(rdHan.cons (Rdr.int.cons (Rdr.int.cons (Rdr.bool.cons Rdr.nil)))).map (fun p=>⟨p.1,p.2.1,p.2.2.1,p.2.2.2.1⟩) (fun _=>rfl) (fun _ _ _=>trivial)
theorem rdTsk:Rdr shTsk yM okT:=(Rdr.int.cons (Rdr.int.cons (Rdr.int.cons (Rdr.int.cons (Rdr.int.cons (Rdr.int.cons (Rdr.int.cons (Rdr.int.cons (Rdr.int.cons Rdr.nil))))))))).map
 (fun p=>⟨p.1,p.2.1,p.2.2.1,p.2.2.2.1,p.2.2.2.2.1,p.2.2.2.2.2.1,p.2.2.2.2.2.2.1,p.2.2.2.2.2.2.2.1,p.2.2.2.2.2.2.2.2.1⟩) (fun _=>rfl) (fun _ _ _=>trivial)
theorem rdInts:Rdr (.slice i64S) (fun xs=>[.view true 1 (xs.map iv)]) (fun B (xs:List Int)=>xs.length ≤ B):=(Rdr.slice rfl Rdr.int).map id (fun _=>rfl) (fun _ _ h=>h.1)
theorem rdBools:Rdr (.slice .bool) (fun xs=>[.view true 1 (xs.map bv)]) (fun B (xs:List Bool)=>xs.length ≤ B):=(Rdr.slice rfl Rdr.bool).map id (fun _=>rfl) (fun _ _ h=>h.1)
theorem rdS {α:Type} {e:Sh} {c:α → List AV} {sz:Nat} (hsz:e.size = sz) (h:Rdr e c okT):Rdr (.slice e) (fun xs=>[.view true sz (xs.map c)]) (fun B (xs:List α)=>xs.length ≤ B):=(Rdr.slice hsz h).map id (fun _=>rfl) (fun _ _ h=>h.1)
theorem rdGrp:Rdr shGrp (vJ true) okT:=(Rdr.int.cons (Rdr.int.cons (Rdr.int.cons (rdInts.cons (Rdr.int.cons Rdr.nil))))).map (fun p=>⟨p.1,p.2.1,p.2.2.1,p.2.2.2.1,p.2.2.2.2.1⟩) (fun _=>rfl) (fun _ _ _=>trivial)
theorem rdPrg:Rdr (.slice shInn) (zD7 true) okT:=(rdS rfl rdInn).map id (fun _=>rfl) (fun _ _ _=>trivial)
abbrev FT:Nat → Bool:=fun _=>true
theorem rdSlt:Rdr shSlt (uD FT) okT:=(rdInts.cons (rdBools.cons Rdr.nil)).map (fun p=>⟨p.1,p.2.1⟩) (fun _=>rfl) (fun _ _ _=>trivial)
theorem rdSpr:Rdr shSpr (uK FT) okT:=(rdBools.cons (rdInts.cons Rdr.nil)).map (fun p=>⟨p.1,p.2.1⟩) (fun _=>rfl) (fun _ _ _=>trivial)
theorem rdTms:Rdr shTms (vM FT) okT:=((rdS rfl rdTwg).cons ((rdS rfl rdTmr).cons (Rdr.int.cons Rdr.nil))).map (fun p=>⟨p.1,p.2.1,p.2.2.1⟩) (fun _=>rfl) (fun _ _ _=>trivial)
theorem rdAfs:Rdr shAfs (uZ FT) okT:=(rdSlt.cons ((rdS rfl rdAfr).cons Rdr.nil)).map (fun p=>⟨p.1,p.2.1⟩) (fun _=>rfl) (fun _ _ _=>trivial)
theorem rdWld:Rdr shWld (wldV FT) okT:=(Rdr.int.cons ((rdS rfl rdPrg).cons ((rdS rfl rdNod).cons ((rdS rfl rdEvt).cons (rdSpr.cons (rdTms.cons (rdAfs.cons ((rdS rfl rdTsk).cons ((rdS rfl rdGrp).cons ((rdS rfl rdSgt).cons (rdInts.cons (rdInts.cons Rdr.nil)))))))))))).map
 (fun p=>⟨p.1,p.2.1,p.2.2.1,p.2.2.2.1,p.2.2.2.2.1,p.2.2.2.2.2.1,p.2.2.2.2.2.2.1,p.2.2.2.2.2.2.2.1,p.2.2.2.2.2.2.2.2.1,p.2.2.2.2.2.2.2.2.2.1,p.2.2.2.2.2.2.2.2.2.2.1,p.2.2.2.2.2.2.2.2.2.2.2.1⟩) (fun _=>rfl) (fun _ _ _=>trivial)
theorem Rdr.arg {α:Type} {s r:Sh} {c:α → List AV} {ok:Nat → α → Prop} (h:Rdr (.cons s r) c ok) {B:Nat} {l:List AV} (hl:ShR B (.cons s r) l):∃ x,Up (topA (.cons s r) l) (.agg (c x)) ∧ ok B x:=by
 obtain ⟨x,u,o⟩:=h B l hl
 exact ⟨x,u.agg,o⟩
end Go.AE
end
section
/- Abstract machine: what the arguments read as, by their weights: every slice and string takes at most so many bytes. -/
namespace Go.AE
open Go.ChangeShapes Go.Deep Go.RowKit Go.ChangeAt
def shOkW (P:Program):Nat → TypeId → Sh → Bool
 | 0,_,_=>false
 | n + 1,t,s =>
   match P.underlying t,s with
   | some (.int k),.int k'=>decide (k = k')
   | some .bool,.bool=>true
   | some .string,.str=>true
   | some (.slice e),.slice s=>shOkW P n e s && P.cellsOf e == s.size && (decide (0 < s.size) && decide (0 < P.bytesOf e))
   | some (.struct fs),s=>fsOk P (shOkW P n) 0 fs.toList s && P.cellsOf t == s.size
   | _,_=>false
section
variable {H:Type} {enc:TypeId × Value → H} {P:Program} {w:World} {base:Nat} {spare:Nat → Bool} {held:Bool} {ρ:yK} {I:Imm}
def Light (P:Program) (t:TypeId) (d:DataW H):Prop:=(d.weights P t).all (· ≤ reachBytes) = true
theorem light_str {t:TypeId} {b:List UInt8} (h:Light (H:=H) P t (.lit (.string b))):b.length ≤ reachBytes:=by
 simp only [Light,DataW.weights,List.all_cons,Bool.and_eq_true,decide_eq_true_eq] at h;exact h.1
theorem light_len {t e:TypeId} {es sp:List (DataW H)} (hu:P.underlying t = some (.slice e)) (hb:0 < P.bytesOf e) (h:Light P t (.slice es sp)):es.length ≤ reachBytes:=by
 simp only [Light,DataW.weights,hu,List.all_cons,Bool.and_eq_true,decide_eq_true_eq] at h
 have h1:=h.1
 have h2:(es.length + sp.length) * 1 ≤ (es.length + sp.length) * P.bytesOf e:=Nat.mul_le_mul_left _ hb
 omega
theorem light_all {e:TypeId}:∀ {es:List (DataW H)},(DataW.weightsAll P e es).all (· ≤ reachBytes) = true → ∀ d ∈ es,Light P e d
 | [],_,d,hd=>by simp at hd
 | x :: xs,h,d,hd=>by
   simp only [DataW.weightsAll,List.all_append,Bool.and_eq_true] at h
   rcases List.mem_cons.1 hd with rfl | hd
   ·exact h.1
   ·exact light_all h.2 d hd
theorem light_elem {t e:TypeId} {es sp:List (DataW H)} (hu:P.underlying t = some (.slice e)) (h:Light P t (.slice es sp)):∀ d ∈ es,Light P e d:=by
 simp only [Light,DataW.weights,hu,List.all_cons,List.all_append,Bool.and_eq_true] at h
 exact light_all h.2.1
theorem light_each:∀ {ts:List TypeId} {ps:List (DataW H)},(DataW.weightsEach P ts ps).all (· ≤ reachBytes) = true → ∀ (i:Nat) t d,ts[i]? = some t → ps[i]? = some d → Light P t d
 | [],_,_,i,t,d,h1,_=>by simp at h1
 | t0 :: ts,[],_,i,t,d,_,h2=>by simp at h2
 | t0 :: ts,p :: ps,h,i,t,d,h1,h2=>by
   simp only [DataW.weightsEach,List.all_append,Bool.and_eq_true] at h
   cases i with
   | zero=>simp at h1 h2;subst h1;subst h2;exact h.1
   | succ i=>exact light_each h.2 i t d (by simpa using h1) (by simpa using h2)
theorem light_part {t:TypeId} {fs:Array Field} {ps:List (DataW H)} (hu:P.underlying t = some (.struct fs)) (h:Light P t (.agg ps)):∀ (i:Nat) f d,fs.toList[i]? = some f → ps[i]? = some d → Light P f.type d:=by
 simp only [Light,DataW.weights,hu] at h
 intro i f d hf hd
 exact light_each h i f.type d (by rw [List.getElem?_map,hf];rfl) hd
theorem fields_vrW {ok:TypeId → Sh → Bool} {m:Nat} {cs:List Value}
 (ih:∀ (s:Sh) (t:TypeId) (cs:List Value) (x:DataW H × List MemPlace),ok t s = true → DataW.trod enc P w base spare held m t cs = some x → Light P t x.1 → ∃ l,ShR reachBytes s l ∧ VRl ρ I w l cs) :
 ∀ (s:Sh) (fs:List Field) (off:Nat) (xs:List (DataW H × List MemPlace)),fsOk P ok off fs s = true → xs.length = fs.length →
  (∀ (i:Nat) (f:Field),fs[i]? = some f → DataW.trod enc P w base spare held m f.type ((cs.drop f.offset).take (P.cellsOf f.type)) = xs[i]?) →
  (∀ (i:Nat) f x,fs[i]? = some f → xs[i]? = some x → Light P f.type x.1) → off + s.size ≤ cs.length → ∃ l,ShR reachBytes s l ∧ VRl ρ I w l ((cs.drop off).take s.size):=by
 intro s
 induction s with
 | nil =>
   intro fs off xs hok hl hx hb hle
   exact ⟨[],rfl,by simp [Sh.size],fun i a u h=>by simp at h⟩
 | cons a b _ ihb =>
   intro fs off xs hok hl hx hb hle
   cases fs with
   | nil=>simp [fsOk] at hok
   | cons f fs =>
     cases xs with
     | nil=>simp at hl
     | cons x xs =>
       simp only [fsOk,Bool.and_eq_true,beq_iff_eq] at hok
       obtain ⟨⟨⟨h1,h2⟩,h3⟩,h4⟩:=hok
       simp only [Sh.size] at hle
       have ht:=hx 0 f rfl
       rw [h1,h3] at ht
       obtain ⟨la,ra,va⟩:=ih a f.type _ x h2 ht (hb 0 f x rfl rfl)
       obtain ⟨lb,rb,vb⟩:=ihb fs (off + a.size) xs h4 (by simpa using hl) (fun i g hg=>by
        have:=hx (i + 1) g (by simpa using hg)
        simpa using this) (fun i g y hg hy=>hb (i + 1) g y (by simpa using hg) (by simpa using hy)) (by omega)
       refine ⟨la ++ lb,⟨la,lb,rfl,ra,rb⟩,?_⟩
       have e:(cs.drop off).take (Sh.cons a b).size = (cs.drop off).take a.size ++ (cs.drop (off + a.size)).take b.size:=by
        simp only [Sh.size]
        rw [List.take_add,List.drop_drop]
       rw [e]
       exact va.append vb
 | _ =>
   intro fs off xs hok
   cases fs <;> simp [fsOk] at hok
theorem trod_vrW (hI:∀ b,b < w.heap.size → I true b):∀ (n:Nat) (s:Sh) (t:TypeId) (fuel:Nat) (cs:List Value) (x:DataW H × List MemPlace),
 shOkW P n t s = true → DataW.trod enc P w base spare held fuel t cs = some x → Light P t x.1 → ∃ l,ShR reachBytes s l ∧ VRl ρ I w l cs:=by
 have hB:reachBytes ≤ LIM:=by decide
 intro n
 induction n with
 | zero=>intro s t fuel cs x h;simp [shOkW] at h
 | succ n ih =>
   intro s t fuel cs x hs ht hb
   unfold shOkW at hs
   split at hs
   ·rename_i k k' hu
    simp only [decide_eq_true_eq] at hs
    subst hs
    obtain ⟨z,rfl,rfl,hw⟩:=DataW.trod_int hu ht
    exact ⟨[.int k z],⟨z,rfl,hw⟩,VRl.one (.int k z)⟩
   ·rename_i hu
    obtain ⟨z,rfl,rfl⟩:=DataW.trod_bool hu ht
    exact ⟨[.bool z],⟨z,rfl⟩,VRl.one (.bool z)⟩
   ·rename_i hu
    obtain ⟨z,rfl,rfl,hw⟩:=DataW.trod_string hu ht
    refine ⟨[.str z],⟨z,rfl,?_⟩,VRl.one (.str z)⟩
    exact light_str (b:=z.data.toList) hb
   ·rename_i e se hu
    simp only [Bool.and_eq_true,beq_iff_eq,decide_eq_true_eq] at hs
    obtain ⟨⟨h1,h2⟩,h3,h3b⟩:=hs
    rcases open_slice hu ht with ⟨rfl,rfl⟩ | ⟨a,len,cap,m,n',D,Pl,rfl,hba,hl,hm,hmm,rfl,hx⟩
    ·exact ⟨[.nil],.inl rfl,VRl.one .nil⟩
    ·have hlm:len ≤ m:=by rw [hmm];split <;> omega
     have hlen:len ≤ reachBytes:=by
      have:=light_len hu h3b hb
      simp only [List.length_map,List.length_range] at this
      exact this
     rw [h2] at hx
     have hx':∀ i,i < len → ∃ l,ShR reachBytes se l ∧ ∃ cs',w.cells? base (a.add (i * se.size)) se.size = some cs' ∧ VRl ρ I w l cs':=by
      intro i hi
      obtain ⟨cs',g1,g2⟩:=hx i (by omega)
      obtain ⟨l,g3,g4⟩:=ih se e n' cs' _ h1 g2 (light_elem hu hb _ (List.mem_map.2 ⟨i,List.mem_range.2 hi,rfl⟩))
      exact ⟨l,g3,cs',g1,g4⟩
     obtain ⟨f,hf⟩:=choose_lt hx'
     refine ⟨[.view true se.size ((List.range len).map f)],.inr ⟨_,rfl,by simpa using hlen,fun c hc => ?_⟩,VRl.one ?_⟩
     ·obtain ⟨i,hi,rfl⟩:=List.mem_map.1 hc
      exact (hf i (List.mem_range.1 hi)).1
     ·cases len with
      | zero=>exact .viewNil ..
      | succ len =>
        have hcell:∀ i j,i < len + 1 → j < se.size → ∃ u,w.cell? ⟨a.block,a.off + i * se.size + j,none⟩ = some u ∧ ∀ y,(f i)[j]? = some y → VR ρ I w y u:=by
         intro i j hi hj
         obtain ⟨_,cs',g1,g2⟩:=hf i hi
         obtain ⟨q1,q2,q3⟩:=World.cells?_some g1
         have q4:=q3 j hj
         rw [List.getElem?_eq_getElem (by omega)] at q4
         have hsp:((a.add (i * se.size)).add j).spot = none:=by
          cases hs:((a.add (i * se.size)).add j).spot with
          | none=>rfl
          | some _ =>
            unfold World.cell? at q4
            simp only [hs,Option.isSome_some,if_true] at q4
            split at q4 <;> cases q4
         have hadd:(a.add (i * se.size)).add j = ⟨a.block,a.off + i * se.size + j,none⟩:=by
          rw [add_add] at hsp ⊢
          unfold Addr.add at hsp ⊢
          split
          ·rename_i h0
           rw [if_pos h0] at hsp
           cases a;simp_all
          ·simp [Nat.add_assoc]
         rw [hadd] at q4
         refine ⟨_,q4,fun y hy=>g2.2 j y _ hy (List.getElem?_eq_getElem (by omega))⟩
        have hlt:a.block < w.heap.size:=by
         obtain ⟨u,hu,_⟩:=hcell 0 0 (by omega) h3
         unfold World.cell? at hu
         split at hu
         ·rename_i heq
          exact (Array.getElem?_eq_some_iff.1 heq).1
         ·cases hu
        have hsp:a.spot = none:=by
         obtain ⟨_,cs',g1,g2⟩:=hf 0 (by omega)
         obtain ⟨q1,q2,q3⟩:=World.cells?_some g1
         have q4:=q3 0 h3
         rw [List.getElem?_eq_getElem (by omega)] at q4
         simp only [Nat.zero_mul,Addr.add,if_true] at q4
         cases hs:a.spot with
         | none=>rfl
         | some _ =>
           unfold World.cell? at q4
           simp only [hs,Option.isSome_some,if_true] at q4
           split at q4 <;> cases q4
        have ha:a = ⟨a.block,a.off,none⟩:=by cases a;simp_all
        have hl1:((List.range (len + 1)).map f).length = len + 1:=by simp
        have:=VR.view (ρ:=ρ) (I:=I) (w:=w) true se.size ((List.range (len + 1)).map f) a.block a.off cap (hI _ hlt) (by rw [hl1];omega) (by rw [hl1];exact hl) (fun i x hx => ?_) (fun i j x hx => ?_) (fun i j x u hx hu => ?_)
        ·rw [hl1,← ha] at this;exact this
        ·rw [List.getElem?_map,Option.map_eq_some_iff] at hx
         obtain ⟨i',hi',rfl⟩:=hx
         have:=(List.getElem?_eq_some_iff.1 hi')
         obtain ⟨q1,q2⟩:=this
         simp at q1 q2;subst q2
         exact (hf i (by omega)).1.length
        ·obtain ⟨cells,q1,q2⟩:=yC hx
         rw [List.getElem?_map,Option.map_eq_some_iff] at q1
         obtain ⟨i',hi',rfl⟩:=q1
         obtain ⟨q3,q4⟩:=(List.getElem?_eq_some_iff.1 hi')
         simp at q3 q4;subst q4
         have hj:j < se.size:=by rw [← (hf i (by omega)).1.length];exact (List.getElem?_eq_some_iff.1 q2).1
         obtain ⟨u,hu,_⟩:=hcell i j (by omega) hj
         exact ⟨u,hu⟩
        ·obtain ⟨cells,q1,q2⟩:=yC hx
         rw [List.getElem?_map,Option.map_eq_some_iff] at q1
         obtain ⟨i',hi',rfl⟩:=q1
         obtain ⟨q3,q4⟩:=(List.getElem?_eq_some_iff.1 hi')
         simp at q3 q4;subst q4
         have hj:j < se.size:=by rw [← (hf i (by omega)).1.length];exact (List.getElem?_eq_some_iff.1 q2).1
         obtain ⟨u',hu',h'⟩:=hcell i j (by omega) hj
         rw [hu'] at hu;cases hu
         exact h' x q2
   ·rename_i fs hu
    simp only [Bool.and_eq_true,beq_iff_eq] at hs
    obtain ⟨h1,h2⟩:=hs
    obtain ⟨xs,m,rfl,rfl,hl,hlen,hf⟩:=DataW.trod_struct hu ht
    have:=fields_vrW (enc:=enc) (P:=P) (w:=w) (base:=base) (spare:=spare) (held:=held) (ρ:=ρ) (I:=I) (ok:=shOkW P n) (m:=m) (cs:=cs)
     (fun s t cs x=>ih s t m cs x) _ fs.toList 0 xs h1 (by simpa using hlen) (fun i f hi=>hf i f (by simpa using hi)) (fun i f x hf hx=>light_part hu hb i f x.1 hf (by rw [List.getElem?_map,hx];rfl)) (by omega)
    rw [List.drop_zero,List.take_of_length_le (by omega)] at this
    exact this
   ·cases hs
theorem arg_vrW {n:Nat} {s:Sh} {t:TypeId} {v:Value} {d:DataW H} {ps:List MemPlace} {r:Reach} {b0:Nat} {W:World}
 (hs:shOkW P n t s = true) (ht:DataW.Trod enc P W base spare held t v d ps) (hok:Value.okWide P W r b0 t v) (hb:Light P t d) :
 ∃ l,ShR reachBytes s l ∧ VR ρ (Imm0 W) W (topA s l) v:=by
 obtain ⟨fuel,ht⟩:=ht
 obtain ⟨l,h1,h2⟩:=trod_vrW (ρ:=ρ) (I:=Imm0 W) (fun b hb=>hb) n s t fuel _ _ hs ht hb
 refine ⟨l,h1,?_⟩
 have hlen:=h1.length
 cases n with
 | zero=>simp [shOkW] at hs
 | succ n =>
   unfold shOkW at hs
   have one:∀ (x:Value),v = x → (v.cells.toList = [x]) → l.length = 1 → VR ρ (Imm0 W) W (l.headD .dead) v:=by
    intro x hx hc hl
    match l,hl with
    | [a],_=>rw [hc] at h2;rw [hx];exact h2.head
   have agg:∀ cs,v = .agg cs → VR ρ (Imm0 W) W (.agg l) v:=by
    rintro cs rfl
    exact .agg l cs (by simpa [Value.cells] using h2.1) fun i x u hx hu=>h2.2 i x u hx (by simpa [Value.cells] using hu)
   split at hs
   ·rename_i k k' hu
    obtain ⟨z,rfl⟩:=WideShapes.okWide_int hu hok
    exact one _ rfl rfl hlen
   ·rename_i hu
    have:∃ z,v = .bool z:=by
     simp only [Value.okWide,hu,Cell.okWide] at hok
     cases v <;> simp_all [Cell.ok]
    obtain ⟨z,rfl⟩:=this
    exact one _ rfl rfl hlen
   ·rename_i hu
    obtain ⟨z,rfl⟩:=WideShapes.okWide_string hu hok
    exact one _ rfl rfl hlen
   ·rename_i e se hu
    obtain ⟨a,len,cap,rfl⟩:=WideShapes.okWide_slice hu hok
    exact one _ rfl rfl hlen
   ·rename_i s1 _ _ fs hu
    simp only [Bool.and_eq_true] at hs
    obtain ⟨h3,_⟩:=hs
    simp only [Value.okWide,hu] at hok
    obtain ⟨cs,rfl,_⟩:=hok
    cases s1 with
    | nil=>exact agg _ rfl
    | cons a b=>exact agg _ rfl
    | _=>cases hfs:fs.toList <;> simp [hfs,fsOk] at h3
   ·cases hs
end
end Go.AE
end
section
/- Abstract machine: a world in owned rows. -/
namespace Go.AE
structure WI where
 top:Nat → Nat
 pg:List Nat
 gr:List Nat
def prgR (p:List Inn) (id:Nat):List AV:=[.ref id 3 0 p.length]
def zD9 (g:Grp) (id:Nat):List AV:=[.int .i64 g.node,.int .i64 g.limit,.int .i64 g.active,.ref id 1 0 g.waits.length,.int .i64 g.first]
def zB7 (X:WI) (w:Wld):List AV :=
 [.int .i64 w.now,.ref (X.top 0) 1 0 w.progs.length,.ref (X.top 1) 5 0 w.tree.length,.ref (X.top 2) 4 0 w.events.length,.ref (X.top 3) 1 0 w.spread.told.length,.ref (X.top 4) 1 0 w.spread.work.length,
  .ref (X.top 5) 3 0 w.timers.heap.length,.ref (X.top 6) 5 0 w.timers.list.length,.int .i64 w.timers.next,.ref (X.top 7) 1 0 w.afters.slots.ages.length,.ref (X.top 8) 1 0 w.afters.slots.used.length,.ref (X.top 9) 5 0 w.afters.list.length,
  .ref (X.top 10) 9 0 w.tasks.length,.ref (X.top 11) 5 0 w.groups.length,.ref (X.top 12) 4 0 w.sights.length,.ref (X.top 13) 1 0 w.began.length,.ref (X.top 14) 1 0 w.rang.length]
def zK2 (X:WI) (w:Wld):Nat → Ent
 | 0=>.row 1 (List.zipWith prgR w.progs X.pg)
 | 1=>.row 5 (w.tree.map yS)
 | 2=>.row 4 (w.events.map vD)
 | 3=>.row 1 (w.spread.told.map bv)
 | 4=>.row 1 (w.spread.work.map iv)
 | 5=>.row 3 (w.timers.heap.map zZ)
 | 6=>.row 5 (w.timers.list.map yN)
 | 7=>.row 1 (w.afters.slots.ages.map iv)
 | 8=>.row 1 (w.afters.slots.used.map bv)
 | 9=>.row 5 (w.afters.list.map vB)
 | 10=>.row 9 (w.tasks.map yM)
 | 11=>.row 5 (List.zipWith zD9 w.groups X.gr)
 | 12=>.row 4 (w.sights.map uU)
 | 13=>.row 1 (w.began.map iv)
 | _=>.row 1 (w.rang.map iv)
def WI.ids (X:WI):List Nat:=(List.range 15).map X.top ++ (X.pg ++ X.gr)
structure WV (h:zW) (X:WI) (w:Wld):Prop where
 top:∀ k,k < 15 → h (X.top k) = some (zK2 X w k)
 pl:X.pg.length = w.progs.length
 gl:X.gr.length = w.groups.length
 prog:∀ (j:Nat) p id,w.progs[j]? = some p → X.pg[j]? = some id → h id = some (.row 3 (p.map vY))
 wait:∀ (j:Nat) g id,w.groups[j]? = some g → X.gr[j]? = some id → h id = some (.row 1 (g.waits.map iv))
 nd:X.ids.Nodup
theorem WV.top_inj {h X w} (v:WV h X w) {i j:Nat} (hi:i < 15) (hj:j < 15) (e:X.top i = X.top j):i = j:=by
 have:=(List.nodup_append.1 v.nd).1
 have key:=List.pairwise_iff_getElem.1 this
 by_cases hij:i = j
 ·exact hij
 ·exfalso
  rcases Nat.lt_or_gt_of_ne hij with hlt | hlt
  ·exact key i j (by simp;omega) (by simp;omega) hlt (by simp [e])
  ·exact key j i (by simp;omega) (by simp;omega) hlt (by simp [e])
theorem WV.keep {h h' X w} (v:WV h X w) (hk:∀ id ∈ X.ids,h' id = h id):WV h' X w where
 top k hk':=by rw [hk _ (by simp only [WI.ids,List.mem_append,List.mem_map];exact .inl ⟨k,by simpa using hk',rfl⟩)];exact v.top k hk'
 pl:=v.pl
 gl:=v.gl
 prog j p id hp hi:=by rw [hk id (by simp only [WI.ids,List.mem_append];exact .inr (.inl (List.mem_of_getElem? hi)))];exact v.prog j p id hp hi
 wait j g id hg hi:=by rw [hk id (by simp only [WI.ids,List.mem_append];exact .inr (.inr (List.mem_of_getElem? hi)))];exact v.wait j g id hg hi
 nd:=v.nd
theorem zip_get {α:Type} {f:α → Nat → List AV} {xs:List α} {is:List Nat} (hl:is.length = xs.length) (i:Nat):(List.zipWith f xs is)[i]? = (xs[i]?).bind fun x=>(is[i]?).map fun k=>f x k:=by
 rw [List.getElem?_zipWith]
 cases hx:xs[i]? with
 | none=>simp
 | some x=>cases is[i]? <;> simp
theorem Bor.zip {h:zW} {α:Type} {f:α → Nat → List AV} {g:α → List AV} {xs:List α} {is:List Nat} {id sz len:Nat} (hl:is.length = xs.length) (hid:h id = some (.row sz (List.zipWith f xs is))) (hlen:len = xs.length)
 (hb:∀ (j:Nat) x k,xs[j]? = some x → is[j]? = some k → Bors h (f x k) (g x)):Bor h (.ref id sz 0 len) (.view false sz (xs.map g)):=by
 subst hlen
 have key:∀ (i:Nat) c d,(List.zipWith f xs is)[i]? = some c → (xs.map g)[i]? = some d → Bors h c d:=by
  intro i c d hc hd
  rw [zip_get hl] at hc
  rw [List.getElem?_map] at hd
  cases hx:xs[i]? with
  | none=>rw [hx] at hc;cases hc
  | some x =>
    rw [hx] at hc hd
    cases hk:is[i]? with
    | none=>rw [hk] at hc;cases hc
    | some k =>
      rw [hk] at hc
      cases hc;cases hd
      exact hb i x k hx hk
 refine Bor.ref id sz 0 xs.length _ _ hid (by simp [hl]) (by simp) (fun i c d hc hd => ?_) (fun i j x y hx hy => ?_)
 ·rw [List.drop_zero,List.take_of_length_le (by simp [hl])] at hc
  exact (key i c d hc hd).len
 ·rw [List.drop_zero,List.take_of_length_le (by simp [hl])] at hx
  obtain ⟨c,hc,hx⟩:=yC hx
  obtain ⟨d,hd,hy⟩:=yC hy
  exact (key i c d hc hd).get j x y hx hy
abbrev FF:Nat → Bool:=fun _=>false
theorem WV.bors {h X w} (v:WV h X w):Bors h (zB7 X w) (wldV FF w):=by
 have t:=v.top
 unfold zB7 wldV
 refine .cons (.same _) (.cons (Bor.zip v.pl (t 0 (by omega)) rfl fun j x k hx hk=>.cons (.ref0 (v.prog j x k hx hk) rfl (by simp)) .nil) (.cons (.ref0 (t 1 (by omega)) rfl (by simp)) (.cons (.ref0 (t 2 (by omega)) rfl (by simp)) (.cons (.ref0 (t 3 (by omega)) rfl (by simp))
  (.cons (.ref0 (t 4 (by omega)) rfl (by simp)) (.cons (.ref0 (t 5 (by omega)) rfl (by simp)) (.cons (.ref0 (t 6 (by omega)) rfl (by simp)) (.cons (.same _) (.cons (.ref0 (t 7 (by omega)) rfl (by simp)) (.cons (.ref0 (t 8 (by omega)) rfl (by simp)) (.cons (.ref0 (t 9 (by omega)) rfl (by simp))
  (.cons (.ref0 (t 10 (by omega)) rfl (by simp)) (.cons (Bor.zip v.gl (t 11 (by omega)) rfl fun j x k hx hk=>.cons (.same _) (.cons (.same _) (.cons (.same _) (.cons (.ref0 (v.wait j x k hx hk) rfl (by simp)) (.cons (.same _) .nil))))) (.cons (.ref0 (t 12 (by omega)) rfl (by simp))
  (.cons (.ref0 (t 13 (by omega)) rfl (by simp)) (.cons (.ref0 (t 14 (by omega)) rfl (by simp)) .nil))))))))))))))))
end Go.AE
end
section
/- Abstract machine: contracts of functions that hand back a world in new rows. -/
namespace Go.AE
theorem zM {α:Type} {f:α → List AV} (hf:∀ x,∀ c ∈ f x,Fz c) (xs:List α):∀ i j x,zA7 (xs.map f) i j = some x → Fz x:=fun i j x hx=>by
 obtain ⟨cs,h1,h2⟩:=yC hx
 obtain ⟨y,_,rfl⟩:=List.mem_map.1 (List.mem_of_getElem? h1)
 exact hf y x (List.mem_of_getElem? h2)
theorem ACall.ends {P f args h nx} {Q:AV → zW → Nat → Prop} (hc:ACall P f args h nx Q):ACall P f args h nx fun r h' nx'=>Q r h' nx' ∧ nx ≤ nx' ∧ Fr nx' h' :=
 ⟨hc.1,fun ρ I w vs h1 h2 h3=>(hc.2 ρ I w vs h1 h2 h3).mono fun e w' ⟨v,r,h',nx',ρ',I',g1,hq,g3,g4,g5,g6,g7,g8⟩ =>
   ⟨v,r,h',nx',ρ',I',g1,⟨hq,g7,fun k hk=>by
     cases hh:h' k with
     | none=>rfl
     | some e=>obtain ⟨B,hB⟩:=(g4.ent hh).base;have:=g8 _ B hB;omega⟩,g3,g4,g5,g6,g7,g8⟩⟩
def AC (P:Program) (f:FuncId) (args:List AV) (Pre:zW → Nat → Prop) (Q:zW → Nat → AV → zW → Nat → Prop):Prop :=
 ∀ (h:zW) (nx:Nat),Pre h nx → ACall P f args h nx fun r h' nx'=>Q h nx r h' nx' ∧ nx ≤ nx' ∧ Fr nx' h'
def RetQ (C:Ctx) (rs:List ResultVar) (Q:AV → zW → Nat → Prop):AX → St → Prop:=RetK C rs Q
def finQ (Q:AV → zW → Nat → Prop) (v:Option AV) (s:St):Prop := ∃ r,v = some r ∧ Q r s.h s.nx
@[simp] theorem finQ_some (Q r) (s:St):finQ Q (some r) s = Q r s.h s.nx:=by simp [finQ]
@[simp] theorem retQ_ret (C rs Q) (s:St):RetQ C rs Q .ret s = finQ Q (resultsA C s rs) s:=propext Iff.rfl
@[simp] theorem retQ_normal (C rs Q) (s:St):RetQ C rs Q .normal s = finQ Q (resultsA C s rs) s:=propext Iff.rfl
theorem AC.of {C:Ctx} (ok:C.Ok) {f:FuncId} {fn:Func} {c:Code} {args:List AV} {Pre:zW → Nat → Prop} {Q:zW → Nat → AV → zW → Nat → Prop} (hf:C.P.funcs[f]? = some fn) (hb:fn.body = some c)
 (hname:(fn.name == "runtime.NumGoroutine") = false) (hc:zC1 fn.ntmps c = true) (hargs:args.length ≤ fn.ntmps)
 (hw:∀ (h:zW) (nx:Nat),Fr nx h → (∀ j,h j ≠ none → j < nx) → Pre h nx → goC C c ⟨argT args,h,nx⟩ (.fin (RetQ C fn.results.toList (Q h nx)))):AC C.P f args Pre Q:=by
 intro h nx hp
 refine ⟨⟨fn,hf,hname,by simp [hb]⟩,fun ρ I w vs hnm H hv => ?_⟩
 have hlt:∀ j,h j ≠ none → j < nx:=by
  intro j hj
  cases he:h j with
  | none=>exact absurd he hj
  | some e=>obtain ⟨B,hB⟩:=(H.ent he).base;exact hnm j B hB
 exact (ACall.ends (ACall.of_body ok hf hb hname hc hargs (hw h nx (Fr.start hlt (Nat.le_refl _)) hlt hp))).2 ρ I w vs hnm H hv
theorem AC.o {C:Ctx} (ok:C.Ok) {f:FuncId} {fn:Func} {c:Code} {args:List AV} {Pre:zW → Nat → Prop} {Q:zW → Nat → AV → zW → Nat → Prop} (hf:C.P.funcs[f]? = some fn) (hb:fn.body = some c)
 (hw:∀ (h:zW) (nx:Nat),Fr nx h → (∀ j,h j ≠ none → j < nx) → Pre h nx → goC C c ⟨argT args,h,nx⟩ (.fin (RetQ C fn.results.toList (Q h nx))))
 (hname:(fn.name == "runtime.NumGoroutine") = false:=by rfl) (hc:zC1 fn.ntmps c = true:=by kernel_rfl) (hargs:args.length ≤ fn.ntmps:=by exact Nat.le_of_ble_eq_true rfl):AC C.P f args Pre Q:=AC.of ok hf hb hname hc hargs hw
theorem yP {C:Ctx} {n d g args} {Pre:zW → Nat → Prop} {Q:zW → Nat → AV → zW → Nat → Prop} {st:St} (hc:AC C.P g args Pre Q) (hp:Pre st.h st.nx)
 (hr:∀ r h' n',Q st.h st.nx r h' n' → st.nx ≤ n' → Fr n' h' → uG C n (({ st with h:=h',nx:=n' }:St).put d r)):zD C n d g args st :=
 (hc st.h st.nx hp).mono fun r h' n' ⟨h1,h2,h3⟩=>hr r h' n' h1 h2 h3
def fillZ {α:Type} (f:α → Nat → List AV) (z:List AV) (xs:List α) (is:List Nat):List (List AV):=List.zipWith f xs is ++ List.replicate (xs.length - is.length) z
section
variable {α:Type} {f:α → Nat → List AV} {z:List AV} {xs:List α} {is:List Nat}
theorem fillZ_0:fillZ f z xs [] = List.replicate xs.length z:=by simp [fillZ]
theorem fillZ_end (h:is.length = xs.length):fillZ f z xs is = List.zipWith f xs is:=by simp [fillZ,h]
theorem fillZ_get (h:is.length < xs.length):(fillZ f z xs is)[is.length]? = some z:=by
 unfold fillZ
 rw [List.getElem?_append_right (by simp;omega)]
 simp [List.getElem?_replicate];omega
theorem fillZ_set [Inhabited α] (h:is.length < xs.length) (id:Nat):(fillZ f z xs is).set is.length (f (gt xs (is.length:Int)) id) = fillZ f z xs (is ++ [id]):=by
 unfold fillZ
 have e:(List.zipWith f xs is).length = is.length:=by simp;omega
 have e2:List.zipWith f xs (is ++ [id]) = List.zipWith f xs is ++ [f (gt xs (is.length:Int)) id]:=by
  apply List.ext_getElem?
  intro j
  rw [List.getElem?_zipWith]
  by_cases hj:j < is.length
  ·rw [List.getElem?_append_left hj,List.getElem?_append_left (by rw [e];exact hj),List.getElem?_zipWith]
  ·rw [List.getElem?_append_right (by omega),List.getElem?_append_right (by rw [e];omega),e]
   by_cases hj2:j = is.length
   ·subst hj2
    rw [List.getElem?_eq_getElem h,yU h];simp
   ·have:j - is.length ≠ 0:=by omega
    obtain ⟨k,hk⟩:=Nat.exists_eq_succ_of_ne_zero this
    rw [hk];simp
 rw [List.set_append_right _ _ (by omega),e,Nat.sub_self,e2]
 have:xs.length - is.length = (xs.length - (is.length + 1)) + 1:=by omega
 rw [this,List.replicate_succ,List.set_cons_zero,List.append_assoc]
 simp
end
structure Subs {α:Type} (h:zW) (sz:Nat) (c:α → List (List AV)) (xs:List α) (is:List Nat) (lo hi:Nat):Prop where
 row:∀ (j:Nat) x id,xs[j]? = some x → is[j]? = some id → h id = some (.row sz (c x))
 nd:is.Nodup
 lo:∀ id ∈ is,lo ≤ id
 hi:∀ id ∈ is,id < hi
theorem Subs.nil {α:Type} {h:zW} {sz c lo hi} {xs:List α}:Subs h sz c xs [] lo hi:=⟨fun j x id _ h=>by simp at h,List.nodup_nil,fun id h=>by simp at h,fun id h=>by simp at h⟩
theorem Subs.snoc {α:Type} [Inhabited α] {h h':zW} {sz c lo hi hi'} {xs:List α} {is:List Nat} {id:Nat} (s:Subs h sz c xs is lo hi) (hk:∀ i ∈ is,h' i = h i) (hn:h' id = some (.row sz (c (gt xs (is.length:Int))))) (hl:lo ≤ id) (h1:hi ≤ id) (h2:id < hi') :
 Subs h' sz c xs (is ++ [id]) lo hi' where
 row j x i hx hi2:=by
  by_cases hj:j < is.length
  ·rw [List.getElem?_append_left hj] at hi2
   rw [hk i (List.mem_of_getElem? hi2)];exact s.row j x i hx hi2
  ·rw [List.getElem?_append_right (by omega)] at hi2
   by_cases hj2:j = is.length
   ·subst hj2
    simp at hi2;subst hi2
    have hlt:=(List.getElem?_eq_some_iff.1 hx).1
    rw [List.getElem?_eq_getElem hlt] at hx;cases hx
    rw [hn,yU hlt]
   ·have:j - is.length ≠ 0:=by omega
    obtain ⟨k,hk⟩:=Nat.exists_eq_succ_of_ne_zero this
    rw [hk] at hi2;simp at hi2
 nd:=by
  rw [List.nodup_append]
  refine ⟨s.nd,by simp,fun a ha b hb => ?_⟩
  simp at hb;subst hb
  have:=s.hi a ha;omega
 lo i hi2:=by
  rcases List.mem_append.1 hi2 with h | h
  ·exact s.lo i h
  ·simp at h;omega
 hi i hi2:=by
  rcases List.mem_append.1 hi2 with h | h
  ·have:=s.hi i h;omega
  ·simp at h;omega
theorem Subs.keep {α:Type} {h h':zW} {sz c lo hi lo' hi'} {xs:List α} {is:List Nat} (s:Subs h sz c xs is lo hi) (hk:∀ i ∈ is,h' i = h i) (h1:lo' ≤ lo) (h2:hi ≤ hi'):Subs h' sz c xs is lo' hi' :=
 ⟨fun j x id hx hi=>by rw [hk id (List.mem_of_getElem? hi)];exact s.row j x id hx hi,s.nd,fun i hi=>by have:=s.lo i hi;omega,fun i hi=>by have:=s.hi i hi;omega⟩
theorem zN8 {C:Ctx} {n d dT p idx sz xs vs cells} {st:St} (hp:st.h p = some (.row sz xs)) (hf:frz st.h vs = some (vs,st.h)) (hl:vs.length = dT.size) (hz:dT.size = sz) (hc:xs[idx]? = some cells) (hcl:cells.length = sz)
 (hr:uG C n ({ st with h:=upd st.h p (some (.row sz (xs.set idx vs))) }.put d .dead)):vP C n d dT p idx 0 vs st:=by
 refine zN9 hf hp hl (by omega) hc ?_
 have e:splice cells 0 vs = vs:=by simp [splice];omega
 rw [e];exact hr
def WI.ofL (L pg gr:List Nat):WI:=⟨fun k=>L.getD k 0,pg,gr⟩
theorem WI.ofL_ids {t0 t1 t2 t3 t4 t5 t6 t7 t8 t9 t10 t11 t12 t13 t14:Nat} {pg gr:List Nat}:(WI.ofL [t0,t1,t2,t3,t4,t5,t6,t7,t8,t9,t10,t11,t12,t13,t14] pg gr).ids = [t0,t1,t2,t3,t4,t5,t6,t7,t8,t9,t10,t11,t12,t13,t14] ++ (pg ++ gr):=rfl
theorem WV.ofL {H:zW} {w:Wld} {t0 t1 t2 t3 t4 t5 t6 t7 t8 t9 t10 t11 t12 t13 t14:Nat} {pg gr:List Nat} {a b c d:Nat}
 (r0:H t0 = some (.row 1 (List.zipWith prgR w.progs pg))) (r1:H t1 = some (.row 5 (w.tree.map yS))) (r2:H t2 = some (.row 4 (w.events.map vD))) (r3:H t3 = some (.row 1 (w.spread.told.map bv))) (r4:H t4 = some (.row 1 (w.spread.work.map iv)))
 (r5:H t5 = some (.row 3 (w.timers.heap.map zZ))) (r6:H t6 = some (.row 5 (w.timers.list.map yN))) (r7:H t7 = some (.row 1 (w.afters.slots.ages.map iv))) (r8:H t8 = some (.row 1 (w.afters.slots.used.map bv))) (r9:H t9 = some (.row 5 (w.afters.list.map vB)))
 (r10:H t10 = some (.row 9 (w.tasks.map yM))) (r11:H t11 = some (.row 5 (List.zipWith zD9 w.groups gr))) (r12:H t12 = some (.row 4 (w.sights.map uU))) (r13:H t13 = some (.row 1 (w.began.map iv))) (r14:H t14 = some (.row 1 (w.rang.map iv)))
 (pl:pg.length = w.progs.length) (gl:gr.length = w.groups.length) (sp:Subs H 3 (fun x:List Inn=>x.map vY) w.progs pg a b) (sg:Subs H 1 (fun x:Grp=>x.waits.map iv) w.groups gr c d) (hbc:b ≤ c)
 (nt:[t0,t1,t2,t3,t4,t5,t6,t7,t8,t9,t10,t11,t12,t13,t14].Nodup) (np:∀ t ∈ [t0,t1,t2,t3,t4,t5,t6,t7,t8,t9,t10,t11,t12,t13,t14],¬ (a ≤ t ∧ t < b) ∧ ¬ (c ≤ t ∧ t < d)) :
 WV H (WI.ofL [t0,t1,t2,t3,t4,t5,t6,t7,t8,t9,t10,t11,t12,t13,t14] pg gr) w where
 top k hk:=by
  match k,hk with
  | 0,_=>exact r0
  | 1,_=>exact r1
  | 2,_=>exact r2
  | 3,_=>exact r3
  | 4,_=>exact r4
  | 5,_=>exact r5
  | 6,_=>exact r6
  | 7,_=>exact r7
  | 8,_=>exact r8
  | 9,_=>exact r9
  | 10,_=>exact r10
  | 11,_=>exact r11
  | 12,_=>exact r12
  | 13,_=>exact r13
  | 14,_=>exact r14
  | _ + 15,hk=>omega
 pl:=pl
 gl:=gl
 prog j p id hp hi:=sp.row j p id hp hi
 wait j g id hg hi:=sg.row j g id hg hi
 nd:=by
  rw [WI.ofL_ids,List.nodup_append]
  refine ⟨nt,?_,fun x hx y hy => ?_⟩
  ·rw [List.nodup_append]
   exact ⟨sp.nd,sg.nd,fun x hx y hy=>by have:=sp.hi x hx;have:=sg.lo y hy;omega⟩
  ·have:=np x hx
   rcases List.mem_append.1 hy with hy | hy
   ·have:=sp.lo y hy
    have:=sp.hi y hy
    omega
   ·have:=sg.lo y hy
    have:=sg.hi y hy
    omega
end Go.AE
end
section
/- Abstract machine: rows that are marked from their beginning on, field by field. -/
namespace Go.AE
def yD {α:Type} (mk:Int → α) (sz:Nat) (k:Int) (n:Nat):List α:=(List.range n).map fun (j:Nat)=>mk (k + (sz:Int) * (j:Int))
def uI {α:Type} (f:α → List AV) (mk:Int → α) (sz:Nat) (k:Int) (xs:List α) (i:Nat):List (List AV):=(yD mk sz k i).map f ++ (xs.drop i).map f
section
variable {α:Type} {f:α → List AV} {mk:Int → α} {sz:Nat} {k:Int} {xs:List α} {i:Nat}
@[simp] theorem markL_len {n:Nat}:(yD mk sz k n).length = n:=by simp [yD]
theorem markL_succ {n:Nat}:yD mk sz k (n + 1) = yD mk sz k n ++ [mk (k + sz * n)]:=by simp [yD,List.range_succ]
theorem zE2 [Inhabited α] {n:Nat} (h:i < n):gt (yD mk sz k n) (i:Int) = mk (k + sz * i):=by
 rw [yU (by simpa using h)];simp [yD]
theorem zI0:uI f mk sz k xs 0 = xs.map f:=by simp [uI,yD]
theorem zA8 (h:i ≤ xs.length):(uI f mk sz k xs i).length = xs.length:=by simp [uI];omega
theorem zC0 (h:xs.length ≤ i):uI f mk sz k xs i = (yD mk sz k i).map f:=by simp [uI,List.drop_eq_nil_of_le h]
theorem markF_get [Inhabited α] (h:i < xs.length):(uI f mk sz k xs i)[i]? = some (f (gt xs (i:Int))):=by
 unfold uI
 rw [List.getElem?_append_right (by simp)]
 simp only [List.length_map,markL_len,Nat.sub_self,List.getElem?_map,List.getElem?_drop,Nat.add_zero]
 rw [List.getElem?_eq_getElem h,yU h];rfl
theorem uY [Inhabited α] (h:i < xs.length):uI f mk sz k xs i = (uI f mk sz k xs i).set i (f (gt xs (i:Int))):=by
 apply List.ext_getElem?
 intro j
 by_cases hj:j = i
 ·subst hj
  rw [List.getElem?_set_self (by rw [zA8 (by omega)];exact h),markF_get h]
 ·rw [List.getElem?_set_ne (by omega)]
theorem zB9 (h:i < xs.length):(uI f mk sz k xs i).set i (f (mk (k + sz * i))) = uI f mk sz k xs (i + 1):=by
 unfold uI
 have e:(xs.drop i).map f = f xs[i] :: (xs.drop (i + 1)).map f:=by rw [List.drop_eq_getElem_cons h];rfl
 rw [List.set_append_right _ _ (by simp),markL_succ,e]
 simp [-List.map_drop]
end
theorem uC {C:Ctx} {n d dT p idx off sz} {xs:List (List AV)} {cells v} {st:St} (hp:st.h p = some (.row sz (xs.set idx cells))) (hi:idx < xs.length) (hf:frz st.h [v] = some ([v],st.h)) (hd:dT.size = 1) (ho:off + 1 ≤ sz)
 (hr:uG C n ({ st with h:=upd st.h p (some (.row sz (xs.set idx (splice cells off [v])))) }.put d .dead)):vP C n d dT p idx off [v] st:=by
 refine zN9 hf hp (by simp [hd]) (by omega) (List.getElem?_set_self hi) ?_
 rw [List.set_set];exact hr
end Go.AE
end
section
/- Abstract machine: programs and groups that are marked, in rows that hold the names of rows. -/
namespace Go.AE
def mkInn' (k:Int):Inn:=⟨k,k + 1,k + 2⟩
def vS:List (List Inn) → Int → List (List Inn)
 | [],_=>[]
 | p :: ps,k=>yD mkInn' 3 k p.length :: vS ps (k + 3 * p.length)
def mkGrp (g:Grp) (k:Int):Grp:=⟨k,k + 1,k + 2,yD (fun x=>x) 1 (k + 3) g.waits.length,k + 3 + g.waits.length⟩
def zC6:List Grp → Int → List Grp
 | [],_=>[]
 | g :: gs,k=>mkGrp g k :: zC6 gs (k + 4 + g.waits.length)
theorem vH:∀ (l:List (List Inn)) (k:Int),(vS l k).length = l.length
 | [],_=>rfl
 | p :: ps,k=>by simp [vS,vH ps]
theorem vQ:∀ (l:List Grp) (k:Int),(zC6 l k).length = l.length
 | [],_=>rfl
 | g :: gs,k=>by simp [zC6,vQ gs]
theorem zP7:∀ (l l2:List (List Inn)) (k:Int),vS (l ++ l2) k = vS l k ++ vS l2 (k + 3 * uS (·.length) l)
 | [],l2,k=>by simp [vS,uS]
 | p :: ps,l2,k=>by
   simp only [List.cons_append,vS,zP7 ps,uS]
   congr 2
   congr 1
   omega
@[simp] theorem lsum_nil {α:Type} (f:α → Nat):uS f [] = 0:=rfl
theorem uT {α:Type} (f:α → Nat):∀ (xs:List α) (i:Nat),uS f (xs.take i) ≤ uS f xs
 | [],_=>by simp
 | x :: xs,0=>by simp
 | x :: xs,i + 1=>by
   have:=uT f xs i
   simp only [List.take_succ_cons,uS];omega
def zL0 (xs:List (List Inn)) (k:Int) (i:Nat):List (List Inn):=vS (xs.take i) k ++ xs.drop i
theorem zM1 {α:Type} (f:α → Nat):∀ (xs:List α) (i:Nat) (h:i < xs.length),uS f (xs.take (i + 1)) = uS f (xs.take i) + f xs[i]
 | x :: xs,0,_=>by simp [uS]
 | x :: xs,i + 1,h=>by
   have:=zM1 f xs i (by simpa using h)
   simp only [List.take_succ_cons,uS,List.getElem_cons_succ,this]
   omega
theorem mkUpto_get {xs:List (List Inn)} {k:Int} {i:Nat} (h:i < xs.length):(zL0 xs k i)[i]? = some xs[i]:=by
 unfold zL0
 rw [List.getElem?_append_right (by rw [vH];simp;omega),vH]
 have:i - (List.take i xs).length = 0:=by simp;omega
 rw [this,List.getElem?_drop,Nat.add_zero,List.getElem?_eq_getElem h]
theorem mkUpto_succ {xs:List (List Inn)} {k:Int} {i:Nat} (h:i < xs.length):zL0 xs k (i + 1) = (zL0 xs k i).set i (yD mkInn' 3 (k + 3 * uS (·.length) (xs.take i)) xs[i].length):=by
 unfold zL0
 rw [List.take_add_one,List.getElem?_eq_getElem h]
 simp only [Option.toList]
 rw [zP7,List.set_append_right _ _ (by rw [vH];simp;omega),vH]
 have:i - (List.take i xs).length = 0:=by simp;omega
 rw [this]
 simp [vS]
 rw [List.drop_eq_getElem_cons h,List.set_cons_zero]
theorem Subs.set {α:Type} {h h':zW} {sz c lo hi} {xs:List α} {is:List Nat} {i id:Nat} {x:α} (s:Subs h sz c xs is lo hi) (hid:is[i]? = some id) (hn:h' id = some (.row sz (c x))) (hk:∀ j ∈ is,j ≠ id → h' j = h j):Subs h' sz c (xs.set i x) is lo hi where
 row j y jd hy hj:=by
  by_cases e:j = i
  ·subst e
   rw [hid] at hj;cases hj
   by_cases hlt:j < xs.length
   ·rw [List.getElem?_set_self hlt] at hy;cases hy;exact hn
   ·rw [List.getElem?_eq_none (by simpa using hlt)] at hy;cases hy
  ·rw [List.getElem?_set_ne (by omega)] at hy
   have hne:jd ≠ id:=by
    intro e2
    subst e2
    have h1:=(List.getElem?_eq_some_iff.1 hid)
    have h2:=(List.getElem?_eq_some_iff.1 hj)
    obtain ⟨a1,a2⟩:=h1
    obtain ⟨b1,b2⟩:=h2
    have key:=List.pairwise_iff_getElem.1 s.nd
    rcases Nat.lt_or_gt_of_ne e with hlt | hlt
    ·exact key j i b1 a1 hlt (b2.trans a2.symm)
    ·exact key i j a1 b1 hlt (a2.trans b2.symm)
   rw [hk jd (List.mem_of_getElem? hj) hne]
   exact s.row j y jd hy hj
 nd:=s.nd
 lo:=s.lo
 hi:=s.hi
def zL7 (xs:List Grp) (k:Int) (i:Nat):List Grp:=zC6 (xs.take i) k ++ xs.drop i
abbrev gsz (g:Grp):Nat:=4 + g.waits.length
theorem mkGrps_app:∀ (l l2:List Grp) (k:Int),zC6 (l ++ l2) k = zC6 l k ++ zC6 l2 (k + uS gsz l)
 | [],l2,k=>by simp [zC6,uS]
 | p :: ps,l2,k=>by
   simp only [List.cons_append,zC6,mkGrps_app ps,uS,gsz]
   congr 2
   congr 1
   omega
theorem gUpto_len {xs:List Grp} {k:Int} {i:Nat} (h:i ≤ xs.length):(zL7 xs k i).length = xs.length:=by
 unfold zL7;rw [List.length_append,vQ];simp;omega
theorem gUpto_get {xs:List Grp} {k:Int} {i:Nat} (h:i < xs.length):(zL7 xs k i)[i]? = some xs[i]:=by
 unfold zL7
 rw [List.getElem?_append_right (by rw [vQ];simp;omega),vQ]
 have:i - (List.take i xs).length = 0:=by simp;omega
 rw [this,List.getElem?_drop,Nat.add_zero,List.getElem?_eq_getElem h]
theorem gUpto_succ {xs:List Grp} {k:Int} {i:Nat} (h:i < xs.length):zL7 xs k (i + 1) = (zL7 xs k i).set i (mkGrp xs[i] (k + uS gsz (xs.take i))):=by
 unfold zL7
 rw [List.take_add_one,List.getElem?_eq_getElem h]
 simp only [Option.toList]
 rw [mkGrps_app,List.set_append_right _ _ (by rw [vQ];simp;omega),vQ]
 have:i - (List.take i xs).length = 0:=by simp;omega
 rw [this]
 simp [zC6]
 rw [List.drop_eq_getElem_cons h,List.set_cons_zero]
theorem zip_set {α:Type} {f:α → Nat → List AV}:∀ (xs:List α) (is:List Nat) (i:Nat) (y:α) (id:Nat),is[i]? = some id → List.zipWith f (xs.set i y) is = (List.zipWith f xs is).set i (f y id)
 | [],is,i,y,id,_=>by simp
 | x :: xs,[],i,y,id,h=>by simp at h
 | x :: xs,a :: is,0,y,id,h=>by simp at h;subst h;simp
 | x :: xs,a :: is,i + 1,y,id,h=>by
   simp only [List.set_cons_succ,List.zipWith_cons_cons]
   rw [zip_set xs is i y id (by simpa using h)]
theorem set_self {α:Type} {l:List α} {i:Nat} {x:α} (h:l[i]? = some x):l = l.set i x:=by
 apply List.ext_getElem?
 intro j
 by_cases hj:j = i
 ·subst hj
  rw [List.getElem?_set_self (List.getElem?_eq_some_iff.1 h).1,h]
 ·rw [List.getElem?_set_ne (by omega)]
end Go.AE
end
section
/- Abstract machine: one row of a world changes. -/
namespace Go.AE
theorem WI.top_mem {X:WI} {k:Nat} (h:k < 15):X.top k ∈ X.ids:=by
 simp only [WI.ids,List.mem_append,List.mem_map,List.mem_range];exact .inl ⟨k,h,rfl⟩
theorem WI.pg_mem {X:WI} {i:Nat} (h:i ∈ X.pg):i ∈ X.ids:=by
 simp only [WI.ids,List.mem_append];exact .inr (.inl h)
theorem WI.gr_mem {X:WI} {i:Nat} (h:i ∈ X.gr):i ∈ X.ids:=by
 simp only [WI.ids,List.mem_append];exact .inr (.inr h)
theorem WV.top_pg {h X w} (v:WV h X w) {k:Nat} (hk:k < 15):X.top k ∉ X.pg:=fun hm=>by
 obtain ⟨_,_,h3⟩:=List.nodup_append.1 v.nd
 exact h3 (X.top k) (List.mem_map.2 ⟨k,by simpa using hk,rfl⟩) (X.top k) (List.mem_append.2 (.inl hm)) rfl
theorem WV.top_gr {h X w} (v:WV h X w) {k:Nat} (hk:k < 15):X.top k ∉ X.gr:=fun hm=>by
 obtain ⟨_,_,h3⟩:=List.nodup_append.1 v.nd
 exact h3 (X.top k) (List.mem_map.2 ⟨k,by simpa using hk,rfl⟩) (X.top k) (List.mem_append.2 (.inr hm)) rfl
theorem WV.setTop {h h':zW} {X:WI} {w w':Wld} {i:Nat} (v:WV h X w) (hi:i < 15) (hr:h' (X.top i) = some (zK2 X w' i)) (ho:∀ k,k < 15 → k ≠ i → zK2 X w' k = zK2 X w k) (hp:w'.progs = w.progs) (hg:w'.groups = w.groups)
 (hf:∀ j ∈ X.ids,j ≠ X.top i → h' j = h j):WV h' X w' where
 top k hk:=by
  by_cases e:k = i
  ·subst e;exact hr
  ·rw [ho k hk e,hf _ (WI.top_mem hk) (fun e2=>e (v.top_inj hk hi e2))];exact v.top k hk
 pl:=by rw [hp];exact v.pl
 gl:=by rw [hg];exact v.gl
 prog j p id h1 h2:=by
  rw [hp] at h1
  have hm:=List.mem_of_getElem? h2
  rw [hf id (WI.pg_mem hm) (fun e=>v.top_pg hi (e ▸ hm))]
  exact v.prog j p id h1 h2
 wait j g id h1 h2:=by
  rw [hg] at h1
  have hm:=List.mem_of_getElem? h2
  rw [hf id (WI.gr_mem hm) (fun e=>v.top_gr hi (e ▸ hm))]
  exact v.wait j g id h1 h2
 nd:=v.nd
theorem WV.pg_gr {h X w} (v:WV h X w) {i:Nat} (hi:i ∈ X.pg):i ∉ X.gr:=fun hm=>by
 have h2:=(List.nodup_append.1 v.nd).2.1
 obtain ⟨_,_,h3⟩:=List.nodup_append.1 h2
 exact h3 i hi i hm rfl
theorem WV.subsP {h X w} {n:Nat} (v:WV h X w) (hn:∀ j ∈ X.ids,j < n):Subs h 3 (fun x:List Inn=>x.map vY) w.progs X.pg 0 n :=
 ⟨fun j x id h1 h2=>v.prog j x id h1 h2,(List.nodup_append.1 (List.nodup_append.1 v.nd).2.1).1,fun _ _=>Nat.zero_le _,fun id hid=>hn id (WI.pg_mem hid)⟩
theorem WV.subsG {h X w} {n:Nat} (v:WV h X w) (hn:∀ j ∈ X.ids,j < n):Subs h 1 (fun x:Grp=>x.waits.map iv) w.groups X.gr 0 n :=
 ⟨fun j x id h1 h2=>v.wait j x id h1 h2,(List.nodup_append.1 (List.nodup_append.1 v.nd).2.1).2.1,fun _ _=>Nat.zero_le _,fun id hid=>hn id (WI.gr_mem hid)⟩
theorem WV.setProgs {h h':zW} {X:WI} {w w':Wld} {lo hi:Nat} (v:WV h X w) (hs:Subs h' 3 (fun x:List Inn=>x.map vY) w'.progs X.pg lo hi) (hl:w'.progs.length = w.progs.length) (hr:h' (X.top 0) = some (zK2 X w' 0))
 (ho:∀ k,k < 15 → k ≠ 0 → zK2 X w' k = zK2 X w k) (hg:w'.groups = w.groups) (hf:∀ j ∈ X.ids,j ∉ X.pg → j ≠ X.top 0 → h' j = h j):WV h' X w' where
 top k hk:=by
  by_cases e:k = 0
  ·subst e;exact hr
  ·rw [ho k hk e,hf _ (WI.top_mem hk) (v.top_pg hk) (fun e2=>e (v.top_inj hk (by omega) e2))];exact v.top k hk
 pl:=by rw [hl];exact v.pl
 gl:=by rw [hg];exact v.gl
 prog j p id h1 h2:=hs.row j p id h1 h2
 wait j g id h1 h2:=by
  rw [hg] at h1
  have hm:=List.mem_of_getElem? h2
  rw [hf id (WI.gr_mem hm) (fun e=>v.pg_gr e hm) (fun e=>v.top_gr (by omega) (e ▸ hm))]
  exact v.wait j g id h1 h2
 nd:=v.nd
theorem WV.setGroups {h h':zW} {X:WI} {w w':Wld} {lo hi:Nat} (v:WV h X w) (hs:Subs h' 1 (fun x:Grp=>x.waits.map iv) w'.groups X.gr lo hi) (hl:w'.groups.length = w.groups.length) (hr:h' (X.top 11) = some (zK2 X w' 11))
 (ho:∀ k,k < 15 → k ≠ 11 → zK2 X w' k = zK2 X w k) (hp:w'.progs = w.progs) (hf:∀ j ∈ X.ids,j ∉ X.gr → j ≠ X.top 11 → h' j = h j):WV h' X w' where
 top k hk:=by
  by_cases e:k = 11
  ·subst e;exact hr
  ·rw [ho k hk e,hf _ (WI.top_mem hk) (v.top_gr hk) (fun e2=>e (v.top_inj hk (by omega) e2))];exact v.top k hk
 pl:=by rw [hp];exact v.pl
 gl:=by rw [hl];exact v.gl
 prog j p id h1 h2:=by
  rw [hp] at h1
  have hm:=List.mem_of_getElem? h2
  rw [hf id (WI.pg_mem hm) (fun e=>v.pg_gr hm e) (fun e=>v.top_pg (by omega) (e ▸ hm))]
  exact v.prog j p id h1 h2
 wait j g id h1 h2:=hs.row j g id h1 h2
 nd:=v.nd
end Go.AE
end
section
/- Abstract machine: a world of which some lists change. -/
namespace Go.AE
theorem lt15 {k:Nat} (h:k < 15):k = 0 ∨ k = 1 ∨ k = 2 ∨ k = 3 ∨ k = 4 ∨ k = 5 ∨ k = 6 ∨ k = 7 ∨ k = 8 ∨ k = 9 ∨ k = 10 ∨ k = 11 ∨ k = 12 ∨ k = 13 ∨ k = 14:=by omega
theorem WV.setTops {h h':zW} {X:WI} {w w':Wld} (S:List Nat) (v:WV h X w) (hi:∀ i ∈ S,i < 15) (hr:∀ i ∈ S,h' (X.top i) = some (zK2 X w' i)) (ho:∀ k,k < 15 → k ∉ S → zK2 X w' k = zK2 X w k) (hp:w'.progs = w.progs) (hg:w'.groups = w.groups)
 (hf:∀ j ∈ X.ids,(∀ i ∈ S,j ≠ X.top i) → h' j = h j):WV h' X w' where
 top k hk:=by
  by_cases e:k ∈ S
  ·exact hr k e
  ·rw [ho k hk e,hf _ (WI.top_mem hk) (fun i hi2 e2=>e (v.top_inj hk (hi i hi2) e2 ▸ hi2))];exact v.top k hk
 pl:=by rw [hp];exact v.pl
 gl:=by rw [hg];exact v.gl
 prog j p id h1 h2:=by
  rw [hp] at h1
  have hm:=List.mem_of_getElem? h2
  rw [hf id (WI.pg_mem hm) (fun i hi2 e=>v.top_pg (hi i hi2) (e ▸ hm))]
  exact v.prog j p id h1 h2
 wait j g id h1 h2:=by
  rw [hg] at h1
  have hm:=List.mem_of_getElem? h2
  rw [hf id (WI.gr_mem hm) (fun i hi2 e=>v.top_gr (hi i hi2) (e ▸ hm))]
  exact v.wait j g id h1 h2
 nd:=v.nd
section
variable {h h':zW} {X:WI} {w:Wld}
theorem WV.setTree {l:List Nod} (v:WV h X w) (hr:h' (X.top 1) = some (.row 5 (l.map yS))) (hf:∀ j ∈ X.ids,j ≠ X.top 1 → h' j = h j):WV h' X { w with tree:=l } :=
 v.setTop (i:=1) (by omega) hr (fun k hk hne=>by rcases lt15 hk with rfl | rfl | rfl | rfl | rfl | rfl | rfl | rfl | rfl | rfl | rfl | rfl | rfl | rfl | rfl <;> first | exact absurd rfl hne | rfl) rfl rfl hf
theorem WV.setEvents {l:List Evt} (v:WV h X w) (hr:h' (X.top 2) = some (.row 4 (l.map vD))) (hf:∀ j ∈ X.ids,j ≠ X.top 2 → h' j = h j):WV h' X { w with events:=l } :=
 v.setTop (i:=2) (by omega) hr (fun k hk hne=>by rcases lt15 hk with rfl | rfl | rfl | rfl | rfl | rfl | rfl | rfl | rfl | rfl | rfl | rfl | rfl | rfl | rfl <;> first | exact absurd rfl hne | rfl) rfl rfl hf
theorem WV.setTasks {l:List Tsk} (v:WV h X w) (hr:h' (X.top 10) = some (.row 9 (l.map yM))) (hf:∀ j ∈ X.ids,j ≠ X.top 10 → h' j = h j):WV h' X { w with tasks:=l } :=
 v.setTop (i:=10) (by omega) hr (fun k hk hne=>by rcases lt15 hk with rfl | rfl | rfl | rfl | rfl | rfl | rfl | rfl | rfl | rfl | rfl | rfl | rfl | rfl | rfl <;> first | exact absurd rfl hne | rfl) rfl rfl hf
theorem WV.setSights {l:List Sgt} (v:WV h X w) (hr:h' (X.top 12) = some (.row 4 (l.map uU))) (hf:∀ j ∈ X.ids,j ≠ X.top 12 → h' j = h j):WV h' X { w with sights:=l } :=
 v.setTop (i:=12) (by omega) hr (fun k hk hne=>by rcases lt15 hk with rfl | rfl | rfl | rfl | rfl | rfl | rfl | rfl | rfl | rfl | rfl | rfl | rfl | rfl | rfl <;> first | exact absurd rfl hne | rfl) rfl rfl hf
theorem WV.setBegan {l:List Int} (v:WV h X w) (hr:h' (X.top 13) = some (.row 1 (l.map iv))) (hf:∀ j ∈ X.ids,j ≠ X.top 13 → h' j = h j):WV h' X { w with began:=l } :=
 v.setTop (i:=13) (by omega) hr (fun k hk hne=>by rcases lt15 hk with rfl | rfl | rfl | rfl | rfl | rfl | rfl | rfl | rfl | rfl | rfl | rfl | rfl | rfl | rfl <;> first | exact absurd rfl hne | rfl) rfl rfl hf
theorem WV.setRang {l:List Int} (v:WV h X w) (hr:h' (X.top 14) = some (.row 1 (l.map iv))) (hf:∀ j ∈ X.ids,j ≠ X.top 14 → h' j = h j):WV h' X { w with rang:=l } :=
 v.setTop (i:=14) (by omega) hr (fun k hk hne=>by rcases lt15 hk with rfl | rfl | rfl | rfl | rfl | rfl | rfl | rfl | rfl | rfl | rfl | rfl | rfl | rfl | rfl <;> first | exact absurd rfl hne | rfl) rfl rfl hf
theorem WV.setSpread {s:Spr} (v:WV h X w) (r3:h' (X.top 3) = some (.row 1 (s.told.map bv))) (r4:h' (X.top 4) = some (.row 1 (s.work.map iv))) (hf:∀ j ∈ X.ids,j ≠ X.top 3 → j ≠ X.top 4 → h' j = h j):WV h' X { w with spread:=s } :=
 v.setTops [3,4] (by simp) (by simp only [List.mem_cons,List.not_mem_nil,or_false,forall_eq_or_imp,forall_eq];exact ⟨r3,r4⟩) (fun k hk hne=>by rcases lt15 hk with rfl | rfl | rfl | rfl | rfl | rfl | rfl | rfl | rfl | rfl | rfl | rfl | rfl | rfl | rfl <;> first | rfl | exact absurd (by decide) hne) rfl rfl (fun j hj hn=>hf j hj (hn 3 (by simp)) (hn 4 (by simp)))
theorem WV.setTimers {s:Tms} (v:WV h X w) (r5:h' (X.top 5) = some (.row 3 (s.heap.map zZ))) (r6:h' (X.top 6) = some (.row 5 (s.list.map yN))) (hf:∀ j ∈ X.ids,j ≠ X.top 5 → j ≠ X.top 6 → h' j = h j):WV h' X { w with timers:=s } :=
 v.setTops [5,6] (by simp) (by simp only [List.mem_cons,List.not_mem_nil,or_false,forall_eq_or_imp,forall_eq];exact ⟨r5,r6⟩) (fun k hk hne=>by rcases lt15 hk with rfl | rfl | rfl | rfl | rfl | rfl | rfl | rfl | rfl | rfl | rfl | rfl | rfl | rfl | rfl <;> first | rfl | exact absurd (by decide) hne) rfl rfl (fun j hj hn=>hf j hj (hn 5 (by simp)) (hn 6 (by simp)))
theorem WV.setAfters {s:Afs} (v:WV h X w) (r7:h' (X.top 7) = some (.row 1 (s.slots.ages.map iv))) (r8:h' (X.top 8) = some (.row 1 (s.slots.used.map bv))) (r9:h' (X.top 9) = some (.row 5 (s.list.map vB))) (hf:∀ j ∈ X.ids,j ≠ X.top 7 → j ≠ X.top 8 → j ≠ X.top 9 → h' j = h j):WV h' X { w with afters:=s } :=
 v.setTops [7,8,9] (by simp) (by simp only [List.mem_cons,List.not_mem_nil,or_false,forall_eq_or_imp,forall_eq];exact ⟨r7,r8,r9⟩) (fun k hk hne=>by rcases lt15 hk with rfl | rfl | rfl | rfl | rfl | rfl | rfl | rfl | rfl | rfl | rfl | rfl | rfl | rfl | rfl <;> first | rfl | exact absurd (by decide) hne) rfl rfl (fun j hj hn=>hf j hj (hn 7 (by simp)) (hn 8 (by simp)) (hn 9 (by simp)))
end
theorem WV.lt {h:zW} {X:WI} {w:Wld} {n:Nat} (v:WV h X w) (hn:∀ j,h j ≠ none → j < n):∀ j ∈ X.ids,j < n:=by
 intro j hj
 apply hn
 simp only [WI.ids,List.mem_append,List.mem_map,List.mem_range] at hj
 rcases hj with ⟨k,hk,rfl⟩ | hj | hj
 ·rw [v.top k hk];simp
 ·obtain ⟨m,hm,rfl⟩:=List.getElem_of_mem hj
  rw [v.prog m (w.progs[m]'(by have:=v.pl;omega)) X.pg[m] (List.getElem?_eq_getElem (by have:=v.pl;omega)) (List.getElem?_eq_getElem hm)];simp
 ·obtain ⟨m,hm,rfl⟩:=List.getElem_of_mem hj
  rw [v.wait m (w.groups[m]'(by have:=v.gl;omega)) X.gr[m] (List.getElem?_eq_getElem (by have:=v.gl;omega)) (List.getElem?_eq_getElem hm)];simp
theorem zip_mkProgs:∀ (xs:List (List Inn)) (is:List Nat) (k:Int),List.zipWith prgR (vS xs k) is = List.zipWith prgR xs is
 | [],is,k=>by simp [vS]
 | x :: xs,[],k=>by simp
 | x :: xs,i :: is,k=>by simp [vS,prgR,zip_mkProgs xs is]
end Go.AE
end
section
/- Abstract machine: what a callee leaves behind is forgotten; a callee that makes a world and reads its arguments through views. -/
namespace Go.AE
theorem Ext.sub {h:zW} {ρ:yK} {I:Imm} {w:World} {h' g:zW} {ρ':yK} {I':Imm} {w':World} (E:Ext h ρ I w h' ρ' I' w') (hs:∀ id e,g id = some e → h' id = some e):Ext h ρ I w g ρ' I' w' :=
 ⟨E.rho,E.imm,E.bor,E.immN,fun b ⟨id,e,B,h1,h2,h3⟩=>E.own b ⟨id,e,B,hs _ _ h1,h2,h3⟩,E.os,E.tape,E.output,E.size,E.frame⟩
theorem ACall.sub {P f args h nx} {Q:AV → zW → Nat → Prop} (hc:ACall P f args h nx fun r h' nx' => ∃ g:zW,(∀ id e,g id = some e → h' id = some e) ∧ Q r g nx'):ACall P f args h nx Q :=
 ⟨hc.1,fun ρ I w vs h1 h2 h3=>(hc.2 ρ I w vs h1 h2 h3).mono fun e w' ⟨v,r,h',nx',ρ',I',g1,⟨g,hg,hq⟩,g3,g4,g5,g6,g7,g8⟩=>⟨v,r,g,nx',ρ',I',g1,hq,g3,g4.sub hg,g5.sub hg,g6,g7,g8⟩⟩
inductive NV:AV → AV → Prop
 | same (x):NV x x
 | nil (p sz):NV .nil (.view p sz [])
 | agg (cs ds:List AV):ds.length = cs.length → (∀ (i:Nat) x y,cs[i]? = some x → ds[i]? = some y → NV x y) → NV (.agg cs) (.agg ds)
 | tup (cs ds:List AV):ds.length = cs.length → (∀ (i:Nat) x y,cs[i]? = some x → ds[i]? = some y → NV x y) → NV (.tup cs) (.tup ds)
theorem NV.vr {ρ:yK} {I:Imm} {w:World} {x y:AV} {u:Value} (hn:NV x y):VR ρ I w x u → VR ρ I w y u:=by
 induction hn generalizing u with
 | same x=>exact id
 | nil p sz=>intro hv;rw [hv.nil_inv];exact .viewNil ..
 | agg cs ds hl hc ih =>
   intro hv
   cases hv with
   | agg _ vs h1 h2 =>
     refine .agg _ vs (by omega) fun i y u hy hu => ?_
     have hi:=(List.getElem?_eq_some_iff.1 hy).1
     have hx:=List.getElem?_eq_getElem (l:=cs) (i:=i) (by omega)
     exact ih i _ y hx hy (h2 i _ u hx hu)
 | tup cs ds hl hc ih =>
   intro hv
   cases hv with
   | tup _ vs h1 h2 =>
     refine .tup _ vs (by omega) fun i y u hy hu => ?_
     have hi:=(List.getElem?_eq_some_iff.1 hy).1
     have hx:=List.getElem?_eq_getElem (l:=cs) (i:=i) (by omega)
     exact ih i _ y hx hy (h2 i _ u hx hu)
inductive NVs:List AV → List AV → Prop
 | nil:NVs [] []
 | cons {x y xs ys}:NV x y → NVs xs ys → NVs (x :: xs) (y :: ys)
theorem NVs.len {xs ys:List AV} (b:NVs xs ys):ys.length = xs.length:=by
 induction b with
 | nil=>rfl
 | cons _ _ ih=>simp [ih]
theorem NVs.get {xs ys:List AV} (b:NVs xs ys):∀ (i:Nat) x y,xs[i]? = some x → ys[i]? = some y → NV x y:=by
 induction b with
 | nil=>intro i x y h;simp at h
 | cons hb _ ih =>
   intro i x y hx hy
   cases i with
   | zero=>simp at hx hy;subst hx;subst hy;exact hb
   | succ i=>exact ih i x y (by simpa using hx) (by simpa using hy)
theorem NV.aggs {cs ds:List AV} (b:NVs cs ds):NV (.agg cs) (.agg ds):=.agg _ _ b.len b.get
theorem NV.tups {cs ds:List AV} (b:NVs cs ds):NV (.tup cs) (.tup ds):=.tup _ _ b.len b.get
theorem PC.nv {P f args r r'} (hc:PC P f args r) (hn:NV r r'):PC P f args r':=by
 intro h nx Q hQ
 have:=hc h nx (fun r0 h0 n0=>r0 = r ∧ h0 = h ∧ n0 = nx) ⟨rfl,rfl,rfl⟩
 exact ⟨this.1,fun ρ I w vs h1 h2 h3=>(this.2 ρ I w vs h1 h2 h3).mono fun e w' ⟨v,r0,h',nx',ρ',I',g1,⟨e1,e2,e3⟩,g3,g4,g5,g6,g7,g8⟩=>by
  subst e1 e2 e3
  exact ⟨v,r',_,_,ρ',I',g1,hQ,hn.vr g3,g4,g5,g6,g7,g8⟩⟩
theorem nvs_world:NVs [.int .i64 0,.nil,.nil,.nil,.nil,.nil,.nil,.nil,.int .i64 0,.nil,.nil,.nil,.nil,.nil,.nil,.nil,.nil] (wldV (fun _=>true) default):=by
 unfold wldV
 repeat' first | exact .nil | refine .cons ?_ ?_ | exact .same _ | exact .nil _ _
@[simp] theorem take_len_map {α β:Type} {f:α → β} {xs:List α}:(xs.map f).take xs.length = xs.map f:=List.take_of_length_le (by simp)
theorem zY {h:zW} {nx:Nat} (hnx:∀ j,h j ≠ none → j < nx) (k:Nat):h (nx + k) = none:=by
 cases he:h (nx + k) with
 | none=>rfl
 | some e=>have:=hnx (nx + k) (by rw [he];simp);omega
theorem WV.cl {h:zW} {X:WI} {w:Wld} (v:WV h X w):∀ id ∈ X.ids,∀ e,h id = some e → ClE e:=by
 have mp:∀ {α:Type} {f:α → List AV} (hf:∀ x,∀ c ∈ f x,Cl c) (xs:List α),∀ i j x,zA7 (xs.map f) i j = some x → Cl x:=fun hf xs i j x hx=>by
  obtain ⟨cs,h1,h2⟩:=yC hx
  obtain ⟨y,_,rfl⟩:=List.mem_map.1 (List.mem_of_getElem? h1)
  exact hf y x (List.mem_of_getElem? h2)
 have zp:∀ {α:Type} {f:α → Nat → List AV} (hf:∀ x k,∀ c ∈ f x k,Cl c) (xs:List α) (is:List Nat),∀ i j x,zA7 (List.zipWith f xs is) i j = some x → Cl x:=fun hf xs is i j x hx=>by
  obtain ⟨cs,h1,h2⟩:=yC hx
  rw [List.getElem?_zipWith] at h1
  cases hx:xs[i]? with
  | none=>rw [hx] at h1;cases h1
  | some a =>
    cases hk:is[i]? with
    | none=>rw [hx,hk] at h1;cases h1
    | some k=>rw [hx,hk] at h1;cases h1;exact hf a k x (List.mem_of_getElem? h2)
 intro id hid e he
 simp only [WI.ids,List.mem_append,List.mem_map,List.mem_range] at hid
 rcases hid with ⟨k,hk,rfl⟩ | hj | hj
 ·rw [v.top k hk] at he
  cases he
  rcases lt15 hk with rfl | rfl | rfl | rfl | rfl | rfl | rfl | rfl | rfl | rfl | rfl | rfl | rfl | rfl | rfl
  ·exact zp (fun x k c hc=>by simp [prgR] at hc;subst hc;exact .ref _ _ _ _) _ _
  ·exact mp (fun x c hc=>by simp [yS] at hc;rcases hc with rfl | rfl | rfl | rfl | rfl <;> exact .int _ _) _
  ·exact mp (fun x c hc=>by simp [vD] at hc;rcases hc with rfl | rfl | rfl | rfl <;> exact .int _ _) _
  ·exact mp (fun x c hc=>by simp [bv] at hc;subst hc;exact .bool _) _
  ·exact mp (fun x c hc=>by simp [iv] at hc;subst hc;exact .int _ _) _
  ·exact mp (fun x c hc=>by simp [zZ] at hc;rcases hc with rfl | rfl | rfl <;> exact .int _ _) _
  ·exact mp (fun x c hc=>by simp [yN] at hc;rcases hc with rfl | rfl | rfl | rfl | rfl <;> first | exact .int _ _ | exact .bool _) _
  ·exact mp (fun x c hc=>by simp [iv] at hc;subst hc;exact .int _ _) _
  ·exact mp (fun x c hc=>by simp [bv] at hc;subst hc;exact .bool _) _
  ·exact mp (fun x c hc=>by simp [vB,zG0] at hc;rcases hc with rfl | rfl | rfl | rfl | rfl <;> first | exact .int _ _ | exact .bool _) _
  ·exact mp (fun x c hc=>by simp [yM] at hc;rcases hc with rfl | rfl | rfl | rfl | rfl | rfl | rfl | rfl | rfl <;> exact .int _ _) _
  ·exact zp (fun x k c hc=>by simp [zD9] at hc;rcases hc with rfl | rfl | rfl | rfl | rfl <;> first | exact .int _ _ | exact .ref _ _ _ _) _ _
  ·exact mp (fun x c hc=>by simp [uU] at hc;rcases hc with rfl | rfl | rfl | rfl <;> exact .int _ _) _
  ·exact mp (fun x c hc=>by simp [iv] at hc;subst hc;exact .int _ _) _
  ·exact mp (fun x c hc=>by simp [iv] at hc;subst hc;exact .int _ _) _
 ·obtain ⟨m,hm,rfl⟩:=List.getElem_of_mem hj
  rw [v.prog m (w.progs[m]'(by have:=v.pl;omega)) X.pg[m] (List.getElem?_eq_getElem (by have:=v.pl;omega)) (List.getElem?_eq_getElem hm)] at he
  cases he
  exact mp (fun x c hc=>by simp [vY] at hc;rcases hc with rfl | rfl | rfl <;> exact .int _ _) _
 ·obtain ⟨m,hm,rfl⟩:=List.getElem_of_mem hj
  rw [v.wait m (w.groups[m]'(by have:=v.gl;omega)) X.gr[m] (List.getElem?_eq_getElem (by have:=v.gl;omega)) (List.getElem?_eq_getElem hm)] at he
  cases he
  exact mp (fun x c hc=>by simp [iv] at hc;subst hc;exact .int _ _) _
theorem WV.ex {h:zW} {X:WI} {w:Wld} (v:WV h X w):∀ id ∈ X.ids,h id ≠ none:=by
 intro id hid
 simp only [WI.ids,List.mem_append,List.mem_map,List.mem_range] at hid
 rcases hid with ⟨k,hk,rfl⟩ | hj | hj
 ·rw [v.top k hk];simp
 ·obtain ⟨m,hm,rfl⟩:=List.getElem_of_mem hj
  rw [v.prog m (w.progs[m]'(by have:=v.pl;omega)) X.pg[m] (List.getElem?_eq_getElem (by have:=v.pl;omega)) (List.getElem?_eq_getElem hm)];simp
 ·obtain ⟨m,hm,rfl⟩:=List.getElem_of_mem hj
  rw [v.wait m (w.groups[m]'(by have:=v.gl;omega)) X.gr[m] (List.getElem?_eq_getElem (by have:=v.gl;omega)) (List.getElem?_eq_getElem hm)];simp
def WC (P:Program) (f:FuncId) (args:List AV) (rr:WI → AV) (w:Wld):Prop :=
 ∀ (h:zW) (nx:Nat),ACall P f args h nx fun r h' nx' => ∃ X:WI,r = rr X ∧ WV h' X w ∧ (∀ id ∈ X.ids,nx ≤ id ∧ id < nx') ∧ nx ≤ nx' ∧ ∀ j,j ∉ X.ids → h' j = h j
def MkQ (rr:WI → AV) (w:Wld) (h:zW) (nx:Nat) (r:AV) (h':zW) (nx':Nat):Prop:=KeepB nx h' h ∧ ∃ X:WI,r = rr X ∧ WV h' X w ∧ ∀ id ∈ X.ids,nx ≤ id ∧ id < nx'
theorem WC.of {P f args} {rr:WI → AV} {w:Wld} (hc:AC P f args (fun _ _=>True) (MkQ rr w)):WC P f args rr w:=by
 intro h nx
 refine ⟨(hc h nx trivial).1,fun ρ I w0 vs hnm H hv => ?_⟩
 have hlt:∀ j,h j ≠ none → j < nx:=by
  intro j hj
  cases he:h j with
  | none=>exact absurd he hj
  | some e=>obtain ⟨B,hB⟩:=(H.ent he).base;exact hnm j B hB
 refine (ACall.sub ((hc h nx trivial).mono ?_)).2 ρ I w0 vs hnm H hv
 rintro r h' nx' ⟨⟨hk,X,rfl,hX,hids⟩,hle,_⟩
 have hin:∀ j ∈ X.ids,(if j < nx ∨ j ∈ X.ids then h' j else none) = h' j:=fun j hj=>if_pos (.inr hj)
 refine ⟨fun j=>if j < nx ∨ j ∈ X.ids then h' j else none,fun id e he => ?_,X,rfl,hX.keep hin,hids,hle,fun j hj => ?_⟩
 ·dsimp only at he
  split at he
  ·exact he
  ·cases he
 ·dsimp only
  by_cases hj2:j < nx
  ·rw [if_pos (.inl hj2)];exact hk j hj2
  ·rw [if_neg (by simp [hj2,hj])]
   cases he:h j with
   | none=>rfl
   | some e=>exact absurd (hlt j (by rw [he];simp)) hj2
section
variable {C:Ctx}
theorem call_wc {n d g args} {rr:WI → AV} {w:Wld} {st:St} (hc:WC C.P g args rr w)
 (hr:∀ X h' n',WV h' X w → (∀ id ∈ X.ids,st.nx ≤ id ∧ id < n') → st.nx ≤ n' → (∀ j,j ∉ X.ids → h' j = st.h j) → uG C n (({ st with h:=h',nx:=n' }:St).put d (rr X))):zD C n d g args st :=
 (hc st.h st.nx).mono fun r h' n' ⟨X,e,h1,h2,h3,h4⟩=>by subst e;exact hr X h' n' h1 h2 h3 h4
theorem call_wcB {n d g args args'} {rr:WI → AV} {w:Wld} {st:St} (hc:WC C.P g args' rr w) (hcl:∀ X,Cl (rr X)) (hb:Bors st.h args args')
 (hr:∀ X h' n',WV h' X w → (∀ id ∈ X.ids,st.nx ≤ id ∧ id < n') → st.nx ≤ n' → (∀ j,j ∉ X.ids → h' j = st.h j) → uG C n (({ st with h:=h',nx:=n' }:St).put d (rr X))):zD C n d g args st:=by
 refine ACall.borrow hb.len hb.get ((hc _ _).mono fun r h' n' ⟨X,e,h1,h2,h3,h4⟩ => ?_)
 subst e
 have hs:∀ id ∈ X.ids,over h' st.h id = h' id:=fun id hid=>by
  unfold over
  cases he:h' id with
  | none=>exact absurd he (h1.ex id hid)
  | some e=>rfl
 refine ⟨hcl X,fun id e he => ?_,hr X _ n' (h1.keep hs) h2 h3 fun j hj => ?_⟩
 ·by_cases hid:id ∈ X.ids
  ·exact ⟨(h2 id hid).1,h1.cl id hid e he⟩
  ·rw [h4 id hid] at he;cases he
 ·unfold over
  rw [h4 j hj]
end
end Go.AE
end
section
/- Abstract machine: a world that is nothing, in a result of several values, seen as a world in empty rows. -/
namespace Go.AE
inductive Gt (Q:AV → zW → Nat → Prop):AV → zW → Nat → Prop
 | done {r h nx}:Q r h nx → Gt Q r h nx
 | nil {cells rest h nx i sz}:cells[i]? = some .nil → 0 < sz → Gt Q (.tup (.agg (cells.set i (.ref nx sz 0 0)) :: rest)) (upd h nx (some (.row sz []))) (nx + 1) → Gt Q (.tup (.agg cells :: rest)) h nx
theorem Gt.sound {Q:AV → zW → Nat → Prop} {h0:zW} {ρ0:yK} {I0:Imm} {w0:World} {n0:Nat} {v:Value} {r:AV} {h:zW} {nx:Nat} (g:Gt Q r h nx):∀ {ρ:yK} {I:Imm} {w:World},VR ρ I w r v → HRel ρ I w h → Ext h0 ρ0 I0 w0 h ρ I w → Fresh n0 ρ0 ρ → n0 ≤ nx → (∀ id B,ρ id = some B → id < nx) →
 ∃ r' h' nx' ρ',Q r' h' nx' ∧ VR ρ' I w r' v ∧ HRel ρ' I w h' ∧ Ext h0 ρ0 I0 w0 h' ρ' I w ∧ Fresh n0 ρ0 ρ' ∧ n0 ≤ nx' ∧ ∀ id B,ρ' id = some B → id < nx':=by
 induction g with
 | done hq=>intro ρ I w h1 h2 h3 h4 h5 h6;exact ⟨_,_,_,ρ,hq,h1,h2,h3,h4,h5,h6⟩
 | @nil cells rest h nx i sz hi hsz _ ih =>
   intro ρ I w h1 h2 h3 h4 h5 h6
   have nofree:ρ nx = none:=by
    cases hh:ρ nx with
    | none=>rfl
    | some B=>have:=h6 nx B hh;omega
   obtain ⟨H',E'⟩:=nil_ext h2 hsz nofree
   have hic:i < cells.length:=(List.getElem?_eq_some_iff.1 hi).1
   have gr:∀ i B,ρ i = some B → upd ρ nx (some ⟨none,0,0,sz⟩) i = some B:=fun i B hB=>by
    rw [zF _ _ _ _ (by have:=h6 i B hB;omega)];exact hB
   have hv:VR (upd ρ nx (some ⟨none,0,0,sz⟩)) I w (.tup (.agg (cells.set i (.ref nx sz 0 0)) :: rest)) v:=by
    cases h1 with
    | tup _ vs q1 q2 =>
      refine .tup _ vs (by simpa using q1) fun j y u hy hu => ?_
      cases j with
      | zero =>
        simp only [List.getElem?_cons_zero,Option.some.injEq] at hy
        subst hy
        have h0:=q2 0 (.agg cells) u rfl hu
        cases h0 with
        | agg _ ws p1 p2 =>
          refine .agg _ ws (by simpa using p1) fun j y u hy hu => ?_
          by_cases hj:j = i
          ·subst hj
           rw [List.getElem?_set_self hic] at hy;cases hy
           rw [(p2 j _ u hi hu).nil_inv]
           exact .ref0 nx sz 0 none _ (zJ ..) rfl
          ·rw [List.getElem?_set_ne (by omega)] at hy
           exact (p2 j y u hy hu).mono gr (fun _ _ h=>h) fun _ _ _=>rfl
      | succ j =>
        exact (q2 (j + 1) y u (by simpa using hy) hu).mono gr (fun _ _ h=>h) fun _ _ _=>rfl
   refine ih hv H' (h3.trans E') (fun i B hB => ?_) (by omega) fun i B hB => ?_
   ·by_cases hi:i = nx
    ·exact .inr (by omega)
    ·rw [zF _ _ _ _ hi] at hB;exact h4 i B hB
   ·by_cases hi:i = nx
    ·omega
    ·rw [zF _ _ _ _ hi] at hB;have:=h6 i B hB;omega
theorem ACall.ghostT {P f args h nx} {Q:AV → zW → Nat → Prop} (hc:ACall P f args h nx (Gt Q)):ACall P f args h nx Q :=
 ⟨hc.1,fun ρ I w vs h1 h2 h3=>(hc.2 ρ I w vs h1 h2 h3).mono fun e w' ⟨v,r,h',nx',ρ',I',g1,hq,g3,g4,g5,g6,g7,g8⟩=>by
   obtain ⟨r2,h2',nx2,ρ2,q1,q2,q3,q4,q5,q6,q7⟩:=Gt.sound hq g3 g4 g5 g6 g7 g8
   exact ⟨v,r2,h2',nx2,ρ2,I',g1,q1,q2,q3,q4,q5,q6,q7⟩⟩
def zeroC:List AV:=[.int .i64 0,.nil,.nil,.nil,.nil,.nil,.nil,.nil,.int .i64 0,.nil,.nil,.nil,.nil,.nil,.nil,.nil,.nil]
theorem Gt.zero {Q:AV → zW → Nat → Prop} {rest:List AV} {h:zW} {nx:Nat} (hq:∀ (X:WI) (h':zW),WV h' X default → (∀ id ∈ X.ids,nx ≤ id ∧ id < nx + 15) → (∀ j,j < nx → h' j = h j) → Q (.tup (.agg (zB7 X default) :: rest)) h' (nx + 15)) :
 Gt Q (.tup (.agg zeroC :: rest)) h nx:=by
 unfold zeroC
 refine .nil (i:=1) (sz:=1) rfl (by decide) ?_
 simp only [List.set_cons_succ,List.set_cons_zero,Nat.add_assoc,Nat.reduceAdd]
 refine .nil (i:=2) (sz:=5) rfl (by decide) ?_
 simp only [List.set_cons_succ,List.set_cons_zero,Nat.add_assoc,Nat.reduceAdd]
 refine .nil (i:=3) (sz:=4) rfl (by decide) ?_
 simp only [List.set_cons_succ,List.set_cons_zero,Nat.add_assoc,Nat.reduceAdd]
 refine .nil (i:=4) (sz:=1) rfl (by decide) ?_
 simp only [List.set_cons_succ,List.set_cons_zero,Nat.add_assoc,Nat.reduceAdd]
 refine .nil (i:=5) (sz:=1) rfl (by decide) ?_
 simp only [List.set_cons_succ,List.set_cons_zero,Nat.add_assoc,Nat.reduceAdd]
 refine .nil (i:=6) (sz:=3) rfl (by decide) ?_
 simp only [List.set_cons_succ,List.set_cons_zero,Nat.add_assoc,Nat.reduceAdd]
 refine .nil (i:=7) (sz:=5) rfl (by decide) ?_
 simp only [List.set_cons_succ,List.set_cons_zero,Nat.add_assoc,Nat.reduceAdd]
 refine .nil (i:=9) (sz:=1) rfl (by decide) ?_
 simp only [List.set_cons_succ,List.set_cons_zero,Nat.add_assoc,Nat.reduceAdd]
 refine .nil (i:=10) (sz:=1) rfl (by decide) ?_
 simp only [List.set_cons_succ,List.set_cons_zero,Nat.add_assoc,Nat.reduceAdd]
 refine .nil (i:=11) (sz:=5) rfl (by decide) ?_
 simp only [List.set_cons_succ,List.set_cons_zero,Nat.add_assoc,Nat.reduceAdd]
 refine .nil (i:=12) (sz:=9) rfl (by decide) ?_
 simp only [List.set_cons_succ,List.set_cons_zero,Nat.add_assoc,Nat.reduceAdd]
 refine .nil (i:=13) (sz:=5) rfl (by decide) ?_
 simp only [List.set_cons_succ,List.set_cons_zero,Nat.add_assoc,Nat.reduceAdd]
 refine .nil (i:=14) (sz:=4) rfl (by decide) ?_
 simp only [List.set_cons_succ,List.set_cons_zero,Nat.add_assoc,Nat.reduceAdd]
 refine .nil (i:=15) (sz:=1) rfl (by decide) ?_
 simp only [List.set_cons_succ,List.set_cons_zero,Nat.add_assoc,Nat.reduceAdd]
 refine .nil (i:=16) (sz:=1) rfl (by decide) ?_
 simp only [List.set_cons_succ,List.set_cons_zero,Nat.add_assoc,Nat.reduceAdd]
 refine .done (hq (WI.ofL [nx,nx + 1,nx + 2,nx + 3,nx + 4,nx + 5,nx + 6,nx + 7,nx + 8,nx + 9,nx + 10,nx + 11,nx + 12,nx + 13,nx + 14] [] []) _
  (WV.ofL (a:=0) (b:=0) (c:=0) (d:=0) ?_ ?_ ?_ ?_ ?_ ?_ ?_ ?_ ?_ ?_ ?_ ?_ ?_ ?_ ?_ rfl rfl .nil .nil (Nat.le_refl _) ?_ (fun t ht=>by omega)) (fun id hid => ?_) (fun j hj => ?_))
 case refine_16 =>
  simp only [List.nodup_cons,List.mem_cons,List.not_mem_nil,or_false,not_or,List.nodup_nil,and_true,not_false_eq_true]
  omega
 case refine_17 =>
  rw [WI.ofL_ids] at hid
  simp only [List.append_nil,List.mem_cons,List.not_mem_nil,or_false] at hid
  omega
 case refine_18 =>
  repeat rw [zF _ _ _ _ (by omega)]
 all_goals
  first
  | exact zJ ..
  | (repeat (first | exact zJ .. | rw [zF _ _ _ _ (by omega)]))
end Go.AE
end
section
/- Abstract machine: a request's own part, which changes a world that lies in an object of its caller. -/
namespace Go.AE
def DoQ (p:Nat) (X:WI) (qs:List (Nat × List AV × List AV)) (w':Wld) (b:Bool) (h:zW) (nx:Nat) (r:AV) (h':zW) (nx':Nat):Prop :=
 r = .bool b ∧ (b = true → ∃ X':WI,h' p = some (.obj (zB7 X' w')) ∧ WV h' X' w' ∧ ∀ id ∈ X'.ids,id ∈ X.ids ∨ nx ≤ id ∧ id < nx') ∧ (∀ q ∈ qs,h' q.1 = some (.obj q.2.2)) ∧
  ∀ j,j < nx → j ≠ p → j ∉ X.ids → (∀ q ∈ qs,j ≠ q.1) → h' j = h j
def DoOk (P:Program) (g:FuncId) (qs:List (Nat × List AV × List AV)) (w w':Wld) (b:Bool):Prop :=
 ∀ (p:Nat) (X:WI),AC P g (.ptr p 0 :: qs.map fun q=>.ptr q.1 0)
  (fun h nx=>h p = some (.obj (zB7 X w)) ∧ WV h X w ∧ ∀ q ∈ qs,h q.1 = some (.obj q.2.1) ∧ q.1 ≠ p) (DoQ p X qs w' b)
def askW (w w':Wld) (b:Bool):Wld:=if zB1 w = true then (if b = true ∧ zB1 w' = true then w' else w) else default
def askB (w w':Wld) (b:Bool):Bool:=zB1 w && (b && zB1 w')
def AskQ (qs:List (Nat × List AV × List AV)) (w w':Wld) (b:Bool) (h:zW) (nx:Nat) (r:AV) (h':zW) (nx':Nat):Prop :=
 (∃ X:WI,r = .tup [.agg (zB7 X (askW w w' b)),.bool (askB w w' b)] ∧ WV h' X (askW w w' b) ∧ ∀ id ∈ X.ids,nx ≤ id ∧ id < nx') ∧ (∀ q ∈ qs,h' q.1 = some (.obj (if zB1 w = true then q.2.2 else q.2.1))) ∧ ∀ j,j < nx → (∀ q ∈ qs,j ≠ q.1) → h' j = h j
theorem AskQ.bad {qs:List (Nat × List AV × List AV)} {w w':Wld} {b:Bool} {h h2:zW} {nx n2:Nat} (hw:¬ zB1 w = true) (hq:∀ q ∈ qs,h q.1 = some (.obj q.2.1)) (hqn:∀ q ∈ qs,q.1 < nx) (hk:∀ j,j < nx → h2 j = h j) (hn:nx ≤ n2) :
 Gt (AskQ qs w w' b h nx) (.tup (.agg zeroC :: [.bool false])) h2 n2:=by
 refine Gt.zero fun X h' hX hid hf=>⟨⟨X,?_,?_,fun id hi => ?_⟩,fun q hm => ?_,fun j hj _ => ?_⟩
 ·have e1:askW w w' b = default:=if_neg hw
  have e2:askB w w' b = false:=by simp [askB,hw]
  rw [e1,e2]
 ·have e1:askW w w' b = default:=if_neg hw
  rw [e1];exact hX
 ·have:=hid id hi;omega
 ·rw [if_neg hw,hf q.1 (by have:=hqn q hm;omega),hk q.1 (hqn q hm)];exact hq q hm
 ·rw [hf j (by omega),hk j hj]
theorem AC.ghostT {P:Program} {f:FuncId} {args:List AV} {Pre:zW → Nat → Prop} {Q:zW → Nat → AV → zW → Nat → Prop} (hc:AC P f args Pre (fun h nx r h' nx'=>Gt (Q h nx) r h' nx')):AC P f args Pre Q:=fun h nx hp =>
 (((hc h nx hp).mono fun _ _ _ hq=>hq.1).ghostT).ends
theorem AC.ghost {P:Program} {f:FuncId} {args:List AV} {Pre:zW → Nat → Prop} {Q:zW → Nat → AV → zW → Nat → Prop} (hc:AC P f args Pre (fun h nx r h' nx'=>Gh (Q h nx) r h' nx')):AC P f args Pre Q:=fun h nx hp =>
 (((hc h nx hp).mono fun _ _ _ hq=>hq.1).ghost).ends
theorem WV.obj {h:zW} {X:WI} {w:Wld} (v:WV h X w) {p:Nat} {cs:List AV} (hp:h p = some (Ent.obj cs)):p ∉ X.ids:=fun hm=>by
 simp only [WI.ids,List.mem_append,List.mem_map,List.mem_range] at hm
 rcases hm with ⟨k,hk,rfl⟩ | hj | hj
 ·rw [v.top k hk] at hp
  rcases lt15 hk with rfl | rfl | rfl | rfl | rfl | rfl | rfl | rfl | rfl | rfl | rfl | rfl | rfl | rfl | rfl <;> cases hp
 ·obtain ⟨m,hm,rfl⟩:=List.getElem_of_mem hj
  rw [v.prog m (w.progs[m]'(by have:=v.pl;omega)) X.pg[m] (List.getElem?_eq_getElem (by have:=v.pl;omega)) (List.getElem?_eq_getElem hm)] at hp;cases hp
 ·obtain ⟨m,hm,rfl⟩:=List.getElem_of_mem hj
  rw [v.wait m (w.groups[m]'(by have:=v.gl;omega)) X.gr[m] (List.getElem?_eq_getElem (by have:=v.gl;omega)) (List.getElem?_eq_getElem hm)] at hp;cases hp
theorem WV.ofM {H:zW} {w:Wld} {t0 t1 t2 t3 t4 t5 t6 t7 t8 t9 t10 t11 t12 t13 t14:Nat} {pg gr:List Nat} {a b c d:Nat}
 (r0:H t0 = some (.row 1 (List.zipWith prgR w.progs pg))) (r1:H t1 = some (.row 5 (w.tree.map yS))) (r2:H t2 = some (.row 4 (w.events.map vD))) (r3:H t3 = some (.row 1 (w.spread.told.map bv))) (r4:H t4 = some (.row 1 (w.spread.work.map iv)))
 (r5:H t5 = some (.row 3 (w.timers.heap.map zZ))) (r6:H t6 = some (.row 5 (w.timers.list.map yN))) (r7:H t7 = some (.row 1 (w.afters.slots.ages.map iv))) (r8:H t8 = some (.row 1 (w.afters.slots.used.map bv))) (r9:H t9 = some (.row 5 (w.afters.list.map vB)))
 (r10:H t10 = some (.row 9 (w.tasks.map yM))) (r11:H t11 = some (.row 5 (List.zipWith zD9 w.groups gr))) (r12:H t12 = some (.row 4 (w.sights.map uU))) (r13:H t13 = some (.row 1 (w.began.map iv))) (r14:H t14 = some (.row 1 (w.rang.map iv)))
 (pl:pg.length = w.progs.length) (gl:gr.length = w.groups.length) (sp:Subs H 3 (fun x:List Inn=>x.map vY) w.progs pg a b) (sg:Subs H 1 (fun x:Grp=>x.waits.map iv) w.groups gr c d) (hd:∀ x ∈ pg,∀ y ∈ gr,x ≠ y)
 (nt:[t0,t1,t2,t3,t4,t5,t6,t7,t8,t9,t10,t11,t12,t13,t14].Nodup) (np:∀ t ∈ [t0,t1,t2,t3,t4,t5,t6,t7,t8,t9,t10,t11,t12,t13,t14],t ∉ pg ∧ t ∉ gr) :
 WV H (WI.ofL [t0,t1,t2,t3,t4,t5,t6,t7,t8,t9,t10,t11,t12,t13,t14] pg gr) w where
 top k hk:=by
  match k,hk with
  | 0,_=>exact r0
  | 1,_=>exact r1
  | 2,_=>exact r2
  | 3,_=>exact r3
  | 4,_=>exact r4
  | 5,_=>exact r5
  | 6,_=>exact r6
  | 7,_=>exact r7
  | 8,_=>exact r8
  | 9,_=>exact r9
  | 10,_=>exact r10
  | 11,_=>exact r11
  | 12,_=>exact r12
  | 13,_=>exact r13
  | 14,_=>exact r14
  | _ + 15,hk=>omega
 pl:=pl
 gl:=gl
 prog j p id hp hi:=sp.row j p id hp hi
 wait j g id hg hi:=sg.row j g id hg hi
 nd:=by
  rw [WI.ofL_ids,List.nodup_append]
  refine ⟨nt,?_,fun x hx y hy e => ?_⟩
  ·rw [List.nodup_append]
   exact ⟨sp.nd,sg.nd,hd⟩
  ·subst e
   rcases List.mem_append.1 hy with hy | hy
   ·exact (np x hx).1 hy
   ·exact (np x hx).2 hy
theorem zN7 {α:Type} [Inhabited α] {f:α → Nat → List AV} {xs:List α} {is:List Nat} (h:is.length < xs.length) (id:Nat):List.zipWith f xs (is ++ [id]) = List.zipWith f xs is ++ [f (gt xs (is.length:Int)) id]:=by
 apply List.ext_getElem?
 intro j
 have e:(List.zipWith f xs is).length = is.length:=by simp;omega
 rw [List.getElem?_zipWith]
 by_cases hj:j < is.length
 ·rw [List.getElem?_append_left hj,List.getElem?_append_left (by rw [e];exact hj),List.getElem?_zipWith]
 ·rw [List.getElem?_append_right (by omega),List.getElem?_append_right (by rw [e];omega),e]
  by_cases hj2:j = is.length
  ·subst hj2
   rw [List.getElem?_eq_getElem h,yU h];simp
  ·have:j - is.length ≠ 0:=by omega
   obtain ⟨k,hk⟩:=Nat.exists_eq_succ_of_ne_zero this
   rw [hk];simp
end Go.AE
end
section
/- Abstract machine: rows of rows are made immutable. -/
namespace Go.AE
inductive Fro (h:zW):AV → AV → Prop
 | same (x):Fro h x x
 | ref (id sz off len xs ys):h id = some (.row sz xs) → off + len ≤ xs.length → ys.length = len → (∀ (i:Nat) c d,((xs.drop off).take len)[i]? = some c → ys[i]? = some d → d.length = c.length) →
    (∀ (i j:Nat) x y,zA7 ((xs.drop off).take len) i j = some x → zA7 ys i j = some y → Fro h x y) → Fro h (.ref id sz off len) (.view true sz ys)
 | agg (cells cells'):cells'.length = cells.length → (∀ (i:Nat) x y,cells[i]? = some x → cells'[i]? = some y → Fro h x y) → Fro h (.agg cells) (.agg cells')
 | tup (cells cells'):cells'.length = cells.length → (∀ (i:Nat) x y,cells[i]? = some x → cells'[i]? = some y → Fro h x y) → Fro h (.tup cells) (.tup cells')
def ImmT (h:zW) (ρ:yK) (I:Imm):Imm:=fun p b=>I p b ∨ (p = true ∧ Owns h ρ b)
section
variable {ρ:yK} {I:Imm} {w:World}
theorem Fro.vr {h:zW} {x y:AV} {u:Value} (H:HRel ρ I w h) (hb:Fro h x y):VR ρ I w x u → VR ρ (ImmT h ρ I) w y u:=by
 have up:∀ {x u},VR ρ I w x u → VR ρ (ImmT h ρ I) w x u:=fun hv=>hv.mono (fun _ _ h=>h) (fun _ _ h=>.inl h) fun _ _ _=>rfl
 induction hb generalizing u with
 | same x=>exact up
 | ref id sz off len xs ys hid hle hlen hw hc ih =>
   intro hv
   obtain ⟨B,h1,h2,h3,h4,h5,h6⟩:=H.row id sz xs hid
   have hlen0:((xs.drop off).take len).length = len:=by simp;omega
   have back:∀ {i j:Nat} {y},zA7 ys i j = some y → ∃ x,zA7 ((xs.drop off).take len) i j = some x:=by
    intro i j y hy
    obtain ⟨d,q1,q2⟩:=yC hy
    have hi:i < ((xs.drop off).take len).length:=by rw [hlen0,← hlen];exact (List.getElem?_eq_some_iff.1 q1).1
    have hc0:=List.getElem?_eq_getElem hi
    have hj:j < (((xs.drop off).take len)[i]).length:=by rw [← hw i _ d hc0 q1];exact (List.getElem?_eq_some_iff.1 q2).1
    exact ⟨_,by simp only [zA7,hc0,Option.bind_some];exact List.getElem?_eq_getElem hj⟩
   generalize hz:AV.ref id sz off len = z at hv
   cases hv <;> simp at hz
   ·obtain ⟨rfl,rfl,rfl,rfl⟩:=hz
    obtain rfl:ys = []:=List.eq_nil_of_length_eq_zero hlen
    exact .viewNil ..
   ·rename_i b c B' q2 q1 q3 q4 q5 q6
    obtain ⟨rfl,rfl,rfl,rfl⟩:=hz
    have q7:ρ id = some B':=by assumption
    have q8:B'.blk = some b:=by assumption
    rw [h1] at q7;cases q7
    clear q1 q2
    have q2:=q8
    rcases h6 with ⟨g1,g2,g3⟩ | ⟨b',cur,ty,g1,g2,g3,g4,g5,g6⟩
    ·rw [g1] at q2;cases q2
    ·rw [g1] at q2;cases q2
     have hown:Owns h ρ b:=⟨id,_,B,hid,h1,g1⟩
     have hv:=VR.view (ρ:=ρ) (I:=ImmT h ρ I) (w:=w) true sz ys b (B.off + off * sz) c (.inr ⟨rfl,hown⟩) (by omega) (by omega) (fun i d hd => ?_) (fun i j y hy => ?_) (fun i j y u hy hu => ?_)
     ·rw [hlen] at hv
      exact h2 ▸ hv
     ·have hi:i < ((xs.drop off).take len).length:=by rw [hlen0,← hlen];exact (List.getElem?_eq_some_iff.1 hd).1
      have hc0:=List.getElem?_eq_getElem hi
      rw [hw i _ d hc0 hd]
      have hx:=hc0
      rw [List.getElem?_take] at hx
      split at hx
      ·rw [List.getElem?_drop] at hx;exact h5 _ _ hx
      ·cases hx
     ·obtain ⟨x,hx⟩:=back hy
      obtain ⟨hg,hi⟩:=vC hx
      obtain ⟨cells,q1,q2⟩:=yC hg
      have hj:j < sz:=by rw [← h5 _ _ q1];exact (List.getElem?_eq_some_iff.1 q2).1
      rw [cell_of_row w b _ cur ty _ g2]
      have e1:off + i + 1 ≤ B.cap:=by have:=(List.getElem?_eq_some_iff.1 q1).1;omega
      have e2:=Nat.mul_le_mul_right sz e1
      rw [Nat.add_mul,Nat.add_mul,Nat.one_mul] at e2
      have:B.off + off * sz + i * sz + j < cur.size:=by omega
      exact ⟨_,Array.getElem?_eq_getElem this⟩
     ·obtain ⟨x,hx⟩:=back hy
      obtain ⟨hg,hi⟩:=vC hx
      rw [cell_of_row w b _ cur ty _ g2] at hu
      refine ih i j x y hx hy (g6 (off + i) j x u hg ?_)
      rw [← hu,Nat.add_mul,← Nat.add_assoc]
 | agg cells cells' hl hc ih =>
   intro hv
   cases hv with
   | agg _ vs q1 q2 =>
     refine .agg cells' vs (by rw [q1,hl]) fun i y u hy hu => ?_
     have hi:=(List.getElem?_eq_some_iff.1 hy).1
     rw [hl] at hi
     exact ih i _ y (List.getElem?_eq_getElem hi) hy (q2 i _ u (List.getElem?_eq_getElem hi) hu)
 | tup cells cells' hl hc ih =>
   intro hv
   cases hv with
   | tup _ vs q1 q2 =>
     refine .tup cells' vs (by rw [q1,hl]) fun i y u hy hu => ?_
     have hi:=(List.getElem?_eq_some_iff.1 hy).1
     rw [hl] at hi
     exact ih i _ y (List.getElem?_eq_getElem hi) hy (q2 i _ u (List.getElem?_eq_getElem hi) hu)
end
theorem ACall.freezeD {P f args h nx} {Q:AV → zW → Nat → Prop} (hc:ACall P f args h nx fun r h' nx' => ∃ (g k:zW) (r':AV),(∀ id e,g id = some e → h' id = some e) ∧ (∀ id e,k id = some e → h' id = some e) ∧ (∀ id,g id = none ∨ k id = none) ∧ Fro g r r' ∧ Q r' k nx'):ACall P f args h nx Q :=
 ⟨hc.1,fun ρ I w vs h1 h2 h3=>(hc.2 ρ I w vs h1 h2 h3).mono fun e w' ⟨v,r,h',nx',ρ',I',g1,⟨g,k,r',hg,hk,hd,hfr,hq⟩,H,hv,E,g6,g7,g8⟩=>by
   have hgO:∀ b,Owns g ρ' b → Owns h' ρ' b:=fun b ⟨id,e,B,a1,a2,a3⟩=>⟨id,e,B,hg _ _ a1,a2,a3⟩
   have Hk:=HRel.sub hv hk
   have grow:∀ {x u},VR ρ' I' w' x u → VR ρ' (ImmT g ρ' I') w' x u:=fun hv=>hv.mono (fun _ _ h=>h) (fun _ _ h=>.inl h) fun _ _ _=>rfl
   refine ⟨v,r',k,nx',ρ',ImmT g ρ' I',g1,hq,hfr.vr (HRel.sub hv hg) H,⟨fun id c he => ?_,fun id s x he => ?_,Hk.sep,fun i e B b p hi hB hb hI => ?_,fun p b hb => ?_⟩,⟨E.rho,fun p b hb=>.inl (E.imm p b hb),fun b hb => ?_,fun b hb => ?_,fun b ⟨id,e,B,a1,a2,a3⟩=>E.own b ⟨id,e,B,hk _ _ a1,a2,a3⟩,E.os,E.tape,E.output,E.size,E.frame⟩,g6,g7,g8⟩
   ·obtain ⟨B,b,cur,ty,a1,a2,a3,a4,a5⟩:=Hk.obj id c he
    exact ⟨B,b,cur,ty,a1,a2,a3,a4,fun i x u hx hu=>grow (a5 i x u hx hu)⟩
   ·obtain ⟨B,a1,a2,a3,a4,a5,a6⟩:=Hk.row id s x he
    refine ⟨B,a1,a2,a3,a4,a5,?_⟩
    rcases a6 with a6 | ⟨b,cur,ty,k1,k2,k3,k4,k5,k6⟩
    ·exact .inl a6
    ·exact .inr ⟨b,cur,ty,k1,k2,k3,k4,k5,fun i j x u hx hu=>grow (k6 i j x u hx hu)⟩
   ·rcases hI with hI | ⟨_,id,e2,B2,a1,a2,a3⟩
    ·exact Hk.imm i e B b p hi hB hb hI
    ·have hne:i ≠ id:=fun e3=>by
      subst e3
      rcases hd i with q | q
      ·rw [q] at a1;cases a1
      ·rw [q] at hi;cases hi
     exact hv.sep i id e e2 B B2 b (hk _ _ hi) (hg _ _ a1) hne hB a2 hb a3
   ·rcases hb with hb | ⟨_,hb⟩
    ·exact hv.immlt p b hb
    ·exact Owns.lt hv (hgO b hb)
   ·rcases hb with hb | ⟨hb,_⟩
    ·exact E.bor b hb
    ·cases hb
   ·rcases hb with hb | ⟨_,hb⟩
    ·exact E.immN b hb
    ·exact .inr (E.own b (hgO b hb))⟩
theorem WC.pc {P:Program} {f:FuncId} {args:List AV} {rr:WI → AV} {w:Wld} {r':AV} (hc:WC P f args rr w) (hz:Fz r') (hv:∀ (g:zW) (X:WI),WV g X w → Fro g (rr X) r'):PC P f args r':=by
 intro h nx Q hQ
 refine ⟨(hc h nx).1,fun ρ I w0 vs hnm H hvs => ?_⟩
 have hlt:∀ j,h j ≠ none → j < nx:=by
  intro j hj
  cases he:h j with
  | none=>exact absurd he hj
  | some e=>obtain ⟨B,hB⟩:=(H.ent he).base;exact hnm j B hB
 have:=ACall.pureF (R:=fun r=>r = r') (Q:=Q) (ACall.freezeD ((hc h nx).mono (Q':=fun r h' nx' => ∃ (g k:zW) (r0:AV),(∀ id e,g id = some e → h' id = some e) ∧ (∀ id e,k id = some e → h' id = some e) ∧ (∀ id,g id = none ∨ k id = none) ∧ Fro g r r0 ∧ ((∀ id e,h id = some e → k id = some e) ∧ Fz r0 ∧ r0 = r')) ?_)) (fun r' hr=>hr ▸ hQ)
 ·exact this.2 ρ I w0 vs hnm H hvs
 ·rintro r h' nx' ⟨X,rfl,hX,hids,hle,hfr⟩
  refine ⟨fun j=>if j ∈ X.ids then h' j else none,fun j=>if j ∈ X.ids then none else h' j,r',fun id e he => ?_,fun id e he => ?_,fun id => ?_,hv _ X (hX.keep fun id hid=>if_pos hid),fun id e he => ?_,hz,rfl⟩
  ·dsimp only at he;split at he
   ·exact he
   ·cases he
  ·dsimp only at he;split at he
   ·cases he
   ·exact he
  ·by_cases hid:id ∈ X.ids
   ·right;exact if_pos hid
   ·left;exact if_neg hid
  ·have hn:id ∉ X.ids:=fun hm=>by
    have:=hids id hm
    have:=hlt id (by rw [he];simp)
    omega
   dsimp only
   rw [if_neg hn,hfr id hn];exact he
inductive Fros (h:zW):List AV → List AV → Prop
 | nil:Fros h [] []
 | cons {x y xs ys}:Fro h x y → Fros h xs ys → Fros h (x :: xs) (y :: ys)
theorem Fros.len {h:zW} {xs ys:List AV} (b:Fros h xs ys):ys.length = xs.length:=by
 induction b with
 | nil=>rfl
 | cons _ _ ih=>simp [ih]
theorem Fros.get {h:zW} {xs ys:List AV} (b:Fros h xs ys):∀ (i:Nat) x y,xs[i]? = some x → ys[i]? = some y → Fro h x y:=by
 induction b with
 | nil=>intro i x y h;simp at h
 | cons hb _ ih =>
   intro i x y hx hy
   cases i with
   | zero=>simp at hx hy;subst hx;subst hy;exact hb
   | succ i=>exact ih i x y (by simpa using hx) (by simpa using hy)
theorem Fro.aggs {h:zW} {cs cs':List AV} (b:Fros h cs cs'):Fro h (.agg cs) (.agg cs'):=.agg _ _ b.len b.get
theorem Fro.tups {h:zW} {cs cs':List AV} (b:Fros h cs cs'):Fro h (.tup cs) (.tup cs'):=.tup _ _ b.len b.get
theorem Fro.ref0 {h:zW} {id sz len:Nat} {xs:List (List AV)} (hid:h id = some (.row sz xs)) (hl:len = xs.length):Fro h (.ref id sz 0 len) (.view true sz xs):=by
 subst hl
 refine .ref id sz 0 xs.length xs xs hid (by omega) rfl (fun i c d hc hd => ?_) (fun i j x y hx hy => ?_)
 ·simp at hc
  rw [hc] at hd;cases hd;rfl
 ·simp at hx
  rw [hx] at hy;cases hy;exact .same _
theorem Fro.zip {h:zW} {α:Type} {f:α → Nat → List AV} {g:α → List AV} {xs:List α} {is:List Nat} {id sz len:Nat} (hl:is.length = xs.length) (hid:h id = some (.row sz (List.zipWith f xs is))) (hlen:len = xs.length)
 (hb:∀ (j:Nat) x k,xs[j]? = some x → is[j]? = some k → Fros h (f x k) (g x)):Fro h (.ref id sz 0 len) (.view true sz (xs.map g)):=by
 subst hlen
 have key:∀ (i:Nat) c d,(List.zipWith f xs is)[i]? = some c → (xs.map g)[i]? = some d → Fros h c d:=by
  intro i c d hc hd
  rw [zip_get hl] at hc
  rw [List.getElem?_map] at hd
  cases hx:xs[i]? with
  | none=>rw [hx] at hc;cases hc
  | some x =>
    rw [hx] at hc hd
    cases hk:is[i]? with
    | none=>rw [hk] at hc;cases hc
    | some k =>
      rw [hk] at hc
      cases hc;cases hd
      exact hb i x k hx hk
 refine Fro.ref id sz 0 xs.length _ _ hid (by simp [hl]) (by simp) (fun i c d hc hd => ?_) (fun i j x y hx hy => ?_)
 ·rw [List.drop_zero,List.take_of_length_le (by simp [hl])] at hc
  exact (key i c d hc hd).len
 ·rw [List.drop_zero,List.take_of_length_le (by simp [hl])] at hx
  obtain ⟨c,hc,hx⟩:=yC hx
  obtain ⟨d,hd,hy⟩:=yC hy
  exact (key i c d hc hd).get j x y hx hy
theorem WV.fros {h:zW} {X:WI} {w:Wld} (v:WV h X w):Fros h (zB7 X w) (wldV (fun _=>true) w):=by
 have t:=v.top
 unfold zB7 wldV
 refine .cons (.same _) (.cons (Fro.zip v.pl (t 0 (by omega)) rfl fun j x k hx hk=>.cons (.ref0 (v.prog j x k hx hk) (by simp)) .nil) (.cons (.ref0 (t 1 (by omega)) (by simp)) (.cons (.ref0 (t 2 (by omega)) (by simp)) (.cons (.ref0 (t 3 (by omega)) (by simp))
  (.cons (.ref0 (t 4 (by omega)) (by simp)) (.cons (.ref0 (t 5 (by omega)) (by simp)) (.cons (.ref0 (t 6 (by omega)) (by simp)) (.cons (.same _) (.cons (.ref0 (t 7 (by omega)) (by simp)) (.cons (.ref0 (t 8 (by omega)) (by simp)) (.cons (.ref0 (t 9 (by omega)) (by simp))
  (.cons (.ref0 (t 10 (by omega)) (by simp)) (.cons (Fro.zip v.gl (t 11 (by omega)) rfl fun j x k hx hk=>.cons (.same _) (.cons (.same _) (.cons (.same _) (.cons (.ref0 (v.wait j x k hx hk) (by simp)) (.cons (.same _) .nil))))) (.cons (.ref0 (t 12 (by omega)) (by simp))
  (.cons (.ref0 (t 13 (by omega)) (by simp)) (.cons (.ref0 (t 14 (by omega)) (by simp)) .nil))))))))))))))))
end Go.AE
end
section
/- The clock of a world goes on: what a request for it makes of the world, in plain terms. -/
namespace Go.AE
theorem zeroC_fz:Fz (.agg zeroC):=by
 refine .agg _ fun c hc => ?_
 simp only [zeroC,List.mem_cons,List.not_mem_nil,or_false] at hc
 rcases hc with rfl | rfl | rfl | rfl | rfl | rfl | rfl | rfl | rfl | rfl | rfl | rfl | rfl | rfl | rfl | rfl | rfl <;> first | exact .int _ _ | exact .nil
end Go.AE
end
section
/- Functions that are started: what becomes of slots and lists, in plain terms. -/
namespace Go.AE
def canDrop (s:Slt) (x:Han):Bool:=zA4 s x && x.age != 1000000
inductive Gr (Q:AV → zW → Nat → Prop):AV → zW → Nat → Prop
 | done {r h nx}:Q r h nx → Gr Q r h nx
 | trim {id sz off len xs h nx}:h id = some (.row sz xs) → off + len ≤ xs.length → Gr Q (.ref nx sz 0 len) (upd (upd h id none) nx (some (.row sz ((xs.drop off).take len)))) (nx + 1) → Gr Q (.ref id sz off len) h nx
theorem Gr.sound {Q:AV → zW → Nat → Prop} {h0:zW} {ρ0:yK} {I0:Imm} {w0:World} {n0:Nat} {v:Value} {r:AV} {h:zW} {nx:Nat} (g:Gr Q r h nx):∀ {ρ:yK} {I:Imm} {w:World},VR ρ I w r v → HRel ρ I w h → Ext h0 ρ0 I0 w0 h ρ I w → Fresh n0 ρ0 ρ → n0 ≤ nx → (∀ id B,ρ id = some B → id < nx) →
 ∃ r' h' nx' ρ',Q r' h' nx' ∧ VR ρ' I w r' v ∧ HRel ρ' I w h' ∧ Ext h0 ρ0 I0 w0 h' ρ' I w ∧ Fresh n0 ρ0 ρ' ∧ n0 ≤ nx' ∧ ∀ id B,ρ' id = some B → id < nx':=by
 induction g with
 | done hq=>intro ρ I w h1 h2 h3 h4 h5 h6;exact ⟨_,_,_,ρ,hq,h1,h2,h3,h4,h5,h6⟩
 | @trim id sz off len xs h nx hid hle _ ih =>
   intro ρ I w h1 h2 h3 h4 h5 h6
   have nofree:ρ nx = none:=by
    cases hh:ρ nx with
    | none=>rfl
    | some B=>have:=h6 nx B hh;omega
   obtain ⟨B,hB⟩:=(h2.ent hid).base
   obtain ⟨H',E'⟩:=trim_ext h2 hid hB hle nofree
   refine ih (h1.trim hB (zJ ..)) H' (h3.trans E') (fun i B hB => ?_) (by omega) fun i B hB => ?_
   ·by_cases hi:i = nx
    ·exact .inr (by omega)
    ·rw [zF _ _ _ _ hi] at hB;exact h4 i B hB
   ·by_cases hi:i = nx
    ·omega
    ·rw [zF _ _ _ _ hi] at hB;have:=h6 i B hB;omega
theorem app_mid {C:Ctx} {id n d t e sz r off len x ws ys} {st:St} (he:yR C t = some e) (hs:e.size = sz) (hp:0 < sz) (hb:e.bytes ≤ 128) (hrow:st.h r = some (.row sz ws)) (hx:zJ5 st.h sz x = some ys)
 (hle:off + len ≤ ws.length) (hl:len + ys.length ≤ yW) (ho:ys.all (fun cs=>cs.all AV.one) = true)
 (hr:uG C n ((({ st with h:=upd st.h r none }:St).new id (.row sz ((ws.drop off).take len ++ ys ++ ws.drop (off + len + ys.length)))).put d (.ref id sz 0 (len + ys.length)))) :
 zL4 C id n d t (.ref r sz off len) x st:=by
 subst hs
 exact app_ref he hp hb hrow hx hle hl ho hr
def WI.setTop (X:WI) (i id:Nat):WI:=⟨fun k=>if k = i then id else X.top k,X.pg,X.gr⟩
theorem WI.setTop_ids {X:WI} {i id j:Nat} (h:j ∈ (X.setTop i id).ids):j ∈ X.ids ∨ j = id:=by
 simp only [WI.ids,WI.setTop,List.mem_append,List.mem_map,List.mem_range] at h ⊢
 rcases h with ⟨k,hk,rfl⟩ | h
 ·by_cases e:k = i
  ·right;rw [if_pos e]
  ·left;left;exact ⟨k,hk,by rw [if_neg e]⟩
 ·left;right;exact h
theorem wRow_setTop (X:WI) (w:Wld) (i id:Nat):∀ k,zK2 (X.setTop i id) w k = zK2 X w k:=fun k=>by unfold zK2;rfl
theorem WV.newTop {h h':zW} {X:WI} {w w':Wld} {i id:Nat} (S:List Nat) (v:WV h X w) (hi:i < 15) (hn:id ∉ X.ids) (hr:h' id = some (zK2 X w' i)) (hS:∀ k ∈ S,k < 15) (hrS:∀ k ∈ S,h' (X.top k) = some (zK2 X w' k))
 (ho:∀ k,k < 15 → k ∉ S → k ≠ i → zK2 X w' k = zK2 X w k) (hp:w'.progs = w.progs) (hg:w'.groups = w.groups) (hf:∀ j ∈ X.ids,(∀ k ∈ S,j ≠ X.top k) → j ≠ X.top i → h' j = h j):WV h' (X.setTop i id) w' where
 top k hk:=by
  rw [wRow_setTop]
  by_cases e:k = i
  ·subst e
   have:(X.setTop k id).top k = id:=if_pos rfl
   rw [this];exact hr
  ·have:(X.setTop i id).top k = X.top k:=if_neg e
   rw [this]
   by_cases e2:k ∈ S
   ·exact hrS k e2
   ·rw [ho k hk e2 e,hf _ (WI.top_mem hk) (fun l hl e3=>e2 (v.top_inj hk (hS l hl) e3 ▸ hl)) (fun e3=>e (v.top_inj hk hi e3))]
    exact v.top k hk
 pl:=by rw [hp];exact v.pl
 gl:=by rw [hg];exact v.gl
 prog j p id h1 h2:=by
  rw [hp] at h1
  have hm:id ∈ X.pg:=List.mem_of_getElem? h2
  rw [hf id (WI.pg_mem hm) (fun l hl e=>v.top_pg (hS l hl) (e ▸ hm)) (fun e=>v.top_pg hi (e ▸ hm))]
  exact v.prog j p id h1 h2
 wait j g id h1 h2:=by
  rw [hg] at h1
  have hm:id ∈ X.gr:=List.mem_of_getElem? h2
  rw [hf id (WI.gr_mem hm) (fun l hl e=>v.top_gr (hS l hl) (e ▸ hm)) (fun e=>v.top_gr hi (e ▸ hm))]
  exact v.wait j g id h1 h2
 nd:=by
  obtain ⟨n1,n2,n3⟩:=List.nodup_append.1 v.nd
  have tne:∀ k,k < 15 → X.top k ≠ id:=fun k hk e=>hn (e ▸ WI.top_mem hk)
  refine List.nodup_append.2 ⟨?_,n2,fun a ha b hb => ?_⟩
  ·refine List.pairwise_map.2 (List.Pairwise.imp_of_mem ?_ (List.nodup_range (n:=15)))
   intro a b ha hb hab
   have ha:=List.mem_range.1 ha
   have hb:=List.mem_range.1 hb
   show (if a = i then id else X.top a) ≠ (if b = i then id else X.top b)
   by_cases e1:a = i
   ·rw [if_pos e1,if_neg (fun e=>hab (e1.trans e.symm))]
    exact fun e=>tne b hb e.symm
   ·rw [if_neg e1]
    by_cases e2:b = i
    ·rw [if_pos e2];exact tne a ha
    ·rw [if_neg e2];exact fun e=>hab (v.top_inj ha hb e)
  ·obtain ⟨k,hk,rfl⟩:=List.mem_map.1 ha
   have hk2:=List.mem_range.1 hk
   show (if k = i then id else X.top k) ≠ b
   by_cases e:k = i
   ·rw [if_pos e]
    intro e2
    exact hn (by rw [e2];simp only [WI.ids,List.mem_append] at hb ⊢; exact .inr hb)
   ·rw [if_neg e]
    exact n3 (X.top k) (List.mem_map.2 ⟨k,hk,rfl⟩) b hb
theorem cntB_le {α:Type} (q:α → Bool) (l:List α):cntB q l ≤ l.length:=by
 simp only [cntB];exact Int.ofNat_le.2 List.countP_le_length
theorem afs_facts {a:Afs} (h:zD6 a = true):a.slots.used.length = a.slots.ages.length ∧ a.list.length ≤ 64 ∧
 ∀ k:Nat,k < a.list.length → canDrop a.slots (gt a.list (k:Int)).han = true → 0 ≤ (gt a.list (k:Int)).han.age ∧ (gt a.list (k:Int)).han.age < 1000000:=by
 simp only [zD6,zF0,Bool.and_eq_true,beq_iff_eq,Bool.not_eq_true',inR,decide_eq_true_eq] at h
 obtain ⟨⟨⟨h1,h2⟩,h3,h4⟩,h5,h6⟩:=h
 have h7:=cntB_le id a.slots.used
 refine ⟨by omega,by omega,fun k hk hc => ?_⟩
 simp only [canDrop,zA4,Bool.and_eq_true,beq_iff_eq,uF,inR,decide_eq_true_eq,bne_iff_ne] at hc
 obtain ⟨⟨⟨c1,c2⟩,c3,c4⟩,c5⟩:=hc
 rw [List.any_eq_false] at h4
 have hm:gt a.slots.ages (gt a.list (k:Int)).han.slot ∈ a.slots.ages:=vR c1 (by omega)
 have:=h4 _ hm
 simp at this
 rw [← c4] at c5 ⊢
 omega
theorem allI_get {α:Type} [Inhabited α] {q:Int → α → Bool}:∀ {l:List α} {k:Int},uA q l k = true → ∀ i:Nat,i < l.length → q (k + i) (gt l (i:Int)) = true
 | x :: xs,k,h,0,_=>by
   simp only [uA,Bool.and_eq_true] at h
   rw [yU (by simp)];simpa using h.1
 | x :: xs,k,h,i + 1,hi=>by
   simp only [uA,Bool.and_eq_true] at h
   have:=allI_get h.2 i (by simpa using hi)
   rw [yU (by simpa using hi)] at this
   rw [yU hi]
   simp only [List.getElem_cons_succ]
   rw [show k + ((i + 1:Nat):Int) = k + 1 + (i:Int) by omega]
   exact this
end Go.AE
end
section
/- A valid world stays valid when a function is started. -/
namespace Go.AE
theorem allI_mk {α:Type} [Inhabited α] {q:Int → α → Bool}:∀ {l:List α} {k:Int},(∀ i:Nat,i < l.length → q (k + i) (gt l (i:Int)) = true) → uA q l k = true
 | [],k,_=>rfl
 | x :: xs,k,h=>by
   simp only [uA,Bool.and_eq_true]
   refine ⟨by have:=h 0 (by simp);rw [yU (by simp)] at this;simpa using this,allI_mk fun i hi => ?_⟩
   have:=h (i + 1) (by simpa using hi)
   rw [yU (by simpa using hi)] at this
   rw [yU hi]
   simp only [List.getElem_cons_succ] at this
   rw [show k + ((i + 1:Nat):Int) = k + 1 + (i:Int) by omega] at this
   exact this
theorem afsOk_iff {a:Afs}:zD6 a = true ↔ zF0 a.slots = true ∧ (a.list.length:Int) = cntB id a.slots.used ∧ (∀ x ∈ a.list,zC3 x.node x.fn = true ∧ zA4 a.slots x.han = true) ∧ a.list.Pairwise (fun x y=>x.han ≠ y.han):=by
 have key:∀ i:Nat,i < a.list.length → ((afsAt a.list (gt a.list (i:Int)).han == (i:Int)) = true ↔ ∀ x ∈ a.list.take i,x.han ≠ (gt a.list (i:Int)).han):=fun i hi=>by
  rw [afsAt_here hi,decide_eq_true_eq,zR4 _ _ 0 (Int.le_refl 0)]
  constructor
  ·intro h x hx e
   have:=h x hx
   simp [e] at this
  ·intro h x hx
   have:=h x hx
   simpa using this
 constructor
 ·intro h
  simp only [zD6,Bool.and_eq_true,beq_iff_eq] at h
  obtain ⟨h1,h2,h3⟩:=h
  refine ⟨h1,h2,fun x hx => ?_,?_⟩
  ·obtain ⟨i,hi,rfl⟩:=List.getElem_of_mem hx
   have:=allI_get h3 i hi
   rw [yU hi] at this
   simp only [Bool.and_eq_true] at this
   exact ⟨this.1,this.2.1⟩
  ·rw [List.pairwise_iff_getElem]
   intro i j hi hj hij
   have:=allI_get h3 j hj
   simp only [Bool.and_eq_true,Int.zero_add] at this
   have h4:=(key j hj).1 this.2.2 a.list[i] (List.mem_take_iff_getElem.2 ⟨i,by omega,rfl⟩)
   rw [yU hj] at h4
   exact h4
 ·rintro ⟨h1,h2,h3,h4⟩
  simp only [zD6,Bool.and_eq_true,beq_iff_eq]
  refine ⟨h1,h2,allI_mk fun i hi => ?_⟩
  simp only [Bool.and_eq_true,Int.zero_add]
  have hm:gt a.list (i:Int) ∈ a.list:=by rw [yU hi];exact List.getElem_mem hi
  refine ⟨(h3 _ hm).1,(h3 _ hm).2,(key i hi).2 fun x hx => ?_⟩
  obtain ⟨j,hj,rfl⟩:=List.mem_take_iff_getElem.1 hx
  rw [yU hi]
  exact List.pairwise_iff_getElem.1 h4 j i (by omega) hi (by omega)
end Go.AE
end
section
/- Abstract machine: a caller may make its own rows immutable ahead of a call. -/
namespace Go.AE
theorem zS2 {α β:Type} {f:α → β} {l:List α} {n:Nat} (h:l.length = n):List.take n (List.map f l) = List.map f l:=List.take_of_length_le (by simp [h])
section
variable {ρ:yK} {I:Imm} {w:World} {h g k:zW}
end
theorem AC.frz {P:Program} {f:FuncId} {args:List AV} {Pre:zW → Nat → Prop} {Q:zW → Nat → AV → zW → Nat → Prop} (hc:AC P f args Pre (fun h nx r h' nx' => ∃ r' h'',frzR h' r = some (r',h'') ∧ Q h nx r' h'' nx')):AC P f args Pre Q:=fun h nx hp =>
 (((hc h nx hp).mono fun _ _ _ hq=>hq.1).freeze).ends
theorem cl_vmap {α:Type} {f:α → List AV} {sz:Nat} {xs:List α} (hf:∀ x,∀ c ∈ f x,Cl c):Cl (.view true sz (xs.map f)):=.view _ _ fun i j y hy=>by
 obtain ⟨d,q1,q2⟩:=yC hy
 rw [List.getElem?_map] at q1
 cases hx:xs[i]? with
 | none=>rw [hx] at q1;cases q1
 | some x=>rw [hx] at q1;cases q1;exact hf x y (List.mem_of_getElem? q2)
end Go.AE
end
section
/- Functions that are registered, in an object of their own. -/
namespace Go.AE
def afsR (i j k:Nat) (a:Afs):List AV:=[.ref i 1 0 a.slots.ages.length,.ref j 1 0 a.slots.used.length,.ref k 5 0 a.list.length]
structure AfO (h:zW) (i j k:Nat) (a:Afs):Prop where
 ne:i ≠ j
 r1:h i = some (.row 1 (a.slots.ages.map iv))
 r2:h j = some (.row 1 (a.slots.used.map bv))
 r3:h k = some (.row 5 (a.list.map vB))
section
variable {h:zW} {i j k:Nat} {a:Afs}
theorem AfO.keep {h':zW} (A:AfO h i j k a) (h1:h' i = h i) (h2:h' j = h j) (h3:h' k = h k):AfO h' i j k a:=⟨A.ne,h1.trans A.r1,h2.trans A.r2,h3.trans A.r3⟩
theorem AfO.bors (A:AfO h i j k a):Bors h (afsR i j k a) (uZ FF a):=.cons (.ref0 A.r1 (by simp) (by simp)) (.cons (.ref0 A.r2 (by simp) (by simp)) (.cons (.ref0 A.r3 (by simp) (by simp)) .nil))
end
theorem rowE_cl {α:Type} {f:α → List AV} {sz:Nat} {xs:List α} (hf:∀ x,∀ c ∈ f x,Cl c):ClE (.row sz (xs.map f)):=fun i j y hy=>by
 obtain ⟨d,q1,q2⟩:=yC hy
 rw [List.getElem?_map] at q1
 cases hx:xs[i]? with
 | none=>rw [hx] at q1;cases q1
 | some x=>rw [hx] at q1;cases q1;exact hf x y (List.mem_of_getElem? q2)
end Go.AE
end
section
/- The capacity of nil, new zeros appended to nil, a slice of nil; rows of rows, seen by a reader. -/
namespace Go.AE
section
variable {C:Ctx}
theorem slice_nil {n d e lo hi h} {st:St} (hl:zF5 0 lo = some 0) (hh:zF5 0 hi = some h) (h1:h = 0) (hr:uG C n (st.put d .nil)):zJ2 C n d (some e) .nil lo hi st:=by
 subst h1
 exact .inl ⟨e,0,0,0,rfl,rfl,zM3 hl hh (Nat.le_refl _),Nat.le_refl _,hr⟩
theorem cap_nil {n d dT} {st:St} (he:dT.elem.isSome = true) (hr:uG C n (st.put d (.int .i64 0))):capX C n d (some dT) .nil st:=by
 obtain ⟨e,he⟩:=Option.isSome_iff_exists.1 he
 exact ⟨dT,e,rfl,he,rfl,hr⟩
theorem zer_nil {id n d t t' e d' k m} {st:St} (he:yR C t = some e) (hp:0 < e.size) (hb:e.bytes ≤ 128) (ht:C.ty t' = some d') (hk:d'.ik = some k) (h0:0 < m) (hm:m ≤ yW)
 (hr:uG C n ((st.new id (.row e.size (List.replicate m e.zero))).put d (.ref id e.size 0 m))):zerS C id n d t t' .nil (.int .i64 (m:Nat)) st:=by
 unfold yR at he
 simp only [Option.bind_eq_some_iff] at he
 obtain ⟨te,⟨dT,h1,h2⟩,h3⟩:=he
 exact ⟨dT,te,e,d',k,m,h1,h2,h3,hp,hb,ht,hk,rfl,rfl,h0,hm,hr⟩
theorem Bor.row3 {h:zW} {id:Nat} {a b c a' b' c':AV} (hid:h id = some (.row 1 [[a],[b],[c]])) (h1:Bor h a a') (h2:Bor h b b') (h3:Bor h c c'):Bor h (.ref id 1 0 3) (.view false 1 [[a'],[b'],[c']]):=by
 refine Bor.ref id 1 0 3 _ _ hid (by simp) rfl (fun i c d hc hd => ?_) (fun i j x y hx hy => ?_)
 ·match i with
  | 0=>simp at hc hd;subst hc;subst hd;rfl
  | 1=>simp at hc hd;subst hc;subst hd;rfl
  | 2=>simp at hc hd;subst hc;subst hd;rfl
  | i + 3=>simp at hc
 ·match i,j with
  | 0,0=>simp [zA7] at hx hy;subst hx;subst hy;exact h1
  | 1,0=>simp [zA7] at hx hy;subst hx;subst hy;exact h2
  | 2,0=>simp [zA7] at hx hy;subst hx;subst hy;exact h3
  | 0,j + 1=>simp [zA7] at hx
  | 1,j + 1=>simp [zA7] at hx
  | 2,j + 1=>simp [zA7] at hx
  | i + 3,j=>simp [zA7] at hx
end
def twV (q:Bool × List Twg):List AV:=[.view q.1 3 (q.2.map zZ)]
def cq (qs:List (Bool × List Twg)) (i:Nat):List Twg:=((qs.take i).map (·.2)).flatten
theorem cq_succ {qs:List (Bool × List Twg)} {i:Nat} (hi:i < qs.length):cq qs (i + 1) = cq qs i ++ (gt qs (i:Int)).2:=by
 unfold cq
 rw [List.take_add_one,List.getElem?_eq_getElem hi,yU hi,List.map_append,List.flatten_append]
 simp
theorem cq_le (qs:List (Bool × List Twg)) (i:Nat):(cq qs i).length ≤ (cq qs qs.length).length:=by
 have:cq qs qs.length = cq qs i ++ ((qs.drop i).map (·.2)).flatten:=by
  unfold cq
  rw [List.take_length,← List.flatten_append,← List.map_append,List.take_append_drop]
 rw [this,List.length_append];omega
theorem cq_lt {qs:List (Bool × List Twg)} {i:Nat} (hi:i < qs.length):(cq qs i).length + (gt qs (i:Int)).2.length ≤ (cq qs qs.length).length:=by
 have:=cq_le qs (i + 1)
 rw [cq_succ hi,List.length_append] at this;exact this
theorem cq3n (a b c:Bool × List Twg):cq [a,b,c] 3 = a.2 ++ b.2 ++ c.2:=by simp [cq]
@[simp] theorem cq_zero (qs:List (Bool × List Twg)):cq qs 0 = []:=rfl
def twZ:List AV:=[.int .i64 0,.int .i64 0,.int .i64 0]
theorem cq_row {qs:List (Bool × List Twg)} {i N:Nat} (hi:i < qs.length) (hN:N = (cq qs qs.length).length) :
 ((((cq qs i).map zZ ++ List.replicate (N - (cq qs i).length) twZ).drop 0).take (cq qs i).length ++ (gt qs (i:Int)).2.map zZ ++ ((cq qs i).map zZ ++ List.replicate (N - (cq qs i).length) twZ).drop (0 + (cq qs i).length + ((gt qs (i:Int)).2.map zZ).length)) =
   (cq qs (i + 1)).map zZ ++ List.replicate (N - (cq qs (i + 1)).length) twZ:=by
 rw [List.drop_zero,List.take_left' (by simp),cq_succ hi,List.map_append,List.append_assoc,List.append_assoc,List.drop_append,List.drop_eq_nil_of_le (by simp)]
 simp
 omega
theorem twZ_fz (n:Nat):FzE (.row 3 (List.replicate n twZ)):=fun i j x hx=>by
 obtain ⟨cs,q1,q2⟩:=yC hx
 rw [List.getElem?_replicate] at q1
 split at q1
 ·cases q1
  have:=List.mem_of_getElem? q2
  simp only [twZ,List.mem_cons,List.not_mem_nil,or_false] at this
  rcases this with rfl | rfl | rfl <;> exact .int _ _
 ·cases q1
theorem twg_cl (xs:List Twg):ClE (.row 3 (xs.map zZ)):=fun i j x hx=>by
 obtain ⟨cs,q1,q2⟩:=yC hx
 rw [List.getElem?_map,Option.map_eq_some_iff] at q1
 obtain ⟨y,_,rfl⟩:=q1
 have:=List.mem_of_getElem? q2
 simp only [zZ,List.mem_cons,List.not_mem_nil,or_false] at this
 rcases this with rfl | rfl | rfl <;> exact .int _ _
theorem zR7 {h:List Twg} (hh:isH h):rk h = some (rk0 h):=by
 unfold isH at hh;unfold rk0
 cases e:rk h with
 | none=>rw [e] at hh;cases hh
 | some r=>rfl
theorem rkI_of {h:List Twg} (hh:isH h):rkI h = (rk0 h:Int):=by unfold rkI;rw [zR7 hh]
theorem isH_parts {x:Twg} {xs:List Twg} (h:isH (x :: xs)):0 ≤ x.lefts ∧ x.lefts < ((x :: xs).length:Int) ∧ isH (xs.take x.lefts.toNat) ∧ isH (xs.drop x.lefts.toNat):=by
 obtain ⟨⟨h1,h2⟩,h3,h4,_⟩:=zN4.1 h
 exact ⟨h1,by simp;omega,h3,h4⟩
theorem zK5 {l:List Twg} (h:isH l) (hp:0 < l.length):0 ≤ (gt l 0).lefts ∧ (gt l 0).lefts < l.length ∧ isH (l.tail.take (gt l 0).lefts.toNat) ∧ isH (l.drop ((gt l 0).lefts.toNat + 1)) ∧
 (l.tail.take (gt l 0).lefts.toNat).length + (l.drop ((gt l 0).lefts.toNat + 1)).length + 1 = l.length:=by
 match l with
 | x :: xs =>
   have:=isH_parts h
   simp only [zQ3,List.tail_cons,List.drop_succ_cons]
   refine ⟨this.1,this.2.1,this.2.2.1,this.2.2.2,?_⟩
   simp at this ⊢; omega
theorem mrgN_l (n:Nat) (b:List Twg):zM9 n [] b = b:=by cases n <;> simp [zM9]
theorem mrgN_r (n:Nat) (a:List Twg):zM9 n a [] = a:=by cases n <;> cases a <;> simp [zM9]
theorem mrgN_b {n:Nat} {a b:List Twg} (ha:0 < a.length) (hb:0 < b.length) (h:lt2 (gt b 0) (gt a 0)):zM9 (n + 1) a b = zD0 (gt b 0) (b.tail.take (gt b 0).lefts.toNat) (zM9 n (b.drop ((gt b 0).lefts.toNat + 1)) a):=by
 match a,b with
 | x :: xs,y :: ys =>
   simp only [zQ3,List.tail_cons,List.drop_succ_cons] at h ⊢
   simp [zM9,h]
theorem mrgN_a {n:Nat} {a b:List Twg} (ha:0 < a.length) (hb:0 < b.length) (h:¬ lt2 (gt b 0) (gt a 0)):zM9 (n + 1) a b = zD0 (gt a 0) (a.tail.take (gt a 0).lefts.toNat) (zM9 n (a.drop ((gt a 0).lefts.toNat + 1)) b):=by
 match a,b with
 | x :: xs,y :: ys =>
   simp only [zQ3,List.tail_cons,List.drop_succ_cons] at h ⊢
   simp [zM9,h]
theorem mrgN_isH {n:Nat} {a b:List Twg} (hl:a.length + b.length ≤ n) (ha:isH a) (hb:isH b) (hd:apart a b):isH (zM9 n a b):=(mrgN_ok n a b hl ha hb hd).1
theorem zC5 {a b:List Twg} (h:apart a b) (k:Nat):apart (a.drop k) b:=fun x hx y hy=>h x (List.mem_of_mem_drop hx) y hy
theorem mrgN_len:∀ (n:Nat) (a b:List Twg),a.length + b.length ≤ n → isH a → isH b → (zM9 n a b).length = a.length + b.length:=by
 intro n
 induction n with
 | zero =>
   intro a b hl ha hb
   have:a = []:=List.eq_nil_of_length_eq_zero (by omega)
   subst this;simp [zM9]
 | succ n ih =>
   intro a b hl ha hb
   match a,b with
   | [],b=>simp [zM9]
   | x :: xs,[]=>simp [zM9]
   | x :: xs,y :: ys =>
     have p1:=isH_parts ha
     have p2:=isH_parts hb
     simp only [List.length_cons] at hl p1 p2 ⊢
     simp only [zM9]
     split <;> rw [joinH_len,ih _ _ (by simp;omega) (by first | exact p1.2.2.2 | exact p2.2.2.2) (by assumption)] <;> simp <;> omega
theorem seqAt_pos {h:List Twg} {s:Int}:0 ≤ zH3 h s ↔ ∃ x ∈ h,x.seq = s:=by
 have:=vE (fun x:Twg=>x.seq == s) h 0 (Int.le_refl 0)
 have e:0 ≤ zH3 h s ↔ h.any (fun x=>x.seq == s) = true:=by
  rw [← this];simp [zH3]
 rw [e,List.any_eq_true];simp
theorem zN3 {l:List Twg} (hp:0 < l.length) (k:Nat):l = gt l 0 :: (l.tail.take k ++ l.drop (k + 1)):=by
 match l with
 | x :: xs=>simp
theorem once_part {l:List Twg} (h:once l) (hp:0 < l.length) {k:Nat}:once (l.tail.take k) ∧ once (l.drop (k + 1)) ∧ apart (l.tail.take k) (l.drop (k + 1)) ∧ (∀ y ∈ l.tail.take k ++ l.drop (k + 1),y.seq ≠ (gt l 0).seq):=by
 rw [zN3 hp k] at h
 obtain ⟨h1,h2⟩:=List.pairwise_cons.1 h
 obtain ⟨a1,a2,a3⟩:=List.pairwise_append.1 h2
 exact ⟨a1,a2,a3,fun y hy e=>h1 y hy e.symm⟩
theorem once_in {l:List Twg} {s:Int} {k:Nat} (hp:0 < l.length) (h1:¬ (gt l 0).seq = s) (h2:¬ ∃ x ∈ l.tail.take k,x.seq = s) (hx:∃ x ∈ l,x.seq = s):∃ x ∈ l.drop (k + 1),x.seq = s:=by
 obtain ⟨x,hx,e⟩:=hx
 rw [zN3 hp k] at hx
 rcases List.mem_cons.1 hx with rfl | hx
 ·exact absurd e h1
 ·rcases List.mem_append.1 hx with hx | hx
  ·exact absurd ⟨x,hx,e⟩ h2
  ·exact ⟨x,hx,e⟩
theorem woN_1 {n:Nat} {l:List Twg} {s:Int} (hp:0 < l.length) (h1:(gt l 0).seq = s):woN (n + 1) l s = mrg (l.tail.take (gt l 0).lefts.toNat) (l.drop ((gt l 0).lefts.toNat + 1)):=by
 match l with
 | x :: xs=>simp only [zQ3] at h1;simp [woN,h1]
theorem woN_2 {n:Nat} {l:List Twg} {s:Int} (hp:0 < l.length) (h1:¬ (gt l 0).seq = s) (h2:∃ x ∈ l.tail.take (gt l 0).lefts.toNat,x.seq = s):woN (n + 1) l s = zD0 (gt l 0) (woN n (l.tail.take (gt l 0).lefts.toNat) s) (l.drop ((gt l 0).lefts.toNat + 1)):=by
 match l with
 | x :: xs =>
   simp only [zQ3,List.tail_cons] at h1 h2 ⊢
   have:(xs.take x.lefts.toNat).any (fun y=>y.seq == s) = true:=by rw [List.any_eq_true];obtain ⟨y,hy,e⟩:=h2;exact ⟨y,hy,by simpa using e⟩
   simp only [woN,h1,if_false,this,if_true,List.drop_succ_cons]
theorem woN_3 {n:Nat} {l:List Twg} {s:Int} (hp:0 < l.length) (h1:¬ (gt l 0).seq = s) (h2:¬ ∃ x ∈ l.tail.take (gt l 0).lefts.toNat,x.seq = s):woN (n + 1) l s = zD0 (gt l 0) (l.tail.take (gt l 0).lefts.toNat) (woN n (l.drop ((gt l 0).lefts.toNat + 1)) s):=by
 match l with
 | x :: xs =>
   simp only [zQ3,List.tail_cons] at h1 h2 ⊢
   have:(xs.take x.lefts.toNat).any (fun y=>y.seq == s) = false:=by rw [List.any_eq_false];intro y hy e;exact h2 ⟨y,hy,by simpa using e⟩
   simp only [woN,h1,if_false,this,Bool.false_eq_true,List.drop_succ_cons]
theorem woN_sub {n:Nat} {l:List Twg} {s:Int} (hn:l.length ≤ n) (hh:isH l) (ho:once l) (hx:∃ x ∈ l,x.seq = s):isH (woN n l s) ∧ (woN n l s).length + 1 = l.length:=by
 obtain ⟨h1,x,_,_,hp⟩:=woN_ok n l s hn hh ho hx
 have:=hp.length_eq
 simp at this
 exact ⟨h1,by omega⟩
theorem joinH_part {l:List Twg} (h:isH l) (hp:0 < l.length):zD0 (gt l 0) (l.tail.take (gt l 0).lefts.toNat) (l.drop ((gt l 0).lefts.toNat + 1)) = l:=by
 match l with
 | x :: xs =>
   obtain ⟨⟨h1,h2⟩,_,_,h5,_,_⟩:=zN4.1 h
   simp only [zQ3,List.tail_cons,List.drop_succ_cons]
   unfold zD0
   rw [if_neg (by omega)]
   have e:((xs.take x.lefts.toNat).length:Int) = x.lefts:=by simp;omega
   rw [List.take_append_drop,e]
theorem woN_none:∀ (n:Nat) {l:List Twg} {s:Int},isH l → (∀ x ∈ l,x.seq ≠ s) → woN n l s = l:=by
 intro n
 induction n with
 | zero=>intro l s hh hx;cases l <;> simp [woN]
 | succ n ih =>
   intro l s hh hx
   by_cases hp:l.length = 0
   ·obtain rfl:l = []:=List.eq_nil_of_length_eq_zero hp
    simp [woN]
   ·have hp:0 < l.length:=by omega
    have pp:=zK5 hh hp
    have sp:=zN3 hp (gt l 0).lefts.toNat
    have m0:gt l 0 ∈ l:=by rw [sp];simp
    rw [woN_3 hp (hx _ m0) (fun ⟨y,hy,e⟩=>hx y (by rw [sp];simp;exact .inr (.inl hy)) e),ih pp.2.2.2.1 (fun y hy=>hx y (List.mem_of_mem_drop hy)),joinH_part hh hp]
theorem lt2_flip {x y:Twg} (h:x.seq ≠ y.seq) (h2:¬ lt2 y x):lt2 x y:=(lt2_tot h).resolve_right h2
theorem gt0_mem {l:List Twg} (hp:0 < l.length):gt l 0 ∈ l:=by match l with | x :: xs=>simp
theorem okr_tms (xs:List Twg) (n:Nat) (k:Int) (b:Bool):OkR 1 (.tup [.agg [.view true 3 (xs.map zZ),.ref 0 5 0 n,.int .i64 k],.bool b]):=.tup _ (by
 simp only [List.mem_cons,List.not_mem_nil,or_false]
 rintro c (rfl | rfl)
 ·refine .agg _ ?_
  simp only [List.mem_cons,List.not_mem_nil,or_false]
  rintro c (rfl | rfl | rfl)
  ·exact .fz _ (.view _ _ _ fun i j x hx=>zM yJ _ i j x hx)
  ·exact .ref _ _ _ _ (by simp)
  ·exact .fz _ (.int _ _)
 ·exact .one _ (.fz _ (.bool _)))
theorem zH4 {C:Ctx} {n d dT p idx off sz} {xs:List (List AV)} {cells v} {st:St} (hp:st.h p = some (.row sz xs)) (hf:frz st.h [v] = some ([v],st.h)) (hd:dT.size = 1) (ho:off + 1 ≤ sz) (hc:xs[idx]? = some cells)
 (hr:uG C n ({ st with h:=upd st.h p (some (.row sz (xs.set idx (splice cells off [v])))) }.put d .dead)):vP C n d dT p idx off [v] st:=zN9 hf hp (by simp [hd]) (by omega) hc hr
end Go.AE
end
section
/- Timers are stopped and set anew; valid timers stay valid. -/
namespace Go.AE
def offT (x:Tmr):Tmr:=⟨x.seq,x.due,x.what,x.whom,false⟩
theorem offT_a (x:Tmr):(offT x).armed = false:=rfl
def zF2 (t:Tms) (s:Int):Bool:=decide (0 ≤ yE t.list s) && (gt t.list (yE t.list s)).armed
def vO (t:Tms) (s:Int):Tms :=
 if zF2 t s = true then ⟨wo t.heap s,t.list.set (yE t.list s).toNat (offT (gt t.list (yE t.list s))),t.next⟩ else t
theorem seqs_once {h:List Twg}:zL2 h = true ↔ once h:=by
 have key:∀ i:Nat,(hi:i < h.length) → ((!(decide (0 ≤ zH3 (h.take i) (h[i]).seq))) = true ↔ ∀ y ∈ h.take i,y.seq ≠ (h[i]).seq):=fun i hi=>by
  unfold zH3
  rw [Bool.not_eq_true',decide_eq_false_iff_not,Int.not_le,zR4 _ _ 0 (Int.le_refl 0)]
  simp
 unfold zL2 once
 rw [zK1,List.pairwise_iff_getElem]
 simp only [Int.zero_add,Int.toNat_natCast]
 constructor
 ·intro hh i j hi hj hij e
  exact (key j hj).1 (hh j hj) h[i] (List.mem_take_iff_getElem.2 ⟨i,by omega,rfl⟩) e
 ·intro hh i hi
  rw [key i hi]
  intro y hy
  obtain ⟨j,hj,rfl⟩:=List.mem_take_iff_getElem.1 hy
  exact hh j i (by omega) hi (by omega)
theorem heapOk_iff {h:List Twg}:zF6 h = true ↔ h.length ≤ 64 ∧ once h ∧ isH h:=by
 rw [← seqs_once]
 unfold zF6 zL2 isH
 simp
def okAt (l:List Tmr) (k:Int × Int):Prop:=0 ≤ yE l k.2 ∧ (gt l (yE l k.2)).armed = true ∧ (gt l (yE l k.2)).due = k.1
theorem uO {t:Tms}:vZ t = true ↔ (0 ≤ t.next ∧ t.next ≤ 1000000) ∧ t.list.length ≤ 64 ∧ (t.heap.length ≤ 64 ∧ once t.heap ∧ isH t.heap) ∧ vL t.next t.list (-1) = true ∧ t.list.countP (·.armed) = t.heap.length ∧ ∀ k ∈ t.heap.map ky,okAt t.list k:=by
 rw [← heapOk_iff]
 unfold vZ okAt cntB
 simp only [Bool.and_eq_true,vX,decide_eq_true_eq,beq_iff_eq,Bool.not_eq_true',List.any_eq_false,List.mem_map,forall_exists_index,and_imp,forall_apply_eq_imp_iff₂,ky]
 refine and_congr Iff.rfl (and_congr Iff.rfl (and_congr Iff.rfl (and_congr Iff.rfl (and_congr (by omega) (forall_congr' fun x=>forall_congr' fun hx => ?_)))))
 simp
theorem gt_get {α:Type} [Inhabited α] {l:List α} {n:Int} (h0:0 ≤ n) (h1:n < l.length):gt l n = l[n.toNat]'(by omega):=by
 have:=zA9 h0 h1
 rw [List.getElem?_eq_getElem (by omega)] at this
 exact (Option.some.inj this).symm
theorem zE5 {l:List Tmr} {s:Int} (h:0 ≤ yE l s):(gt l (yE l s)).seq = s:=by
 have:=idxI_hit (fun x:Tmr=>x.seq == s) l h
 exact beq_iff_eq.1 this
theorem idxI_set {l:List Tmr} {n:Nat} {x:Tmr} (s:Int):∀ (k:Int) (hn:n < l.length),x.seq = l[n].seq → yH (fun y:Tmr=>y.seq == s) (l.set n x) k = yH (fun y:Tmr=>y.seq == s) l k:=by
 induction l generalizing n with
 | nil=>intro k hn;simp at hn
 | cons y ys ih =>
   intro k hn hx
   cases n with
   | zero=>simp at hx;simp [yH,hx]
   | succ n =>
     simp only [List.set_cons_succ,yH]
     split
     ·rfl
     ·exact ih _ (by simpa using hn) (by simpa using hx)
theorem tmsAt_set {l:List Tmr} {s:Int} {x:Tmr} (h:0 ≤ yE l s) (hx:x.seq = s) (s':Int):yE (l.set (yE l s).toNat x) s' = yE l s':=by
 have hl:=zB2 l s
 refine idxI_set s' 0 (by omega) ?_
 rw [hx]
 have:=zE5 h
 rw [gt_get h hl] at this
 exact this.symm
theorem gt_set_ne {l:List Tmr} {n m:Int} {x:Tmr} (h0:0 ≤ n) (hm:0 ≤ m) (h1:m < l.length) (hne:n ≠ m):gt (l.set n.toNat x) m = gt l m:=by
 have p1:=zA9 (xs:=l.set n.toNat x) hm (by simpa using h1)
 have p2:=zA9 hm h1
 rw [List.getElem?_set_ne (by omega),p2] at p1
 exact (Option.some.inj p1).symm
theorem zQ0 {l:List Tmr} {s:Int} {x:Tmr} (h:0 ≤ yE l s) (hx:x.seq = s) {k:Int × Int} (hk:k.2 ≠ s):okAt (l.set (yE l s).toNat x) k ↔ okAt l k:=by
 unfold okAt
 rw [tmsAt_set h hx]
 refine and_congr_right fun h0 => ?_
 have hl:=zB2 l k.2
 rw [gt_set_ne h h0 hl fun e=>hk (by rw [← zE5 h0,← e,zE5 h])]
theorem rise_set {next:Int} {x:Tmr}:∀ {l:List Tmr} {n:Nat} {k:Int} (hn:n < l.length),x.seq = l[n].seq → x.what = l[n].what → x.whom = l[n].whom → vL next (l.set n x) k = vL next l k
 | [],n,k,hn,_,_,_=>by simp at hn
 | y :: ys,0,k,hn,h1,h2,h3=>by simp at h1 h2 h3;simp [vL,h1,h2,h3]
 | y :: ys,n + 1,k,hn,h1,h2,h3=>by
   simp only [List.set_cons_succ,vL]
   rw [rise_set (l:=ys) (n:=n) (by simpa using hn) (by simpa using h1) (by simpa using h2) (by simpa using h3)]
theorem cnt_set {l:List Tmr} {n:Int} {x:Tmr} (h0:0 ≤ n) (h1:n < l.length):(l.set n.toNat x).countP (·.armed) + (if (gt l n).armed = true then 1 else 0) = l.countP (·.armed) + (if x.armed = true then 1 else 0):=by
 have hn:n.toNat < l.length:=by omega
 rw [List.countP_set hn]
 have e:gt l n = l[n.toNat]:=gt_get h0 h1
 rw [e]
 have hc:l[n.toNat].armed = true → 0 < l.countP (·.armed):=fun h=>List.countP_pos_iff.2 ⟨_,List.getElem_mem hn,h⟩
 by_cases h:l[n.toNat].armed = true
 ·have:=hc h
  simp only [h,if_true]
  by_cases h2:x.armed = true <;> simp [h2] <;> omega
 ·simp [h]
theorem wo_ok {h:List Twg} {s:Int} (hh:isH h) (ho:once h) (hx:∃ x ∈ h,x.seq = s):isH (wo h s) ∧ ∃ x ∈ h,x.seq = s ∧ (h.map ky).Perm (ky x :: (wo h s).map ky):=woN_ok _ _ _ (Nat.le_refl _) hh ho hx
theorem zQ7 {t:Tms} (h:vZ t = true) (s:Int):(∃ x ∈ t.heap,x.seq = s) ↔ zF2 t s = true:=by
 obtain ⟨h1,h2,⟨h3,h4,h5⟩,h6,h7,h8⟩:=uO.1 h
 constructor
 ·rintro ⟨x,hx,rfl⟩
  obtain ⟨a,b,c⟩:=h8 _ (List.mem_map.2 ⟨x,hx,rfl⟩)
  simp only [ky] at a b
  simp [zF2,a,b]
 ·intro hs
  simp only [zF2,Bool.and_eq_true,decide_eq_true_eq] at hs
  obtain ⟨hs0,hs1⟩:=hs
  have hl:=zB2 t.list s
  -- the places of the heap's elements are all armed places
  refine Classical.byContradiction fun hno => ?_
  have hno:∀ x ∈ t.heap,x.seq ≠ s:=fun x hx e=>hno ⟨x,hx,e⟩
  have hA:∀ (m:List Twg) (l:List Tmr),once m → (∀ k ∈ m.map ky,okAt l k) → m.length ≤ l.countP (·.armed):=by
   intro m
   induction m with
   | nil=>intro l _ _;simp
   | cons x m ih =>
     intro l ho hk
     obtain ⟨o1,o2⟩:=List.pairwise_cons.1 ho
     obtain ⟨a,b,c⟩:=hk (ky x) (by simp)
     simp only [ky] at a b c
     have hlx:=zB2 l x.seq
     have hc:=cnt_set (x:=(offT (gt l (yE l x.seq)))) a hlx
     simp only [b,offT_a,if_true,Bool.false_eq_true,if_false] at hc
     have:=ih (l.set (yE l x.seq).toNat (offT (gt l (yE l x.seq)))) o2 (fun k hkm=>by
      obtain ⟨y,hy,rfl⟩:=List.mem_map.1 hkm
      rw [zQ0 a (by exact zE5 a) (by simp only [ky];exact fun e=>o1 y hy e.symm)]
      exact hk _ (by simp;exact .inr ⟨y,hy,rfl⟩))
     simp only [List.length_cons];omega
  have hc:=cnt_set (x:=(offT (gt t.list (yE t.list s)))) hs0 hl
  simp only [hs1,offT_a,if_true,Bool.false_eq_true,if_false] at hc
  have:=hA t.heap (t.list.set (yE t.list s).toNat (offT (gt t.list (yE t.list s)))) h4 (fun k hk=>by
   obtain ⟨y,hy,rfl⟩:=List.mem_map.1 hk
   rw [zQ0 hs0 (by exact zE5 hs0) (hno y hy)]
   exact h8 _ (List.mem_map.2 ⟨y,hy,rfl⟩))
  omega
theorem tmsOk_stop {t:Tms} {s:Int} (h:vZ t = true):vZ (vO t s) = true ∧ ∀ x ∈ (vO t s).heap,x.seq ≠ s:=by
 by_cases hb:zF2 t s = true
 ·have hh:=(zQ7 h s).2 hb
  obtain ⟨h1,h2,⟨h3,h4,h5⟩,h6,h7,h8⟩:=uO.1 h
  obtain ⟨g1,x,hx,hxs,hp⟩:=wo_ok h5 h4 hh
  simp only [zF2,Bool.and_eq_true,decide_eq_true_eq] at hb
  obtain ⟨hs0,hs1⟩:=hb
  have hl:=zB2 t.list s
  have e:vO t s = ⟨wo t.heap s,t.list.set (yE t.list s).toNat (offT (gt t.list (yE t.list s))),t.next⟩:=by simp [vO,zF2,hs0,hs1]
  have hlen:=hp.length_eq
  simp only [List.length_map,List.length_cons] at hlen
  have hon:once (x :: wo t.heap s):=once_ky (l:=x :: wo t.heap s) (m:=t.heap) (by simpa using hp.symm) h4
  obtain ⟨o1,o2⟩:=List.pairwise_cons.1 hon
  have hno:∀ y ∈ wo t.heap s,y.seq ≠ s:=fun y hy e=>o1 y hy (hxs.trans e.symm)
  have hc:=cnt_set (x:=(offT (gt t.list (yE t.list s)))) hs0 hl
  simp only [hs1,offT_a,if_true,Bool.false_eq_true,if_false] at hc
  rw [e]
  refine ⟨uO.2 ⟨h1,by simpa using h2,⟨by simp only;omega,o2,g1⟩,?_,by simp only;omega,fun k hk => ?_⟩,hno⟩
  ·simp only
   rw [rise_set (by omega) ?_ ?_ ?_]
   ·exact h6
   all_goals
    simp only [gt_get hs0 hl,offT]
  ·obtain ⟨y,hy,rfl⟩:=List.mem_map.1 hk
   rw [zQ0 hs0 (by exact zE5 hs0) (hno y hy)]
   exact h8 _ (hp.mem_iff.2 (List.mem_cons_of_mem _ hk))
 ·have e:vO t s = t:=by simp [vO,hb]
  rw [e]
  exact ⟨h,fun x hx e=>hb ((zQ7 h s).1 ⟨x,hx,e⟩)⟩
theorem stopT_seq {t:Tms} {s:Int} (h0:0 ≤ yE t.list s) (s':Int):yE (vO t s).list s' = yE t.list s':=by
 unfold vO;split
 ·exact tmsAt_set h0 (by exact zE5 h0) s'
 ·rfl
theorem stopT_next {t:Tms} {s:Int}:(vO t s).next = t.next:=by unfold vO;split <;> rfl
theorem stopT_len {t:Tms} {s:Int}:(vO t s).list.length = t.list.length:=by unfold vO;split <;> simp
def TmsQ (p:Nat) (X:WI) (w':Wld) (b:Bool) (h:zW) (nx:Nat) (r:AV) (h':zW) (nx':Nat):Prop :=
 r = .bool b ∧ (∃ X':WI,h' p = some (.obj (zB7 X' w')) ∧ WV h' X' w' ∧ ∀ id ∈ X'.ids,id ∈ X.ids ∨ nx ≤ id ∧ id < nx') ∧ ∀ j,j < nx → j ≠ p → j ∉ X.ids → h' j = h j
theorem stopT_not {w:Wld} {s:Int} (h:¬ zF2 w.timers s = true):({ w with timers:=vO w.timers s }:Wld) = w:=by
 have:vO w.timers s = w.timers:=by simp [vO,h]
 rw [this]
end Go.AE
end
section
/- A node is created: what the request makes of a world, in plain terms. -/
namespace Go.AE
def mkW (w:Wld) (t:List Nod) (l:List Evt) (s:Spr) (u:Tms):Wld:=⟨w.now,w.progs,t,l,s,u,w.afters,w.tasks,w.groups,w.sights,w.began,w.rang⟩
def setT (w:Wld) (t:Tms):Wld:=mkW w w.tree w.events w.spread t
end Go.AE
end
section
/- Abstract machine: rows of a world are laid anew, under new names. -/
namespace Go.AE
theorem WV.lay {h h':zW} {X X':WI} {w w':Wld} (v:WV h X w) (hpg:X'.pg = X.pg) (hgr:X'.gr = X.gr) (hnd:X'.ids.Nodup) (hr:∀ k,k < 15 → h' (X'.top k) = some (zK2 X w' k)) (hp:w'.progs = w.progs) (hg:w'.groups = w.groups)
 (hf:∀ j,j ∈ X.pg ∨ j ∈ X.gr → h' j = h j):WV h' X' w' where
 top k hk:=by
  have:zK2 X' w' k = zK2 X w' k:=by unfold zK2;rw [hpg,hgr]
  rw [this];exact hr k hk
 pl:=by rw [hp,hpg];exact v.pl
 gl:=by rw [hg,hgr];exact v.gl
 prog j p id h1 h2:=by
  rw [hp] at h1
  rw [hpg] at h2
  rw [hf id (.inl (List.mem_of_getElem? h2))]
  exact v.prog j p id h1 h2
 wait j g id h1 h2:=by
  rw [hg] at h1
  rw [hgr] at h2
  rw [hf id (.inr (List.mem_of_getElem? h2))]
  exact v.wait j g id h1 h2
 nd:=hnd
def ChgQ (p:Nat) (X:WI) (w':Wld) (v:AV) (h:zW) (nx:Nat) (r:AV) (h':zW) (nx':Nat):Prop :=
 r = v ∧ (∃ X':WI,h' p = some (.obj (zB7 X' w')) ∧ WV h' X' w' ∧ ∀ id ∈ X'.ids,id ∈ X.ids ∨ nx ≤ id ∧ id < nx') ∧ ∀ j,j < nx → j ≠ p → j ∉ X.ids → h' j = h j
end Go.AE
end
