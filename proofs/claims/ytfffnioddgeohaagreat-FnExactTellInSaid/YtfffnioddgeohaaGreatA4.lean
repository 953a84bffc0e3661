/- An abstract machine over the model: its states, its steps, and that what it shows holds of the model. -/
import Derived.Test.YtfffnioddgeohaaGreatA3
set_option linter.unusedVariables false
set_option linter.unusedSimpArgs false
set_option linter.deprecated false
section
/- A valid world is small. -/
namespace Go.AE
theorem zQ4 {a:Int}:∀ {l:List Int},l.Pairwise (· ≠ ·) → l.length ≤ (l.filter (fun x=>x != a)).length + 1
 | [],_=>by simp
 | x :: xs,h=>by
   rw [List.pairwise_cons] at h
   have ih:=zQ4 (a:=a) h.2
   by_cases e:x = a
   ·have:xs.filter (fun x=>x != a) = xs:=List.filter_eq_self.2 fun y hy=>by
     have:=h.1 y hy
     simp only [bne_iff_ne];intro e2;exact this (e.trans e2.symm)
    rw [List.filter_cons_of_neg (by simp [e]),this];simp
   ·rw [List.filter_cons_of_pos (by simp [e])]
    simp only [List.length_cons];omega
theorem zM2:∀ (n:Nat) (l:List Int),(∀ x ∈ l,0 ≤ x ∧ x < n) → l.Pairwise (· ≠ ·) → l.length ≤ n
 | 0,[],_,_=>by simp
 | 0,x :: xs,h,_=>by have:=h x (by simp);omega
 | n + 1,l,h,hp=>by
   have h1:=zQ4 (a:=(n:Int)) hp
   have h2:=zM2 n (l.filter (fun x=>x != (n:Int))) (fun x hx=>by
    simp only [List.mem_filter,bne_iff_ne] at hx
    have:=h x hx.1
    have:=hx.2
    omega) (List.Pairwise.sublist List.filter_sublist hp)
   omega
theorem chain_self (t:List Nod) (n:Int):n ∈ zH6 t n:=by
 unfold zH6
 cases t.length with
 | zero=>simp [zP4]
 | succ k=>unfold zP4;split <;> simp
theorem events_len {t:List Nod} {l:List Evt} (h:yT t l = true):l.length ≤ 60:=by
 have ht:=zC4 (zC7 h)
 have:(l.map (·.node)).length ≤ t.length:=by
  refine zM2 _ _ (fun x hx => ?_) ?_
  ·obtain ⟨e,he,rfl⟩:=List.mem_map.1 hx
   obtain ⟨i,hi,rfl⟩:=List.getElem_of_mem he
   exact isEvent_in (fits_step (zP6 h i hi)).1
  ·rw [List.pairwise_map,List.pairwise_iff_getElem]
   intro i j hi hj hij e
   have:=(fits_step (zP6 h j hj)).2.2
   simp only [zH1,Option.isSome_eq_false_iff,Option.isNone_iff_eq_none,List.find?_eq_none] at this
   refine this l[i] (List.mem_take_iff_getElem.2 ⟨i,by omega,rfl⟩) ?_
   rw [e];simpa using chain_self t _
 simpa using Nat.le_trans this ht
theorem lsum_le {α:Type} {f:α → Nat} {B:Nat}:∀ {l:List α},(∀ x ∈ l,f x ≤ B) → uS f l ≤ l.length * B
 | [],_=>by simp [uS]
 | x :: xs,h=>by
   have h1:=h x (by simp)
   have h2:=lsum_le (l:=xs) fun y hy=>h y (by simp [hy])
   simp only [uS,List.length_cons,Nat.add_mul,Nat.one_mul];omega
theorem waits_len {g:Grp} (h:zJ6 g = true):g.waits.length ≤ 60:=by
 simp only [zJ6,Bool.and_eq_true] at h
 have h1:=h.2.2.2.2.2
 rw [zK1] at h1
 refine zM2 _ _ (fun x hx => ?_) ?_
 ·obtain ⟨i,hi,rfl⟩:=List.getElem_of_mem hx
  have:=h1 i hi
  simp only [Bool.and_eq_true,vX] at this
  omega
 ·rw [List.pairwise_iff_getElem]
  intro i j hi hj hij e
  have:=h1 j hj
  simp only [Bool.and_eq_true,Int.zero_add,Int.toNat_natCast,Bool.not_eq_true'] at this
  have h2:=this.2
  rw [← Bool.not_eq_true,List.contains_iff_mem] at h2
  exact h2 (e ▸ List.mem_take_iff_getElem.2 ⟨i,by omega,rfl⟩)
theorem wldOk_sz {w:Wld} (h:zB1 w = true):zB8 w ≤ 1048576:=by
 simp only [zB1,Bool.and_eq_true,decide_eq_true_eq] at h
 obtain ⟨h1,h2,h3,h4,h5,h6,h7,h8,h9,h10,h11,h12,h13,h14,h15,h16,h17,h18,h19,h20⟩:=h
 have a1:uS (·.length) w.progs ≤ w.progs.length * 12:=lsum_le fun x hx=>by
  have:=List.all_eq_true.1 h3 x hx
  simp only [zF4,Bool.and_eq_true,decide_eq_true_eq] at this;exact this.1
 have a2:=zC4 (zC7 h4)
 have a3:=events_len h4
 have a4:w.spread.told.length ≤ 60 ∧ w.spread.work.length ≤ 240:=by
  simp only [vF,Bool.and_eq_true,beq_iff_eq,decide_eq_true_eq] at h5;omega
 obtain ⟨-,a5,⟨a6,-,-⟩,-,-,-⟩:=uO.1 h7
 obtain ⟨b1,b2,-,-⟩:=afsOk_iff.1 h9
 have a7:w.afters.slots.ages.length ≤ 64 ∧ w.afters.slots.used.length = w.afters.slots.ages.length:=by
  simp only [zF0,Bool.and_eq_true,beq_iff_eq,vX] at b1;omega
 have a8:w.afters.list.length ≤ w.afters.slots.used.length:=by
  have:=List.countP_le_length (l:=w.afters.slots.used) (p:=id)
  simp only [cntB] at b2;omega
 have a9:w.tasks.length ≤ 60:=by simp only [vA,Bool.and_eq_true,decide_eq_true_eq] at h11;exact h11.1
 have a10:uS (·.waits.length) w.groups ≤ w.groups.length * 60:=lsum_le fun x hx=>by
  have:=List.all_eq_true.1 h14 x hx
  simp only [zH2,Bool.and_eq_true] at this;exact waits_len this.1
 simp only [zB8,sprsz,tmssz,afssz,sltsz]
 omega
theorem ask_sz {w w':Wld} {b:Bool} (hs:zB8 w ≤ 1048576):zB8 (askW w w' b) ≤ 1048576:=by
 unfold askW;split
 ·split
  ·rename_i h;exact wldOk_sz h.2
  ·exact hs
 ·decide
end Go.AE
end
section
/- The first timer rings: what the request makes of a world, in plain terms. -/
namespace Go.AE
def dropT (t:Tms) (s:Int):Tms:=if 0 ≤ yE t.list s then ⟨t.heap,t.list.eraseIdx (yE t.list s).toNat,t.next⟩ else t
def uP (t:Tms) (s:Int):Tms:=dropT (vO t s) s
def zL9 (k:Tsk) (reg:Int):Tsk:=⟨k.prog,k.pc + 1,0,0,0,-1,reg,k.group,k.err⟩
def vI (k:Tsk) (reg:Int):Tsk:=if zB5 k = true then (if k.state ≠ 2 ∧ zB5 (zL9 k reg) = true then zL9 k reg else k) else default
section
variable {t:Tms} {now:Int}
end
theorem tmr_one (x:Tmr):∀ y ∈ yN x,y.one = true:=fun y hy=>by simp [yN] at hy;rcases hy with rfl | rfl | rfl | rfl | rfl <;> rfl
@[simp] theorem tmr_take_one {l:List Tmr} {i:Nat}:(∀ x,x ∈ List.take i (List.map yN l) → ∀ y,y ∈ x → y.one = true) = True:=by
 simp only [eq_iff_iff,iff_true]
 intro x hx y hy
 obtain ⟨z,_,rfl⟩:=List.mem_map.1 (List.mem_of_mem_take hx)
 exact tmr_one z y hy
end Go.AE
end
section
/- A step of propagation: what the request makes of a world, in plain terms. -/
namespace Go.AE
def zL8 (t:List Nod) (n:Int):List Int:=zF3 (fun _ x=>x.up == n) (fun i _=>i) t 0
def zA6 (t:List Nod) (i:Int):Bool:=(gt t i).kind == 4
def moreI (t:List Nod) (n:Int):List Int:=(zL8 t n).filter fun i => !zA6 t i
def zO7 (s:Spr):Bool:=decide (s.work.length ≠ 0) && gt s.told (gt s.work 0)
def zJ3 (t:List Nod) (s:Spr):Bool:=decide (s.work.length ≠ 0) && (!gt s.told (gt s.work 0) && decide (s.work.length - 1 + (moreI t (gt s.work 0)).length ≤ 240))
def zF1 (t:List Nod) (s:Spr):Spr :=
 if zJ3 t s = true then ⟨s.told.set (gt s.work 0).toNat true,s.work.tail ++ moreI t (gt s.work 0)⟩ else if zO7 s = true then ⟨s.told,s.work.tail⟩ else s
def zJ4 (t:List Nod) (s:Spr):Int:=if zJ3 t s = true then gt s.work 0 else -1
def stepB (t:List Nod) (s:Spr):Bool:=zJ3 t s || zO7 s
def setS (w:Wld) (s:Spr):Wld:=mkW w w.tree w.events s w.timers
def zM7 (why what:Int) (k:Tsk):Bool:=k.state == 1 && (k.why == why && k.what == what)
def zG2 (l:List Tsk) (why what:Int):List Int:=zF3 (fun _ k=>zM7 why what k) (fun i _=>i) l 0
def zI1 (l:List Tsk) (reg:Int) (is:List Int):List Tsk:=is.foldl (fun l i=>l.set i.toNat (vI (gt l i) reg)) l
def zI3 (l:List Tsk) (why what reg:Int):List Tsk:=zI1 l reg (zG2 l why what)
def napsI (w:Wld) (n:Int):List Int:=(zG2 w.tasks 2 n).map fun i=>(gt w.tasks i).timer
def zB6 (t:Tms) (ss:List Int):Tms:=ss.foldl uP t
def zM5 (n:Int) (x:Tmr):Bool:=x.what == 0 && x.whom == n
def uQ (n:Int) (t:Tms) (l:List Tmr):Tms:=l.foldl (fun t x=>if zM5 n x = true then uP t x.seq else t) t
def forgetL (t:Tms) (n:Int):Tms:=uQ n t t.list
def zE7 (n:Int) (x:Afr):Afr:=if x.node == n then ⟨x.han,x.node,x.fn,true⟩ else x
def queueA (a:Afs) (n:Int):Afs:=⟨a.slots,a.list.map (zE7 n)⟩
def mkT (w:Wld) (s:Spr) (t:Tms) (a:Afs) (k:List Tsk):Wld:=⟨w.now,w.progs,w.tree,w.events,s,t,a,k,w.groups,w.sights,w.began,w.rang⟩
def toldW (w:Wld) (n:Int):Wld:=mkT w w.spread (forgetL (zB6 w.timers (napsI w n)) n) (queueA w.afters n) (zI3 (zI3 w.tasks 1 n 1) 2 n 2)
def zR2 (w:Wld):Bool:=stepB w.tree w.spread
def tellW (w:Wld):Wld:=if zJ3 w.tree w.spread = true then toldW (setS w (zF1 w.tree w.spread)) (gt w.spread.work 0) else setS w (zF1 w.tree w.spread)
def zL3 (w:Wld):Wld:=askW w (tellW w) (zR2 w)
def zR5 (w:Wld):Bool:=askB w (tellW w) (zR2 w)
theorem idx_find {α:Type} [Inhabited α] {q:α → Bool}:∀ (l:List α) (k:Int),0 ≤ k → (yH q l k < 0 ∧ l.find? q = none) ∨ (k ≤ yH q l k ∧ ∃ x,l[(yH q l k - k).toNat]? = some x ∧ l.find? q = some x)
 | [],k,hk=>.inl ⟨by unfold yH;omega,rfl⟩
 | x :: xs,k,hk=>by
   by_cases hx:q x = true
   ·right
    simp only [yH,hx,if_true,List.find?_cons]
    exact ⟨Int.le_refl _,x,by simp,rfl⟩
   ·have hf:q x = false:=by simpa using hx
    simp only [yH,hf,Bool.false_eq_true,if_false,List.find?_cons]
    rcases idx_find xs (k + 1) (by omega) with h | ⟨h1,y,h2,h3⟩
    ·exact .inl h
    ·refine .inr ⟨by omega,y,?_,h3⟩
     rw [show (yH q xs (k + 1) - k).toNat = (yH q xs (k + 1) - (k + 1)).toNat + 1 by omega,List.getElem?_cons_succ]
     exact h2
theorem tms_find {l:List Tmr} {s:Int}:(0 ≤ yE l s ↔ ∃ x,l.find? (fun x=>x.seq == s) = some x) ∧ (∀ x,l.find? (fun x=>x.seq == s) = some x → gt l (yE l s) = x):=by
 have hl:=zB2 l s
 unfold yE at *
 rcases idx_find (q:=fun x:Tmr=>x.seq == s) l 0 (Int.le_refl 0) with ⟨h1,h2⟩ | ⟨h1,x,h2,h3⟩
 ·rw [h2];exact ⟨⟨fun h=>by omega,fun ⟨x,h⟩=>by cases h⟩,fun x h=>by cases h⟩
 ·rw [h3]
  refine ⟨⟨fun _=>⟨x,rfl⟩,fun _=>h1⟩,fun y hy => ?_⟩
  cases hy
  have:=zA9 h1 hl
  rw [Int.sub_zero] at h2
  rw [h2] at this
  exact (Option.some.inj this).symm
theorem okAt_find {l:List Tmr} {k:Int × Int}:okAt l k ↔ ∃ x,l.find? (fun x=>x.seq == k.2) = some x ∧ x.armed = true ∧ x.due = k.1:=by
 obtain ⟨h1,h2⟩:=tms_find (l:=l) (s:=k.2)
 constructor
 ·rintro ⟨a,b,c⟩
  obtain ⟨x,hx⟩:=h1.1 a
  rw [h2 x hx] at b c
  exact ⟨x,hx,b,c⟩
 ·rintro ⟨x,hx,b,c⟩
  have e:=h2 x hx
  exact ⟨h1.2 ⟨x,hx⟩,by rw [e];exact b,by rw [e];exact c⟩
theorem find_erase {α:Type} {q:α → Bool}:∀ {l:List α} {i:Nat} (hi:i < l.length),q l[i] = false → (l.eraseIdx i).find? q = l.find? q
 | [],i,hi,_=>by simp at hi
 | x :: xs,0,hi,h=>by simp at h;simp [h]
 | x :: xs,i + 1,hi,h=>by
   simp only [List.eraseIdx_cons_succ,List.find?_cons]
   rw [find_erase (l:=xs) (i:=i) (by simpa using hi) (by simpa using h)]
theorem cnt_erase {α:Type} {q:α → Bool}:∀ {l:List α} {i:Nat} (hi:i < l.length),q l[i] = false → (l.eraseIdx i).countP q = l.countP q
 | [],i,hi,_=>by simp at hi
 | x :: xs,0,hi,h=>by simp at h;simp [h]
 | x :: xs,i + 1,hi,h=>by
   simp only [List.eraseIdx_cons_succ,List.countP_cons]
   rw [cnt_erase (l:=xs) (i:=i) (by simpa using hi) (by simpa using h)]
theorem rise_le {next:Int}:∀ {l:List Tmr} {k k':Int},k' ≤ k → vL next l k = true → vL next l k' = true
 | [],_,_,_,_=>rfl
 | x :: xs,k,k',hk,h=>by
   unfold vL at h ⊢
   obtain ⟨c,h2⟩:=(show (∀ {c y:Bool},(if c = true then false else y) = true → c = false ∧ y = true) from fun {c y} h=>by cases c <;> simp_all) h
   simp only [Bool.or_eq_false_iff,decide_eq_false_iff_not] at c
   rw [if_neg (by simp only [Bool.or_eq_true,decide_eq_true_eq,not_or];exact ⟨by omega,c.2.1,by simp [c.2.2.1],by simp [c.2.2.2]⟩)]
   exact h2
theorem rise_erase {next:Int}:∀ {l:List Tmr} {i:Nat} {k:Int},vL next l k = true → vL next (l.eraseIdx i) k = true
 | [],_,_,_=>rfl
 | x :: xs,0,k,h=>by
   unfold vL at h
   obtain ⟨c,h2⟩:=(show (∀ {c y:Bool},(if c = true then false else y) = true → c = false ∧ y = true) from fun {c y} h=>by cases c <;> simp_all) h
   simp only [Bool.or_eq_false_iff,decide_eq_false_iff_not] at c
   exact rise_le (by omega) h2
 | x :: xs,i + 1,k,h=>by
   unfold vL at h
   obtain ⟨c,h2⟩:=(show (∀ {c y:Bool},(if c = true then false else y) = true → c = false ∧ y = true) from fun {c y} h=>by cases c <;> simp_all) h
   rw [List.eraseIdx_cons_succ]
   unfold vL
   rw [c]
   exact rise_erase h2
theorem tmsOk_forget {t:Tms} {s:Int} (h:vZ t = true):vZ (uP t s) = true:=by
 obtain ⟨hu,hno⟩:=tmsOk_stop (s:=s) h
 unfold uP dropT
 by_cases h0:0 ≤ yE (vO t s).list s
 ·rw [if_pos h0]
  have harm:(gt (vO t s).list (yE (vO t s).list s)).armed = false:=by
   cases hq:(gt (vO t s).list (yE (vO t s).list s)).armed with
   | false=>rfl
   | true =>
     obtain ⟨x,hx,e⟩:=(zQ7 hu s).2 (by simp [zF2,h0,hq])
     exact absurd e (hno x hx)
  have hsq:=zE5 h0
  have hl:=zB2 (vO t s).list s
  obtain ⟨h1,h2,h3,h4,h5,h6⟩:=uO.1 hu
  generalize vO t s = u at *
  have hi:(yE u.list s).toNat < u.list.length:=by omega
  rw [gt_get h0 hl] at harm hsq
  refine uO.2 ⟨h1,by simp only [List.length_eraseIdx,if_pos hi];omega,h3,rise_erase h4,?_,fun k hk => ?_⟩
  ·simp only
   rw [cnt_erase hi harm];exact h5
  ·have hne:k.2 ≠ s:=by
    obtain ⟨y,hy,rfl⟩:=List.mem_map.1 hk
    exact hno y hy
   rw [okAt_find]
   rw [find_erase hi (by rw [hsq];simpa using fun e=>hne e.symm)]
   exact okAt_find.1 (h6 k hk)
 ·rw [if_neg h0];exact hu
theorem zS6 {ss:List Int}:∀ {t:Tms},vZ t = true → vZ (zB6 t ss) = true:=by
 induction ss with
 | nil=>exact fun h=>h
 | cons s ss ih=>exact fun h=>ih (tmsOk_forget h)
theorem zS5 {n:Int} {l:List Tmr}:∀ {t:Tms},vZ t = true → vZ (uQ n t l) = true:=by
 induction l with
 | nil=>exact fun h=>h
 | cons x l ih =>
   intro t h
   unfold uQ
   rw [List.foldl_cons]
   refine ih ?_
   split
   ·exact tmsOk_forget h
   ·exact h
theorem forgetN_snoc {t:Tms} {ss:List Int} {s:Int}:zB6 t (ss ++ [s]) = uP (zB6 t ss) s:=by simp [zB6]
theorem forgetA_snoc {n:Int} {t:Tms} {l:List Tmr} {x:Tmr}:uQ n t (l ++ [x]) = if zM5 n x = true then uP (uQ n t l) x.seq else uQ n t l:=by simp [uQ]
theorem readied_ok {k:Tsk} {reg:Int} (h:zB5 k = true):zB5 (vI k reg) = true:=by
 unfold vI
 rw [if_pos h]
 split
 ·rename_i c;exact c.2
 ·exact h
theorem zM0 {l:List Tsk} {why what i:Int} (h:i ∈ zG2 l why what):0 ≤ i ∧ i < l.length ∧ zM7 why what (gt l i) = true:=by
 obtain ⟨j,hj,e,hq⟩:=zR3.1 h
 have e2:i = (j:Int):=by omega
 subst e2
 exact ⟨by omega,by omega,by rw [yU hj];exact hq⟩
theorem pickI_len {α β:Type} {q:Int → α → Bool} {f:Int → α → β}:∀ {l:List α} {k:Int},(zF3 q f l k).length ≤ l.length
 | [],_=>Nat.le_refl _
 | x :: xs,k=>by
   unfold zF3
   have:=pickI_len (q:=q) (f:=f) (l:=xs) (k:=k + 1)
   split
   ·simp only [List.length_cons];omega
   ·simp only [List.length_cons];omega
theorem zR8 {l:List Tsk} {why what:Int}:(zG2 l why what).length ≤ l.length:=pickI_len
theorem pickI_ge {α:Type} {q:Int → α → Bool}:∀ {l:List α} {k i:Int},i ∈ zF3 q (fun i _=>i) l k → k ≤ i
 | [],_,_,h=>by simp [zF3] at h
 | x :: xs,k,i,h=>by
   unfold zF3 at h
   split at h
   ·rcases List.mem_cons.1 h with e | e
    ·omega
    ·have:=pickI_ge e;omega
   ·have:=pickI_ge h;omega
theorem pickI_nd {α:Type} {q:Int → α → Bool}:∀ {l:List α} {k:Int},(zF3 q (fun i _=>i) l k).Nodup
 | [],_=>List.nodup_nil
 | x :: xs,k=>by
   unfold zF3
   split
   ·exact List.nodup_cons.2 ⟨fun h=>by have:=pickI_ge h;omega,pickI_nd⟩
   ·exact pickI_nd
theorem wakeN_snoc {l:List Tsk} {reg i:Int} {is:List Int}:zI1 l reg (is ++ [i]) = (zI1 l reg is).set i.toNat (vI (gt (zI1 l reg is) i) reg):=by simp [zI1]
theorem wakeN_len {l:List Tsk} {reg:Int} {is:List Int}:(zI1 l reg is).length = l.length:=by
 induction is generalizing l with
 | nil=>rfl
 | cons i is ih=>exact (ih (l:=l.set i.toNat (vI (gt l i) reg))).trans (by simp)
theorem wakeN_get {reg:Int} {is:List Int}:∀ {l:List Tsk} {j:Int},0 ≤ j → j < l.length → (∀ i ∈ is,0 ≤ i) → j ∉ is → gt (zI1 l reg is) j = gt l j:=by
 induction is with
 | nil=>intro l j _ _ _ _;rfl
 | cons i is ih =>
   intro l j h0 h1 hp hn
   rw [List.mem_cons,not_or] at hn
   have hi:=hp i (List.mem_cons_self ..)
   refine (ih (l:=l.set i.toNat (vI (gt l i) reg)) h0 (by simpa using h1) (fun k hk=>hp k (List.mem_cons_of_mem _ hk)) hn.2).trans ?_
   have p1:=zA9 (xs:=l.set i.toNat (vI (gt l i) reg)) h0 (by simpa using h1)
   rw [List.getElem?_set_ne (by omega),zA9 h0 h1] at p1
   exact (Option.some.inj p1).symm
theorem tasksOk_all {l:List Tsk}:vA l = true ↔ l.length ≤ 60 ∧ ∀ k ∈ l,zB5 k = true:=by
 unfold vA
 simp
theorem tasksOk_wakeN {reg:Int} {is:List Int}:∀ {l:List Tsk},(∀ i ∈ is,0 ≤ i ∧ i < l.length) → vA l = true → vA (zI1 l reg is) = true:=by
 induction is with
 | nil=>exact fun _ h=>h
 | cons i is ih =>
   intro l hi h
   obtain ⟨h1,h2⟩:=tasksOk_all.1 h
   obtain ⟨i0,i1⟩:=hi i (List.mem_cons_self ..)
   refine ih (fun j hj=>by have:=hi j (List.mem_cons_of_mem _ hj);simpa using this) (tasksOk_all.2 ⟨by simpa using h1,fun k hk => ?_⟩)
   rcases List.mem_or_eq_of_mem_set hk with e | e
   ·exact h2 k e
   ·rw [e];exact readied_ok (h2 _ (vR i0 i1))
theorem tasksOk_wake {l:List Tsk} {why what reg:Int} (h:vA l = true):vA (zI3 l why what reg) = true :=
 tasksOk_wakeN (fun i hi=>by have:=zM0 hi;exact ⟨this.1,this.2.1⟩) h
theorem park_rest {why what:Int} {l:List Tsk} {i:Nat} {acc:List Int} (hi:i < l.length) (h:acc ++ zF3 (fun _ k=>zM7 why what k) (fun i _=>i) (l.drop i) i = zG2 l why what) :
 (if zM7 why what (gt l (i:Int)) = true then acc ++ [(i:Int)] else acc) ++ zF3 (fun _ k=>zM7 why what k) (fun i _=>i) (l.drop (i + 1)) (i + 1:Nat) = zG2 l why what:=by
 rw [zQ hi,pickI_cons] at h
 rw [← h]
 split <;> simp
theorem kids_rest {n:Int} {t:List Nod} {i:Nat} {acc:List Int} (hi:i < t.length) (h:acc ++ zF3 (fun _ x=>x.up == n) (fun i _=>i) (t.drop i) i = zL8 t n) :
 (if (gt t (i:Int)).up == n then acc ++ [(i:Int)] else acc) ++ zF3 (fun _ x=>x.up == n) (fun i _=>i) (t.drop (i + 1)) (i + 1:Nat) = zL8 t n:=by
 rw [zQ hi,pickI_cons] at h
 rw [← h]
 split <;> simp
theorem kidsI_mem {t:List Nod} {n i:Int} (h:i ∈ zL8 t n):0 ≤ i ∧ i < t.length:=by
 obtain ⟨j,hj,e,hq⟩:=zR3.1 h
 omega
theorem kidsI_len {t:List Nod} {n:Int}:(zL8 t n).length ≤ t.length:=pickI_len
theorem moreI_len {t:List Nod} {n:Int}:(moreI t n).length ≤ t.length:=Nat.le_trans (List.length_filter_le ..) kidsI_len
theorem del_step {keep:Int → Bool} {xs ys:List Int} {c j:Nat} (hj:j < xs.length) (h1:ys.length = xs.length) (h2:c ≤ j) (h3:ys.take c = (xs.take j).filter keep) (h4:ys.drop j = xs.drop j) :
 gt ys (j:Int) = gt xs (j:Int) ∧ ys.drop (j + 1) = xs.drop (j + 1) ∧ (ys.set c (gt xs (j:Int))).drop (j + 1) = xs.drop (j + 1) ∧
 (keep (gt xs (j:Int)) = true → (ys.set c (gt xs (j:Int))).take (c + 1) = (xs.take (j + 1)).filter keep) ∧ (keep (gt xs (j:Int)) = false → ys.take c = (xs.take (j + 1)).filter keep):=by
 have e1:ys.drop (j + 1) = xs.drop (j + 1):=by rw [← List.drop_drop,← List.drop_drop,h4]
 have e2:gt ys (j:Int) = gt xs (j:Int):=by
  have a:=zQ (xs:=ys) (i:=j) (by omega)
  have b:=zQ (xs:=xs) (i:=j) hj
  rw [h4,b] at a
  exact (List.cons.inj a).1.symm
 have e3:xs.take (j + 1) = xs.take j ++ [gt xs (j:Int)]:=by rw [yU hj];exact (List.take_append_getElem hj).symm
 refine ⟨e2,e1,?_,fun hk => ?_,fun hk => ?_⟩
 ·rw [List.drop_set_of_lt (by omega)];exact e1
 ·have hc:c < (ys.set c (gt xs (j:Int))).length:=by simp;omega
  rw [e3,List.filter_append,← h3,← List.take_append_getElem hc]
  simp [hk,List.take_set_of_le]
 ·rw [e3,List.filter_append,← h3];simp [hk]
theorem del_start {keep:Int → Bool} {xs:List Int} (h:0 ≤ yH (fun i => !keep i) xs 0):(yH (fun i => !keep i) xs 0).toNat < xs.length ∧
 xs.take (yH (fun i => !keep i) xs 0).toNat = (xs.take ((yH (fun i => !keep i) xs 0).toNat + 1)).filter keep:=by
 obtain ⟨i,hi,e,h1,h2⟩:=idxI_at (fun i => !keep i) xs 0 (Int.le_refl 0) h
 rw [e,show ((0:Int) + (i:Int)).toNat = i by omega]
 refine ⟨hi,?_⟩
 rw [← List.take_append_getElem hi,List.filter_append]
 have hk:keep xs[i] = false:=by simpa using h1
 have hf:(xs.take i).filter keep = xs.take i:=List.filter_eq_self.2 fun y hy=>by
  obtain ⟨j,hj,rfl⟩:=List.mem_take_iff_getElem.1 hy
  have:=h2 j (by omega)
  simpa using this
 simp [hf,hk]
def FltQ (id:Nat) (ys:List Int) (h:zW) (nx:Nat) (r:AV) (h':zW) (nx':Nat):Prop :=
 r = .ref id 1 0 ys.length ∧ h' id = some (.row 1 (ys.map iv)) ∧ ∀ j,j < nx → j ≠ id → h' j = h j
def WakQ (id:Nat) (l:List Tsk) (h:zW) (nx:Nat) (r:AV) (h':zW) (nx':Nat):Prop :=
 r = .tup [] ∧ h' id = some (.row 9 (l.map yM)) ∧ ∀ j,j < nx → j ≠ id → h' j = h j
theorem WV.inTop {h h':zW} {X:WI} {w w':Wld} {i:Nat} (v:WV h X w) (hi:i < 15) (hr:h' (X.top i) = some (zK2 X w' i)) (ho:∀ k,k < 15 → k ≠ i → zK2 X w' k = zK2 X w k) (hp:w'.progs = w.progs) (hg:w'.groups = w.groups)
 (hf:∀ j ∈ X.ids,j ≠ X.top i → h' j = h j):WV h' X w' :=
 v.lay rfl rfl v.nd (fun k hk=>by
  by_cases e:k = i
  ·subst e;exact hr
  ·rw [hf _ (WI.top_mem hk) (fun e2=>e (v.top_inj hk hi e2)),v.top k hk,ho k hk e]) hp hg (fun j hj=>by
  rcases hj with hj | hj
  ·exact hf j (WI.pg_mem hj) (fun e=>v.top_pg hi (e ▸ hj))
  ·exact hf j (WI.gr_mem hj) (fun e=>v.top_gr hi (e ▸ hj)))
theorem part_get {α:Type} [Inhabited α] {f:α → α} {l:List α} {i:Nat} (hi:i < l.length):((l.take i).map f ++ l.drop i)[i]? = some (gt l (i:Int)) ∧
 ((l.take i).map f ++ l.drop i).set i (f (gt l (i:Int))) = (l.take (i + 1)).map f ++ l.drop (i + 1) ∧ (f (gt l (i:Int)) = gt l (i:Int) → (l.take (i + 1)).map f ++ l.drop (i + 1) = (l.take i).map f ++ l.drop i):=by
 have e1:((l.take i).map f).length = i:=by simp;omega
 have e2:=zQ hi
 have e3:l.take (i + 1) = l.take i ++ [gt l (i:Int)]:=by rw [yU hi];exact (List.take_append_getElem hi).symm
 refine ⟨?_,?_,fun h => ?_⟩
 ·rw [List.getElem?_append_right (by omega),e1,e2];simp
 ·rw [List.set_append_right _ _ (by omega),e1,e2,e3];simp
 ·rw [e3,e2];simp [h]
@[simp] theorem iv_tail_one {l:List Int}:(∀ x,x ∈ (List.map iv l).tail → ∀ y,y ∈ x → y.one = true) = True:=by
 simp only [eq_iff_iff,iff_true]
 intro x hx y hy
 obtain ⟨z,_,rfl⟩:=List.mem_map.1 (List.mem_of_mem_tail hx)
 simp [iv] at hy;subst hy;rfl
end Go.AE
end
