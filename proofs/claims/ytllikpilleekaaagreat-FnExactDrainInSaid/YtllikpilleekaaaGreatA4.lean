/- An abstract machine over the model: its states, its steps, and that what it shows holds of the model. -/
import Derived.Test.YtllikpilleekaaaGreatA3
set_option linter.unusedVariables false
set_option linter.unusedSimpArgs false
set_option linter.deprecated false
section
/- The first timer rings: what the request makes of a world, in plain terms. -/
namespace Go.AE
def zH2 (t:Tms) (now:Int):Bool:=decide (t.heap.length ≠ 0) && isDue now (gt t.heap 0).due
def vI (t:Tms):Tmr:=gt t.list (yM t.list (gt t.heap 0).seq)
def uK (t:Tms) (now:Int):Tms:=if zH2 t now = true then uE t (gt t.heap 0).seq else t
def zJ1 (t:Tms) (now:Int):Tmr:=if zH2 t now = true then vI t else default
def dropT (t:Tms) (s:Int):Tms:=if 0 ≤ yM t.list s then ⟨t.heap,t.list.eraseIdx (yM t.list s).toNat,t.next⟩ else t
def uC (t:Tms) (s:Int):Tms:=dropT (uE t s) s
def zJ2 (k:Tsk) (reg:Int):Tsk:=⟨k.prog,k.pc + 1,0,0,0,-1,reg,k.group,k.err⟩
def uY (k:Tsk) (reg:Int):Tsk:=if zD2 k = true then (if k.state ≠ 2 ∧ zD2 (zJ2 k reg) = true then zJ2 k reg else k) else default
def zP7 (w:Wld) (t:Tms) (k:List Tsk) (r:List Int):Wld:=⟨w.now,w.progs,w.tree,w.events,w.spread,t,w.afters,k,w.groups,w.sights,w.began,r⟩
def ringEv (w:Wld) (x:Tmr):Evt:=⟨x.whom,2,0,w.now⟩
def wakes (w:Wld) (x:Tmr):Bool:=(gt w.tasks x.whom).why == 2 && (gt w.tasks x.whom).timer == x.seq
def zE2 (w:Wld):Wld :=
 if zH2 w.timers w.now = true then
  (if (vI w.timers).what = 0 then cutW (zQ0 w (uC (uK w.timers w.now) (vI w.timers).seq)) (ringEv w (vI w.timers))
   else if (vI w.timers).what = 1 then zP7 w (uC (uK w.timers w.now) (vI w.timers).seq) (if wakes w (vI w.timers) = true then w.tasks.set (vI w.timers).whom.toNat (uY (gt w.tasks (vI w.timers).whom) 1) else w.tasks) w.rang
   else zP7 w (uK w.timers w.now) w.tasks (if (vI w.timers).what = 2 ∧ w.rang.length < 2000 then w.rang ++ [(vI w.timers).whom] else w.rang))
 else w
def zP5 (w:Wld):Bool:=zH2 w.timers w.now
def zR4 (w:Wld):Wld:=askW w (zE2 w) (zP5 w)
def ringB (w:Wld):Bool:=askB w (zE2 w) (zP5 w)
theorem eventsOk_add {t:List Nod} {l:List Evt} {e:Evt}:zZ t (l ++ [e]) = (zZ t l && fits t l e):=by
 by_cases h:zZ t (l ++ [e]) = true
 ·obtain ⟨h1,h2⟩:=eventsOk_snoc h
  rw [h,h1,h2];rfl
 ·have h':zZ t (l ++ [e]) = false:=by simpa using h
  rw [h']
  by_cases h1:zZ t l = true
  ·by_cases h2:fits t l e = true
   ·exfalso;apply h
    have ht:=zB3 h1
    simp only [zZ,ht,Bool.true_and,zH1]
    intro i hi
    simp only [List.length_append,List.length_singleton] at hi
    rw [show ((0:Int) + (i:Int)).toNat = i by omega]
    by_cases hil:i < l.length
    ·rw [List.getElem_append_left hil,List.take_append_of_le_length (by omega)]
     exact zF5 h1 i hil
    ·obtain rfl:i = l.length:=by omega
     rw [List.getElem_append_right (by omega)]
     simpa using h2
   ·simp [h2]
  ·simp [h1]
theorem cut_same {w:Wld} {e:Evt} (h:zZ w.tree w.events = true):zM7 w e = zG6 w e ∧ cutW w e = cutWS w e:=by
 have h1:zM7 w e = zG6 w e:=by simp only [zM7,zG6,eventsOk_add,h,Bool.true_and]
 exact ⟨h1,by unfold cutW cutWS;rw [h1]⟩
section
variable {t:Tms} {now:Int}
theorem fire_at (h:vR t = true) (hl:t.heap.length ≠ 0):0 ≤ yM t.list (gt t.heap 0).seq ∧ zG7 t (gt t.heap 0).seq = true ∧ (vI t).seq = (gt t.heap 0).seq:=by
 obtain ⟨-,-,-,-,-,h8⟩:=zC7.1 h
 have hm:gt t.heap 0 ∈ t.heap:=zD0 (Int.le_refl 0) (by omega)
 have:=h8 (ky (gt t.heap 0)) (List.mem_map.2 ⟨_,hm,rfl⟩)
 have h1:0 ≤ yM t.list (gt t.heap 0).seq:=this.1
 have h2:(gt t.list (yM t.list (gt t.heap 0).seq)).armed = true:=this.2.1
 exact ⟨h1,by simp [zG7,h1,h2],zG2 h1⟩
theorem fireT_ok (h:vR t = true):vR (uK t now) = true:=by
 unfold uK;split
 ·exact (tmsOk_stop h).1
 ·exact h
end
theorem tmr_one (x:Tmr):∀ y ∈ zX x,y.one = true:=fun y hy=>by simp [zX] at hy;rcases hy with rfl | rfl | rfl | rfl | rfl <;> rfl
@[simp] theorem tmr_take_one {l:List Tmr} {i:Nat}:(∀ x,x ∈ List.take i (List.map zX l) → ∀ y,y ∈ x → y.one = true) = True:=by
 simp only [eq_iff_iff,iff_true]
 intro x hx y hy
 obtain ⟨z,_,rfl⟩:=List.mem_map.1 (List.mem_of_mem_take hx)
 exact tmr_one z y hy
def wldRT (X:WI) (w:Wld) (T:Tms):List AV:=(((uL X w).set 6 (.view true 3 (T.heap.map yD))).set 7 (.view true 5 (T.list.map zX))).set 8 (.int .i64 T.next)
theorem WV.frosM {h:yF} {X:WI} {w:Wld} (v:WV h X w) (T:Tms):Fros h (wldRT X w T) (wldV (fun _=>true) (zQ0 w T)):=by
 have t:=v.top
 unfold wldRT uL wldV
 simp only [List.set_cons_succ,List.set_cons_zero,zQ0,mkW]
 refine .cons (.same _) (.cons (Fro.zip v.pl (t 0 (by omega)) rfl fun j x k hx hk=>.cons (.ref0 (v.prog j x k hx hk) (by simp)) .nil) (.cons (.ref0 (t 1 (by omega)) (by simp)) (.cons (.ref0 (t 2 (by omega)) (by simp)) (.cons (.ref0 (t 3 (by omega)) (by simp))
  (.cons (.ref0 (t 4 (by omega)) (by simp)) (.cons (.same _) (.cons (.same _) (.cons (.same _) (.cons (.ref0 (t 7 (by omega)) (by simp)) (.cons (.ref0 (t 8 (by omega)) (by simp)) (.cons (.ref0 (t 9 (by omega)) (by simp))
  (.cons (.ref0 (t 10 (by omega)) (by simp)) (.cons (Fro.zip v.gl (t 11 (by omega)) rfl fun j x k hx hk=>.cons (.same _) (.cons (.same _) (.cons (.same _) (.cons (.ref0 (v.wait j x k hx hk) (by simp)) (.cons (.same _) .nil))))) (.cons (.ref0 (t 12 (by omega)) (by simp))
  (.cons (.ref0 (t 13 (by omega)) (by simp)) (.cons (.ref0 (t 14 (by omega)) (by simp)) .nil))))))))))))))))
theorem ring_ask {w:Wld} (hw:zA8 w = true) (hB:zP5 w = true):zR4 w = (if zA8 (zE2 w) = true then zE2 w else w) ∧ ringB w = zA8 (zE2 w):=by
 constructor
 ·simp [zR4,askW,hw,hB]
 ·simp [ringB,askB,hw,hB]
end Go.AE
end
