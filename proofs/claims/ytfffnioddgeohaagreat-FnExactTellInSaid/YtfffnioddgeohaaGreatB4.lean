/- Contracts of the seat's functions: what each answers, for all arguments. -/
import Derived.Test.YtfffnioddgeohaaGreatB3
import Derived.Test.YtfffnioddgeohaaGreatB2
import Derived.Test.YtfffnioddgeohaaGreatA3
import Derived.Test.YtfffnioddgeohaaGreatA4
set_option linter.unusedVariables false
set_option linter.unusedSimpArgs false
set_option linter.deprecated false
section
/- Contracts of the program's request to make a step of propagation: tasks go on, functions are queued. -/
set_option maxRecDepth 8000
set_option maxHeartbeats 4000000
namespace Go.AE.Tryz
open Go.Proofs
open List renaming map_take → qt,map_drop → qd,map_tail → ql
theorem m_wake {id:Nat} {l:List Tsk} {why what reg:Int} (hl60:l.length ≤ 60):AC ctx.P 178 [.ref id 9 0 l.length,.int .i64 why,.int .i64 what,.int .i64 reg] (fun h _=>h id = some (.row 9 (l.map yM))) (WakQ id (zI3 l why what reg)):=by
 have hpk:=c_parkedOn (p:=false) (l:=l) (why:=why) (what:=what) hl60
 have hps:∀ i ∈ zG2 l why what,0 ≤ i ∧ i < l.length:=fun i hi=>by have:=zM0 hi;exact ⟨this.1,this.2.1⟩
 have hpl:=zR8 (l:=l) (why:=why) (what:=what)
 unfold zI3
 generalize zG2 l why what = ps at *
 have hlim:ps.length ≤ LIM:=by simp only [LIM];omega
 refine AC.o okC Tryz.func178 rfl fun h nx hfr hnx hpre => ?_
 have i1:id < nx:=hnx id (by rw [hpre];simp)
 try simp [-qt,-qd,-ql,rgs,hpre]
 refine yG hpk (cl_vmap fun x c hc=>by simp [iv] at hc;subst hc;exact .int _ _) ?hb ?_
 case hb=>exact .cons (.ref0 hpre (by simp) (by simp)) (.cons (.same _) (.cons (.same _) .nil))
 try simp [-qt,-qd,-ql,rgs,hpre]
 repeat' first | done | (((with_reducible show zT _ _ _ _ _ _);refine zA rfl fun _ => ?_) <;> simp [-qt,-qd,-ql,rgs,hpre]) | fail
 refine zR (h0:=h) (nx0:=0) [9,15,16,17,18,19,20,21,22,23,24,25,26,27,28] (ps.length) (fun (i:Nat) a=>[(15,.int .i64 i)]) (fun (i:Nat) (_:Unit) h' n'=>nx ≤ n' ∧ h' id = some (.row 9 ((zI1 l reg (ps.take i)).map yM)) ∧ ∀ j,j < nx → j ≠ id → h' j = h j) (()) (by simp) ?_ (fun j hj=>absurd hj (by omega)) (Nat.zero_le _) ?_
 ·exact ⟨by omega,by simpa [zI1] using hpre,fun j _ _=>rfl⟩
 ·intro i a tm h' n' hle hJ hE hn' next hnx
  try dsimp only at hJ
  simp [-qt,-qd,-ql]
  obtain ⟨g0,g1,g2⟩:=hJ
  by_cases hi:i < ps.length
  ·obtain ⟨p0,p1⟩:=hps _ (vR (xs:=ps) (z:=(i:Int)) (by omega) (by omega))
   have hwl:=wakeN_len (l:=l) (reg:=reg) (is:=ps.take i)
   have hsn:zI1 l reg (ps.take (i + 1)) = (zI1 l reg (ps.take i)).set (gt ps (i:Int)).toNat (vI (gt (zI1 l reg (ps.take i)) (gt ps (i:Int))) reg):=by
    rw [← wakeN_snoc,yU hi,List.take_append_getElem hi]
   generalize zI1 l reg (ps.take i) = m at *
   have hgm:(m.map yM)[(gt ps (i:Int)).toNat]? = some (yM (gt m (gt ps (i:Int)))):=by rw [List.getElem?_map,zA9 p0 (by omega)];rfl
   have hrd:=c_Readied (k:=gt m (gt ps (i:Int))) (reg:=reg) (fun h=>by simp only [zB5,Bool.and_eq_true,vX] at h;omega)
   try simp [-qt,-qd,-ql,rgs,iv,g1,hi,yM]
   repeat' first | done | ((first | ((with_reducible show zK _ _ _ _ _ _ _);refine zH rfl omA omA ?_) | (((with_reducible show zK _ _ _ _ (.ref _ _ _ _) _ _);refine zV rfl (by omega) (by omega) ?_)) | (((with_reducible show zK8 _ _ _ _ _ _ _ _);refine vT hgm ?_))) <;> simp [-qt,-qd,-ql,rgs,iv,g1,hi,yM]) | fail
   refine zB hrd ?_
   generalize vI (gt m (gt ps (i:Int))) reg = y at *
   try simp [-qt,-qd,-ql,rgs,iv,g1]
   repeat' first | done | ((((with_reducible show zK _ _ _ _ (.ref _ _ _ _) _ _);refine zV rfl (by omega) (by omega) ?_)) <;> simp [-qt,-qd,-ql,rgs,iv,g1]) | fail
   refine zN8 (sz:=9) (xs:=m.map yM) (vs:=yM y) (cells:=yM (gt m (gt ps (i:Int)))) g1 rfl rfl rfl hgm rfl ?_
   try simp [-qt,-qd,-ql,rgs]
   refine hnx.go () (by omega) (by simp [zI hi hlim]) (by simp) (fun j hj=>absurd hj (by omega)) (Nat.zero_le _) ?_
   refine ⟨by omega,by rw [zJ,hsn,List.map_set],fun j hj hji => ?_⟩
   rw [zF _ _ _ _ hji];exact g2 j hj hji
  ·have hi2:¬ ((i:Int) < ps.length):=by omega
   rw [List.take_of_length_le (by omega)] at g1
   try simp [-qt,-qd,-ql,rgs,hi,hi2]
   exact ⟨rfl,g1,g2⟩
theorem m_queue {X:WI} {w:Wld} {p:Nat} {n:Int} (hl:w.afters.list.length ≤ 64):AC ctx.P 181 [.ptr p 9,.int .i64 n] (fun h _=>h p = some (.obj (zB7 X w)) ∧ WV h X w)
 (ChgQ p X (mkT w w.spread w.timers (queueA w.afters n) w.tasks) (.tup [])):=by
 refine AC.o okC Tryz.func181 rfl fun h nx hfr hnx hpre => ?_
 obtain ⟨o1,V1⟩:=hpre
 have hp:p < nx:=hnx p (by rw [o1];simp)
 have hpX:=V1.obj o1
 have hin:=V1.lt hnx
 have t9:=V1.top 9 (by omega)
 simp only [zK2] at t9
 have o0:=o1
 simp only [zB7] at o1
 have l9:=hin _ (WI.top_mem (X:=X) (k:=9) (by omega))
 have p9:p ≠ X.top 9:=fun e=>hpX (e ▸ WI.top_mem (by omega))
 have hlim:w.afters.list.length ≤ LIM:=by simp only [LIM];omega
 try simp [-qt,-qd,-ql,rgs,o1]
 repeat' first | done | (((with_reducible show zT _ _ _ _ _ _);refine zA rfl fun _ => ?_) <;> simp [-qt,-qd,-ql,rgs,o1]) | fail
 refine zR (h0:=h) (nx0:=0) [4,10,11,12,13,14,15,16,17,18,19,20,21,22,23,24,25,26,27,28,29,30] (w.afters.list.length) (fun (i:Nat) a=>[(10,.int .i64 i)]) (fun (i:Nat) (_:Unit) h' n'=>nx ≤ n' ∧ h' (X.top 9) = some (.row 5 (((w.afters.list.take i).map (zE7 n) ++ w.afters.list.drop i).map vB)) ∧ ∀ j,j < nx → j ≠ X.top 9 → h' j = h j) (()) (by simp) ?_ (fun j hj=>absurd hj (by omega)) (Nat.zero_le _) ?_
 ·exact ⟨by omega,by simpa using t9,fun j _ _=>rfl⟩
 ·intro i a tm h' n' hle hJ hE hn' next hnx
  try dsimp only at hJ
  simp [-qt,-qd,-ql]
  obtain ⟨g0,g1,g2⟩:=hJ
  have q1:=(g2 p hp p9).trans o1
  by_cases hi:i < w.afters.list.length
  ·obtain ⟨c1,c2,c3⟩:=part_get (f:=zE7 n) hi
   generalize (w.afters.list.take i).map (zE7 n) ++ w.afters.list.drop i = ys at *
   have hgm:(ys.map vB)[i]? = some (vB (gt w.afters.list (i:Int))):=by rw [List.getElem?_map,c1];rfl
   cases hq:(gt w.afters.list (i:Int)).node == n with
   | true =>
     have hqf:zE7 n (gt w.afters.list (i:Int)) = ⟨(gt w.afters.list (i:Int)).han,(gt w.afters.list (i:Int)).node,(gt w.afters.list (i:Int)).fn,true⟩:=by simp [zE7,hq]
     try simp [-qt,-qd,-ql,rgs,q1,g1,hi,hq,vB]
     repeat' first | done | ((first | (((with_reducible show zK _ _ _ _ (.ref _ _ _ _) _ _);refine zV rfl (by omega) (by omega) ?_)) | (((with_reducible show zK8 _ _ _ _ _ _ _ _);refine vT hgm ?_))) <;> simp [-qt,-qd,-ql,rgs,q1,g1,hi,hq,vB]) | fail
     refine zH4 (sz:=5) (xs:=ys.map vB) (cells:=vB (gt w.afters.list (i:Int))) g1 (by simp) rfl (by decide) hgm ?_
     rw [show splice (vB (gt w.afters.list (i:Int))) 4 [.bool true] = vB (zE7 n (gt w.afters.list (i:Int))) by rw [hqf];rfl,← List.map_set,c2]
     try simp [-qt,-qd,-ql,rgs]
     refine hnx.go () (by omega) (by simp [zI hi hlim]) (by simp) (fun j hj=>absurd hj (by omega)) (Nat.zero_le _) ?_
     refine ⟨by omega,by rw [zJ];simp,fun j hj hji => ?_⟩
     rw [zF _ _ _ _ hji];exact g2 j hj hji
   | false =>
     have hqf:zE7 n (gt w.afters.list (i:Int)) = gt w.afters.list (i:Int):=by simp [zE7,hq]
     try simp [-qt,-qd,-ql,rgs,q1,g1,hi,hq,vB]
     repeat' first | done | ((first | (((with_reducible show zK _ _ _ _ (.ref _ _ _ _) _ _);refine zV rfl (by omega) (by omega) ?_)) | (((with_reducible show zK8 _ _ _ _ _ _ _ _);refine vT hgm ?_))) <;> simp [-qt,-qd,-ql,rgs,q1,g1,hi,hq,vB]) | fail
     refine hnx.go () (by omega) (by simp [zI hi hlim]) (by simp) (fun j hj=>absurd hj (by omega)) (Nat.zero_le _) ?_
     exact ⟨by omega,by rw [c3 hqf];exact g1,g2⟩
  ·have hi2:¬ ((i:Int) < w.afters.list.length):=by omega
   rw [List.take_of_length_le (by omega),List.drop_eq_nil_of_le (by omega),List.append_nil] at g1
   try simp [-qt,-qd,-ql,rgs,hi,hi2]
   refine ⟨rfl,⟨X,(g2 p hp p9).trans (o0.trans (by simp [zB7,mkT,queueA])),V1.inTop (i:=9) (by omega) (by simpa [zK2,mkT,queueA] using g1) (fun k hk hne => ?_) rfl rfl (fun j hj hne=>g2 j (hin j hj) hne),fun id hm=>.inl hm⟩,fun j hj hjp hjX=>g2 j hj (fun e=>hjX (e ▸ WI.top_mem (by omega)))⟩
   rcases lt15 hk with rfl | rfl | rfl | rfl | rfl | rfl | rfl | rfl | rfl | rfl | rfl | rfl | rfl | rfl | rfl <;> first | rfl | exact absurd rfl hne
end Go.AE.Tryz
end
section
/- Contracts of the program's request to make a step of propagation: timers are forgotten; the whole. -/
set_option maxRecDepth 8000
set_option maxHeartbeats 4000000
namespace Go.AE.Tryz
open Go.Proofs
open List renaming map_take → qt,map_drop → qd,map_tail → ql
theorem c_ofNode {x:Tmr} {n:Int}:PC ctx.P 180 [.agg (yN x),.vptr [.int .i64 n]] (.bool (zM5 n x)):=by
 refine PC.o okC Tryz.func180 rfl (.bool _) fun h nx hnx => ?_
 try simp [-qt,-qd,-ql,rgs,yN,zM5]
 repeat' first | done | ((with_reducible refine zL ?_ ?_) <;> intro qb <;> (have qp:=qb;try simp only [psq] at qp) <;> simp [-qt,-qd,-ql,rgs,yN,zM5,qb])
theorem m_forgetAll {X:WI} {w:Wld} {p q:Nat} {n:Int} (ht:vZ w.timers = true):AC ctx.P 179 [.ptr p 0,.fn 180 [.ptr q 0]]
 (fun h _=>h p = some (.obj (zB7 X w)) ∧ WV h X w ∧ h q = some (.obj [.int .i64 n]) ∧ q ≠ p) (ChgQ p X (setT w (forgetL w.timers n)) (.tup [])):=by
 have hfg:=fun X (t:Tms) (s:Int) (h:vZ t = true)=>m_forget (X:=X) (p:=p) (w:=setT w t) (s:=s) h
 have hok:=fun L=>zS5 (n:=n) (l:=L) ht
 obtain ⟨-,u2,-,-,-,-⟩:=uO.1 ht
 unfold forgetL
 refine AC.o okC Tryz.func179 rfl fun h nx hfr hnx hpre => ?_
 obtain ⟨o1,V1,oq,hqp⟩:=hpre
 have hp:p < nx:=hnx p (by rw [o1];simp)
 have hq:q < nx:=hnx q (by rw [oq];simp)
 have hpX:=V1.obj o1
 have hqX:=V1.obj oq
 have hin:=V1.lt hnx
 have t6:=V1.top 6 (by omega)
 simp only [zK2] at t6
 have o0:=o1
 simp only [zB7] at o1
 have hlim:w.timers.list.length ≤ LIM:=by simp only [LIM];omega
 try simp [-qt,-qd,-ql,rgs,o1]
 refine zF9 (zS7 (p:=false) (xs:=w.timers.list) (by simp only [yW];omega)) (fun f=>by simp;exact .ref ..) (fun e he=>by rw [List.mem_singleton] at he;subst he;exact rowE_cl fun x c hc=>by simp [yN] at hc;rcases hc with rfl | rfl | rfl | rfl | rfl <;> first | exact .int _ _ | exact .bool _) (.cons (.ref0 t6 (by simp) (by simp)) .nil) ?_
 try simp [-qt,-qd,-ql,rgs,o1]
 repeat' first | done | (((with_reducible show zT _ _ _ _ _ _);refine zA rfl fun _ => ?_) <;> simp [-qt,-qd,-ql,rgs,o1]) | fail
 refine zR (h0:=h) (nx0:=0) [5,13,14,15,16,17,18,19,20,21,22,23,24,25,26] (w.timers.list.length) (fun (i:Nat) a=>[(13,.int .i64 i)]) (fun (i:Nat) (a:WI) h' n'=>nx + 8 < n' ∧ h' p = some (.obj (zB7 a (setT w (uQ n w.timers (w.timers.list.take i))))) ∧ WV h' a (setT w (uQ n w.timers (w.timers.list.take i))) ∧ (∀ id ∈ a.ids,id ∈ X.ids ∨ nx ≤ id ∧ id < n') ∧ nx + 8 ∉ a.ids ∧ h' (nx + 8) = some (.row 5 (w.timers.list.map yN)) ∧ ∀ j,j < nx → j ≠ p → j ∉ X.ids → h' j = h j) (X) (by simp) ?_ (fun j hj=>absurd hj (by omega)) (Nat.zero_le _) ?_
 ·refine ⟨by omega,?_,?_,fun id hm=>.inl hm,fun hm=>by have:=hin _ hm;omega,zJ ..,fun j hj _ _=>by rw [zF _ _ _ _ (by omega)]⟩
  ·rw [zF _ _ _ _ (by omega)];exact o0
  ·exact V1.keep fun id hm=>by have:=hin id hm;rw [zF _ _ _ _ (by omega)]
 ·intro i a tm h' n' hle hJ hE hn' next hnx
  try dsimp only at hJ
  simp [-qt,-qd,-ql]
  obtain ⟨g0,g1,g2,g3,g4,g5,g6⟩:=hJ
  have q1:=(g6 q hq hqp hqX).trans oq
  have hpa:=g2.obj g1
  have hlo:∀ j ∈ a.ids,j < n':=fun j hj=>by rcases g3 j hj with r | r;(have:=hin j r;omega);omega
  by_cases hi:i < w.timers.list.length
  ·have hgm:(w.timers.list.map yN)[i]? = some (yN (gt w.timers.list (i:Int))):=by rw [List.getElem?_map,yU hi,List.getElem?_eq_getElem hi];rfl
   have hsn:uQ n w.timers (w.timers.list.take (i + 1)) = if zM5 n (gt w.timers.list (i:Int)) = true then uP (uQ n w.timers (w.timers.list.take i)) (gt w.timers.list (i:Int)).seq else uQ n w.timers (w.timers.list.take i):=by
    rw [← forgetA_snoc,yU hi,List.take_append_getElem hi]
   have hokT:=hok (w.timers.list.take i)
   generalize uQ n w.timers (w.timers.list.take i) = T at *
   try simp [-qt,-qd,-ql,rgs,g5,hi,yN]
   repeat' first | done | ((first | (((with_reducible show zK _ _ _ _ (.ref _ _ _ _) _ _);refine zV rfl (by omega) (by omega) ?_)) | (((with_reducible show zK8 _ _ _ _ _ _ _ _);refine vT hgm ?_))) <;> simp [-qt,-qd,-ql,rgs,g5,hi,yN]) | fail
   refine yG (c_ofNode (x:=gt w.timers.list (i:Int)) (n:=n)) (.bool _) ?hb ?_
   case hb=>exact .cons (.same _) (.cons (.ptr0 ((zF _ _ _ _ (by omega)).trans ((zF _ _ _ _ (by omega)).trans q1)) (.cons (.same _) .nil)) .nil)
   cases hof:zM5 n (gt w.timers.list (i:Int)) with
   | true =>
     rw [hof,if_pos rfl] at hsn
     try simp [-qt,-qd,-ql,rgs]
     repeat' first | done | ((with_reducible refine zP (i:=4) [(0,[],[]),(1,[],[]),(2,[],[]),(3,[],[]),(4,[],[]),(5,[],[])] (by kernel_rfl) ?_) <;> simp [-qt,-qd,-ql,rgs]) | fail
     refine yP (hfg a T _ hokT) ⟨?_,g2.keep fun id hm => ?_⟩ ?_
     ·dsimp only;rw [zF _ _ _ _ (by omega),zF _ _ _ _ (by omega)];exact g1
     ·have:=hlo id hm
      dsimp only
      rw [zF _ _ _ _ (by omega),zF _ _ _ _ (by omega)]
     rintro r h2 n2 ⟨rfl,⟨X2,o2,V2,hid2⟩,hf2⟩ hle2 hfr2
     dsimp only at hid2 hf2 hle2
     try simp [-qt,-qd,-ql,rgs]
     refine hnx.go X2 (by omega) (by simp [zI hi hlim]) (by simp) (fun j hj=>absurd hj (by omega)) (Nat.zero_le _) ?_
     rw [hsn]
     refine ⟨by omega,o2,V2,fun id hm => ?_,fun hm => ?_,?_,fun j hj hjp hjX => ?_⟩
     ·rcases hid2 id hm with r | r
      ·rcases g3 id r with r2 | r2
       ·exact .inl r2
       ·right;omega
      ·right;omega
     ·rcases hid2 _ hm with r | r
      ·exact g4 r
      ·omega
     ·rw [hf2 _ (by omega) (by omega) g4,zF _ _ _ _ (by omega),zF _ _ _ _ (by omega)];exact g5
     ·have hja:j ∉ a.ids:=fun hm=>by
       rcases g3 j hm with r | r
       ·exact hjX r
       ·omega
      rw [hf2 j (by omega) hjp hja,zF _ _ _ _ (by omega),zF _ _ _ _ (by omega)]
      exact g6 j hj hjp hjX
   | false =>
     rw [hof] at hsn
     simp only [Bool.false_eq_true,if_false] at hsn
     try simp [-qt,-qd,-ql,rgs]
     refine hnx.go a (by omega) (by simp [zI hi hlim]) (by simp) (fun j hj=>absurd hj (by omega)) (Nat.zero_le _) ?_
     rw [hsn]
     refine ⟨by omega,?_,g2.keep fun id hm => ?_,fun id hm => ?_,g4,?_,fun j hj hjp hjX => ?_⟩
     ·rw [zF _ _ _ _ (by omega),zF _ _ _ _ (by omega)];exact g1
     ·have:=hlo id hm
      rw [zF _ _ _ _ (by omega),zF _ _ _ _ (by omega)]
     ·rcases g3 id hm with r | r
      ·exact .inl r
      ·right;omega
     ·rw [zF _ _ _ _ (by omega),zF _ _ _ _ (by omega)];exact g5
     ·rw [zF _ _ _ _ (by omega),zF _ _ _ _ (by omega)];exact g6 j hj hjp hjX
  ·have hi2:¬ ((i:Int) < w.timers.list.length):=by omega
   rw [List.take_of_length_le (by omega)] at g1 g2
   try simp [-qt,-qd,-ql,rgs,hi,hi2]
   exact ⟨rfl,⟨a,g1,g2,fun id hm=>by rcases g3 id hm with r | r;(exact .inl r);(right;omega)⟩,g6⟩
theorem d_Tell {w:Wld} (hw:zB1 w = true):DoOk ctx.P 63 [] w (tellW w) (zR2 w):=by
 have he:=wldOk_ev hw
 have ht:=zC7 he
 have hs:vF w.spread w.tree = true:=(zE8 hw).2.2.2.2.1
 have htm:vZ w.timers = true:=(zE8 hw).2.2.2.2.2.2.1
 have htk:vA w.tasks = true:=wldOk_tasks hw
 have hst:=fun X p=>m_step (X:=X) (w:=w) (p:=p) ht hs
 intro p X
 refine AC.o okC Tryz.func63 rfl fun h nx hfr hnx hpre => ?_
 obtain ⟨o1,V1,-⟩:=hpre
 have hp:p < nx:=hnx p (by rw [o1];simp)
 have hin:=V1.lt hnx
 have o0:=o1
 simp only [zB7] at o1
 try simp [-qt,-qd,-ql,rgs,o1]
 repeat' first | done | ((with_reducible refine zP (i:=1) [(0,[],[]),(1,[],[]),(2,[],[]),(3,[],[]),(4,[],[]),(5,[],[]),(6,[],[11]),(7,[],[11]),(8,[],[]),(9,[],[]),(10,[],[]),(11,[],[]),(12,[],[]),(13,[],[])] (by kernel_rfl) ?_) <;> simp [-qt,-qd,-ql,rgs,o1]) | fail
 refine ⟨by omega,hfr _ (by omega),?_⟩
 refine yP (hst X p) ⟨o0,V1⟩ ?_
 rintro r h1 n1 ⟨rfl,⟨X1,o2,V2,hid⟩,hf1⟩ hle1 hfr1
 dsimp only at hid hf1 hle1
 have hin1:∀ j ∈ X1.ids,j < n1:=fun j hj=>by rcases hid j hj with r | r;(have:=hin j r;omega);omega
 unfold tellW zR2
 cases hT:zJ3 w.tree w.spread with
 | true =>
   have hB:stepB w.tree w.spread = true:=by simp [stepB,hT]
   have hN:zJ4 w.tree w.spread = gt w.spread.work 0:=by simp [zJ4,hT]
   have hn0:(gt w.spread.work 0 < 0) = False:=by
    have hs2:=hs
    simp only [vF,Bool.and_eq_true,Bool.not_eq_true',List.any_eq_false,Bool.not_eq_true] at hs2
    have hl:w.spread.work.length ≠ 0:=by intro e;simp [zJ3,e] at hT
    have:=hs2.2.2 _ (vR (xs:=w.spread.work) (Int.le_refl 0) (by omega))
    have:uF (gt w.spread.work 0) w.tree = true:=by simpa using this
    simp only [zE4] at this
    simp only [eq_iff_iff,iff_false];omega
   have hva:w.afters.list.length ≤ 64:=(afs_facts (zE8 hw).2.2.2.2.2.2.2.2.1).2.1
   have v1:vZ (setS w (zF1 w.tree w.spread)).timers = true:=htm
   have v2:vA (setS w (zF1 w.tree w.spread)).tasks = true:=htk
   have v3:(setS w (zF1 w.tree w.spread)).afters.list.length ≤ 64:=hva
   rw [hB,hN]
   simp only [if_true]
   generalize setS w (zF1 w.tree w.spread) = v at *
   generalize gt w.spread.work 0 = n0 at *
   have o3:=o2
   simp only [zB7] at o3
   have m10:=hin1 _ (WI.top_mem (X:=X1) (k:=10) (by omega))
   have n12:nx + 12 ∉ X1.ids:=fun hm=>by rcases hid _ hm with r | r;(have:=hin _ r;omega);omega
   have k1:∀ k,(p = n1 + k) = False:=fun k=>by simp only [eq_iff_iff,iff_false];omega
   have k2:(p = nx + 12) = False:=by simp only [eq_iff_iff,iff_false];omega
   have k3:∀ k,(nx + 12 = n1 + k) = False:=fun k=>by simp only [eq_iff_iff,iff_false];omega
   try simp [-qt,-qd,-ql,rgs,hn0,o3,k1,k2,k3]
   repeat' first | done | ((with_reducible refine zP (i:=5) [(0,[],[]),(1,[],[]),(2,[],[]),(3,[],[]),(4,[],[]),(7,[],[]),(5,[],[]),(6,[],[])] (by kernel_rfl) ?_) <;> simp [-qt,-qd,-ql,rgs,hn0,o3,k1,k2,k3]) | fail
   generalize hH:upd (upd _ (nx + 12) _) (n1 + 6) _ = H
   have Hp:H p = some (.obj (zB7 X1 v)):=by
    rw [← hH]
    repeat rw [zF _ _ _ _ (by omega)]
    exact o2
   have HV:WV H X1 v:=V2.keep fun id hm=>by
    have:=hin1 id hm
    have hne:id ≠ nx + 12:=fun e=>n12 (e ▸ hm)
    rw [← hH]
    repeat rw [zF _ _ _ _ (by first | exact hne | omega)]
   have Hq:H (nx + 12) = some (.obj [.int .i64 n0]):=by rw [← hH,zF _ _ _ _ (by omega),zJ]
   have Hl:H (n1 + 6) = some (.row 1 []):=by rw [← hH,zJ]
   have HF:∀ j,j < nx → j ≠ p → j ∉ X.ids → H j = h j:=fun j hj hjp hjX=>by
    rw [← hH]
    repeat rw [zF _ _ _ _ (by omega)]
    exact hf1 j (by omega) hjp hjX
   clear hH o3 o2 V2 hf1
   have h60:=zK6 v2
   have hpk:=c_parkedOn (p:=false) (l:=v.tasks) (why:=2) (what:=n0) h60
   have hps:∀ i ∈ zG2 v.tasks 2 n0,0 ≤ i ∧ i < v.tasks.length:=fun i hi=>by have:=zM0 hi;exact ⟨this.1,this.2.1⟩
   have hpl:=zR8 (l:=v.tasks) (why:=2) (what:=n0)
   have hss:napsI v n0 = (zG2 v.tasks 2 n0).map (fun i=>(gt v.tasks i).timer):=rfl
   unfold toldW
   generalize zG2 v.tasks 2 n0 = ps at *
   generalize napsI v n0 = ss at *
   have hlim:ps.length ≤ LIM:=by simp only [LIM];omega
   have t10:=HV.top 10 (by omega)
   simp only [zK2] at t10
   have HP:=Hp
   simp only [zB7] at HP
   refine yG hpk (cl_vmap fun x c hc=>by simp [iv] at hc;subst hc;exact .int _ _) ?hb ?_
   case hb=>exact .cons (.ref0 t10 (by simp) (by simp)) (.cons (.same _) (.cons (.same _) .nil))
   try simp [-qt,-qd,-ql,rgs]
   refine zR (h0:=h) (nx0:=0) [5,7,36,37,38,39,40,41,42,43,44,45,46,47,48,49,50,51] (ps.length) (fun (i:Nat) a=>[(36,.int .i64 i),(5,.ref a.1 1 0 a.2.length)]) (fun (i:Nat) (a:Nat × List Int) h' n'=>n1 + 16 ≤ n' ∧ n1 + 6 ≤ a.1 ∧ a.1 < n' ∧ h' a.1 = some (.row 1 (a.2.map iv)) ∧ a.2 = (ps.take i).map (fun i=>(gt v.tasks i).timer) ∧ ∀ j,j < n1 + 6 → h' j = H j) ((n1 + 6,[])) (by simp) ?_ (fun j hj=>absurd hj (by omega)) (Nat.zero_le _) ?_
   ·exact ⟨Nat.le_refl _,Nat.le_refl _,by simp,Hl,rfl,fun j _=>rfl⟩
   ·intro i a tm h' n' hle hJ hE hn' next hnx
    try dsimp only at hJ
    simp [-qt,-qd,-ql]
    obtain ⟨id,acc⟩:=a
    obtain ⟨g0,g1,g2,g3,g4,g5⟩:=hJ
    dsimp only at g1 g2 g3 g4 g5 ⊢
    have q1:=(g5 p (by omega)).trans HP
    have q2:=(g5 (X1.top 10) (by omega)).trans t10
    by_cases hi:i < ps.length
    ·obtain ⟨p0,p1⟩:=hps _ (vR (xs:=ps) (z:=(i:Int)) (by omega) (by omega))
     have hgm:(v.tasks.map yM)[(gt ps (i:Int)).toNat]? = some (yM (gt v.tasks (gt ps (i:Int)))):=by rw [List.getElem?_map,zA9 p0 (by omega)];rfl
     have hsn:acc ++ [(gt v.tasks (gt ps (i:Int))).timer] = (ps.take (i + 1)).map (fun i=>(gt v.tasks i).timer):=by
      rw [g4,← List.take_append_getElem hi,List.map_append,yU hi];rfl
     have j1:∀ k,(id = n' + k) = False:=fun k=>by simp only [eq_iff_iff,iff_false];omega
     have hal:acc.length ≤ i:=by rw [g4];simp;omega
     try simp [-qt,-qd,-ql,rgs,q1,q2,g3,hi,iv,yM,j1]
     repeat' first | done | ((first | ((with_reducible show zK _ _ _ _ _ _ _);refine zH rfl omA omA ?_) | (((with_reducible show zK _ _ _ _ (.ref _ _ _ _) _ _);refine zV rfl (by omega) (by omega) ?_)) | (((with_reducible show zK8 _ _ _ _ _ _ _ _);refine vT hgm ?_)) | ((with_reducible show zL4 _ _ _ _ _ _ _ _);refine yO rfl rfl (by decide) (by decide) (by (simp [-qt,-qd,-ql,rgs,q1,q2,g3,hi,iv,yM,j1];rfl)) (by (simp [-qt,-qd,-ql,rgs,q1,q2,g3,hi,iv,yM,j1];rfl)) (by (simp;done)) (by (simp only [yW,LIM] at *; simp;omega)) (by simp [iv,bv]) ?_)) <;> simp [-qt,-qd,-ql,rgs,q1,q2,g3,hi,iv,yM,j1]) | fail
     refine hnx.go (n' + 14,acc ++ [(gt v.tasks (gt ps (i:Int))).timer]) (by omega) (by simp [zI hi hlim]) (by simp) (fun j hj=>absurd hj (by omega)) (Nat.zero_le _) ?_
     dsimp only
     refine ⟨by omega,by omega,by omega,by rw [zJ];simp [iv],hsn,fun j hj => ?_⟩
     rw [zF _ _ _ _ (by omega),zF _ _ _ _ (by omega),zF _ _ _ _ (by omega)]
     exact g5 j hj
    ·have hi2:¬ ((i:Int) < ps.length):=by omega
     rw [List.take_of_length_le (by omega),← hss] at g4
     subst g4
     have q3:=(g5 (nx + 12) (by omega)).trans Hq
     have j1:∀ k,(id = n' + k) = False:=fun k=>by simp only [eq_iff_iff,iff_false];omega
     clear hnx hE
     try simp [-qt,-qd,-ql,rgs,q1,q2,q3,hi,hi2]
     repeat' first | done | ((with_reducible refine zP (i:=10) [(0,[],[]),(1,[],[]),(2,[],[]),(3,[],[]),(4,[],[]),(5,[],[])] (by kernel_rfl) ?_) <;> simp [-qt,-qd,-ql,rgs,q1,q2,q3,hi,hi2]) | fail
     refine yP (m_wake (id:=X1.top 10) (l:=v.tasks) h60) q2 ?_
     rintro r h2 n2 ⟨rfl,w2,f2⟩ hle2 hfr2
     dsimp only at f2 hle2
     have hl2:(zI3 v.tasks 1 n0 1).length = v.tasks.length:=wakeN_len
     have hm2:=m_wake (id:=X1.top 10) (l:=zI3 v.tasks 1 n0 1) (why:=2) (what:=n0) (reg:=2) (by rw [hl2];exact h60)
     rw [hl2] at hm2
     have pX1:p ≠ X1.top 10:=fun e=>HV.obj Hp (e ▸ WI.top_mem (by omega))
     have n12t:nx + 12 ≠ X1.top 10:=fun e=>n12 (e ▸ WI.top_mem (by omega))
     have z1:=(f2 p (by omega) pX1).trans q1
     have z3:=(f2 (nx + 12) (by omega) n12t).trans q3
     try simp [-qt,-qd,-ql,rgs,z1,z3]
     repeat' first | done | ((with_reducible refine zP (i:=11) [(0,[],[]),(1,[],[]),(2,[],[]),(3,[],[]),(4,[],[]),(5,[],[])] (by kernel_rfl) ?_) <;> simp [-qt,-qd,-ql,rgs,z1,z3]) | fail
     refine yP hm2 w2 ?_
     rintro r h3 n3 ⟨rfl,w3,f3⟩ hle3 hfr3
     dsimp only at f3 hle3
     have hl3:(zI3 (zI3 v.tasks 1 n0 1) 2 n0 2).length = v.tasks.length:=wakeN_len.trans hl2
     have KF:∀ j,j < n' → j ≠ X1.top 10 → h3 j = h' j:=fun j hj hne=>(f3 j (by omega) hne).trans (f2 j (by omega) hne)
     have y3:=(KF (nx + 12) (by omega) n12t).trans q3
     have yl:=(KF id (by omega) (by omega)).trans g3
     have yp:h3 p = some (.obj (zB7 X1 (mkT v v.spread v.timers v.afters (zI3 (zI3 v.tasks 1 n0 1) 2 n0 2)))):=by
      rw [KF p (by omega) pX1,g5 p (by omega),Hp];simp [zB7,mkT,hl3]
     have yV:WV h3 X1 (mkT v v.spread v.timers v.afters (zI3 (zI3 v.tasks 1 n0 1) 2 n0 2)):=by
      refine HV.inTop (i:=10) (by omega) w3 (fun k hk hne => ?_) rfl rfl (fun j hj hne => ?_)
      ·rcases lt15 hk with rfl | rfl | rfl | rfl | rfl | rfl | rfl | rfl | rfl | rfl | rfl | rfl | rfl | rfl | rfl <;> first | rfl | exact absurd rfl hne
      ·have:=hin1 j hj
       rw [KF j (by omega) hne,g5 j (by omega)]
     have yF:∀ j,j < nx → j ≠ p → j ∉ X.ids → h3 j = h j:=fun j hj hjp hjX=>by
      have hne:j ≠ X1.top 10:=fun e=>by
       rcases hid _ (WI.top_mem (X:=X1) (k:=10) (by omega)) with r | r
       ·exact hjX (e ▸ r)
       ·omega
      rw [KF j (by omega) hne,g5 j (by omega)]
      exact HF j hj hjp hjX
     have idn:id ∉ X1.ids:=fun hm=>by have:=hin1 _ hm;omega
     have idb:id < n3:=by omega
     clear q1 q2 q3 z1 z3 f2 f3 w2 w3 hm2 KF g5 g3 hfr2 hfr3 t10 HV Hp HP HF Hl Hq
     generalize zI3 (zI3 v.tasks 1 n0 1) 2 n0 2 = l2 at *
     have hfg:=fun Y (t:Tms) (s:Int) (h:vZ t = true)=>m_forget (X:=Y) (p:=p) (w:=mkT v v.spread t v.afters l2) (s:=s) h
     have hfa:=fun Y (t:Tms) (h:vZ t = true)=>m_forgetAll (X:=Y) (p:=p) (q:=nx + 12) (n:=n0) (w:=mkT v v.spread t v.afters l2) h
     have hqu:=fun Y (t:Tms)=>m_queue (X:=Y) (p:=p) (n:=n0) (w:=mkT v v.spread t v.afters l2) v3
     have hok:=fun L=>zS6 (ss:=L) v1
     have hal2:acc.length ≤ 60:=by rw [hss];simp;omega
     have hlim2:acc.length ≤ LIM:=by simp only [LIM];omega
     clear hss
     try simp [-qt,-qd,-ql,rgs]
     repeat' first | done | (((with_reducible show zT _ _ _ _ _ _);refine zA rfl fun _ => ?_) <;> simp [-qt,-qd,-ql,rgs]) | fail
     refine zR (h0:=h) (nx0:=0) [9,66,67,68,69,70,71,72,73,74,75] (acc.length) (fun (i:Nat) a=>[(66,.int .i64 i)]) (fun (i:Nat) (a:WI) h' m'=>n3 + 1 ≤ m' ∧ h' p = some (.obj (zB7 a (mkT v v.spread (zB6 v.timers (acc.take i)) v.afters l2))) ∧ WV h' a (mkT v v.spread (zB6 v.timers (acc.take i)) v.afters l2) ∧ (∀ j ∈ a.ids,j ∈ X.ids ∨ nx ≤ j ∧ j < m') ∧ id ∉ a.ids ∧ nx + 12 ∉ a.ids ∧ h' id = some (.row 1 (acc.map iv)) ∧ h' (nx + 12) = some (.obj [.int .i64 n0]) ∧ ∀ j,j < nx → j ≠ p → j ∉ X.ids → h' j = h j) (X1) (by simp) ?_ (fun j hj=>absurd hj (by omega)) (Nat.zero_le _) ?_
     ·refine ⟨by omega,yp,yV,fun j hj => ?_,idn,n12,yl,y3,yF⟩
      rcases hid j hj with r | r
      ·exact .inl r
      ·right;omega
     ·intro i a tm h' n' hle hJ hE hn' next hnx
      try dsimp only at hJ
      simp [-qt,-qd,-ql]
      obtain ⟨b0,b1,b2,b3,b4,b5,b6,b7,b8⟩:=hJ
      have hpa:=b2.obj b1
      have hlo:∀ j ∈ a.ids,j < n':=fun j hj=>by rcases b3 j hj with r | r;(have:=hin j r;omega);omega
      by_cases hi3:i < acc.length
      ·have hsn:zB6 v.timers (acc.take (i + 1)) = uP (zB6 v.timers (acc.take i)) (gt acc (i:Int)):=by
        rw [← forgetN_snoc,yU hi3,List.take_append_getElem hi3]
       have hokT:=hok (acc.take i)
       have hgm:(acc.map iv)[i]? = some (iv (gt acc (i:Int))):=by rw [List.getElem?_map,yU hi3,List.getElem?_eq_getElem hi3];rfl
       generalize zB6 v.timers (acc.take i) = T at *
       try simp [-qt,-qd,-ql,rgs,b1,b6,hi3,iv]
       repeat' first | done | ((first | (((with_reducible show zK _ _ _ _ (.ref _ _ _ _) _ _);refine zV rfl (by omega) (by omega) ?_)) | (((with_reducible show zK8 _ _ _ _ _ _ _ _);refine vT hgm ?_))) <;> simp [-qt,-qd,-ql,rgs,b1,b6,hi3,iv]) | fail
       have b1':=b1
       simp only [zB7] at b1'
       refine yP (hfg a T _ hokT) ⟨b1,b2⟩ ?_
       rintro r h4 n4 ⟨rfl,⟨X2,o2,V2,hid2⟩,hf4⟩ hle4 hfr4
       dsimp only at hid2 hf4 hle4
       try simp [-qt,-qd,-ql,rgs]
       refine hnx.go X2 (by omega) (by simp [zI hi3 hlim2]) (by simp) (fun j hj=>absurd hj (by omega)) (Nat.zero_le _) ?_
       rw [hsn]
       refine ⟨by omega,o2,V2,fun j hm => ?_,fun hm => ?_,fun hm => ?_,?_,?_,fun j hj hjp hjX => ?_⟩
       ·rcases hid2 j hm with r | r
        ·rcases b3 j r with r2 | r2
         ·exact .inl r2
         ·right;omega
        ·right;omega
       ·rcases hid2 _ hm with r | r
        ·exact b4 r
        ·omega
       ·rcases hid2 _ hm with r | r
        ·exact b5 r
        ·omega
       ·rw [hf4 _ (by omega) (by omega) b4];exact b6
       ·rw [hf4 _ (by omega) (by omega) b5];exact b7
       ·have hja:j ∉ a.ids:=fun hm=>by
         rcases b3 j hm with r | r
         ·exact hjX r
         ·omega
        rw [hf4 j (by omega) hjp hja]
        exact b8 j hj hjp hjX
      ·have hi4:¬ ((i:Int) < acc.length):=by omega
       rw [List.take_of_length_le (by omega)] at b1 b2
       clear hnx hE
       try simp [-qt,-qd,-ql,rgs,hi3,hi4]
       refine yP (hfa a _ (hok acc)) ⟨b1,b2,b7,by omega⟩ ?_
       rintro r h4 n4 ⟨rfl,⟨X2,o2,V2,hid2⟩,hf4⟩ hle4 hfr4
       dsimp only at hid2 hf4 hle4
       have c7:=(hf4 (nx + 12) (by omega) (by omega) b5).trans b7
       have o2':=o2
       simp only [zB7] at o2'
       try simp [-qt,-qd,-ql,rgs,c7,o2']
       repeat' first | done | ((with_reducible refine zP (i:=18) [(0,[],[]),(1,[],[]),(2,[],[]),(3,[],[]),(4,[],[])] (by kernel_rfl) ?_) <;> simp [-qt,-qd,-ql,rgs,c7,o2']) | fail
       refine yP (hqu X2 _) ⟨o2,V2⟩ ?_
       rintro r h5 n5 ⟨rfl,⟨X3,o5,V5,hid5⟩,hf5⟩ hle5 hfr5
       dsimp only at hid5 hf5 hle5
       try simp [-qt,-qd,-ql,rgs]
       have id2:∀ j ∈ X2.ids,j ∈ X.ids ∨ nx ≤ j ∧ j < n4:=fun j hm=>by
        rcases hid2 j hm with r | r
        ·rcases b3 j r with r2 | r2
         ·exact .inl r2
         ·right;omega
        ·right;omega
       refine ⟨rfl,fun _=>⟨X3,o5,V5,fun j hm => ?_⟩,(fun q hq=>by simp at hq),fun j hj hjp hjX _ => ?_⟩
       ·rcases hid5 j hm with r | r
        ·rcases id2 j r with r2 | r2
         ·exact .inl r2
         ·right;omega
        ·right;omega
       ·have hj2:j ∉ X2.ids:=fun hm=>by
         rcases id2 j hm with r | r
         ·exact hjX r
         ·omega
        have hja:j ∉ a.ids:=fun hm=>by
         rcases b3 j hm with r | r
         ·exact hjX r
         ·omega
        rw [hf5 j (by omega) hjp hj2,hf4 j (by omega) hjp hja]
        exact b8 j hj hjp hjX
 | false =>
   have hN:zJ4 w.tree w.spread = -1:=by simp [zJ4,hT]
   rw [hN]
   simp only [Bool.false_eq_true,if_false]
   cases hB:stepB w.tree w.spread with
   | true =>
     try simp [-qt,-qd,-ql,rgs]
     refine ⟨rfl,fun _=>⟨X1,?_,V2.keep fun id hm => ?_,fun id hm=>by rcases hid id hm with r | r <;> first | exact .inl r | (right;omega)⟩,(fun q hq=>by simp at hq),fun j hj hjp hjX _ => ?_⟩
     ·repeat rw [zF _ _ _ _ (by omega)]
      exact o2
     ·have hne:id ≠ nx + 12:=fun e=>by subst e;rcases hid _ hm with r | r;(have:=hin _ r;omega);omega
      repeat rw [zF _ _ _ _ hne]
     ·repeat rw [zF _ _ _ _ (by omega)]
      exact hf1 j (by omega) hjp hjX
   | false =>
     try simp [-qt,-qd,-ql,rgs]
     refine ⟨rfl,(fun e=>by cases e),(fun q hq=>by simp at hq),fun j hj hjp hjX _ => ?_⟩
     repeat rw [zF _ _ _ _ (by omega)]
     exact hf1 j (by omega) hjp hjX
theorem w_TellIn {F:Nat → Bool} {w:Wld} (hs:zB8 w ≤ 1048576):WC ctx.P 20 [.agg (wldV F w)] (fun X=>.tup [.agg (zB7 X (zL3 w)),.bool (zR5 w)]) (zL3 w):=by
 refine WC.of ?_
 unfold zL3 zR5
 have hdo:zB1 w = true → DoOk ctx.P 63 [] w (tellW w) (zR2 w):=fun hw=>d_Tell hw
 generalize tellW w = w' at *
 generalize zR2 w = b at *
 refine AC.o okC Tryz.func20 rfl fun h nx hfr hnx hpre => ?_
 try simp [-qt,-qd,-ql,rgs,zG8,wldV_len,wldV_take]
 refine yP (w_asked (F:=F) (qs:=[]) hs hdo) (fun q hq=>by simp at hq) ?_
 rintro r h1 n1 ⟨⟨X,rfl,V1,hid1⟩,_,hf1⟩ hle1 hfr1
 dsimp only at hid1 hf1 hle1
 have K1:=fun j hj=>hf1 j hj (fun q hm=>by simp at hm)
 have z1:=K1 (nx + 1) (by omega)
 rw [zJ] at z1
 try simp [-qt,-qd,-ql,rgs,z1,yL X _,vV,vG]
 refine ⟨fun j hj => ?_,X,rfl,V1.keep fun id hid => ?_,fun id hid=>by have:=hid1 id hid;omega⟩
 ·rw [zF _ _ _ _ (by omega),K1 j (by omega)]
  repeat rw [zF _ _ _ _ (by omega)]
 ·have:=hid1 id hid
  rw [zF _ _ _ _ (by omega)]
end Go.AE.Tryz
end
section
/- Contracts of the reference's changes of heaps. -/
set_option maxRecDepth 8000
set_option maxHeartbeats 2000000
namespace Go.AE.Tryz
open Go.Proofs
open List renaming map_take → qt,map_drop → qd,map_tail → ql
theorem s_l3Join {p q:Bool} {x:Twg} {l r:List Twg} (hl:isH l) (hr:isH r) (hm:l.length + r.length ≤ 1000):PC ctx.P 416 [.agg (zZ x),.view p 3 (l.map zZ),.view q 3 (r.map zZ)] (.view true 3 ((zD0 x l r).map zZ)):=by
 have r1:=rkI_of hl
 have r2:=rkI_of hr
 by_cases hk:rk0 l < rk0 r
 ·have hk2:(rkI l < rkI r) = True:=by simp only [eq_iff_iff,iff_true];omega
  have hj:(zD0 x l r).map zZ = zZ ⟨x.due,x.seq,r.length⟩ :: (r.map zZ ++ l.map zZ):=by simp [zD0,hk]
  rw [hj]
  refine PC.o okC Tryz.func416 rfl (by rw [← hj];exact .vmap yJ) fun h nx hnx => ?_
  try simp [-qt,-qd,-ql,rgs,zZ,hk2]
  repeat' first | done | ((first | ((with_reducible show zT _ _ _ _ _ _);refine zA rfl fun _ => ?_) | ((with_reducible show zD _ _ _ 401 _ _);refine zB (s_l3Rank) ?_) | ((with_reducible show zL4 _ _ _ _ _ _ _ _);refine yO rfl rfl (by decide) (by decide) (by (simp [-qt,-qd,-ql,rgs,zZ,hk2];rfl)) (by (simp [-qt,-qd,-ql,rgs,zZ,hk2];rfl)) (by (first | (simp;done) | (simp;omega))) (by (simp only [yW,LIM] at *; simp;omega)) (by simp [iv,bv]) ?_)) <;> simp [-qt,-qd,-ql,rgs,zZ,hk2]) | fail
  rw [if_pos (by omega),List.take_of_length_le (by simp;omega)]
  exact (finP_some ..).mpr ⟨rfl,zG⟩
 ·have hk2:(rkI l < rkI r) = False:=by simp only [eq_iff_iff,iff_false];omega
  have hj:(zD0 x l r).map zZ = zZ ⟨x.due,x.seq,l.length⟩ :: (l.map zZ ++ r.map zZ):=by simp [zD0,hk]
  rw [hj]
  refine PC.o okC Tryz.func416 rfl (by rw [← hj];exact .vmap yJ) fun h nx hnx => ?_
  try simp [-qt,-qd,-ql,rgs,zZ,hk2]
  repeat' first | done | ((first | ((with_reducible show zT _ _ _ _ _ _);refine zA rfl fun _ => ?_) | ((with_reducible show zD _ _ _ 401 _ _);refine zB (s_l3Rank) ?_) | ((with_reducible show zL4 _ _ _ _ _ _ _ _);refine yO rfl rfl (by decide) (by decide) (by (simp [-qt,-qd,-ql,rgs,zZ,hk2];rfl)) (by (simp [-qt,-qd,-ql,rgs,zZ,hk2];rfl)) (by (first | (simp;done) | (simp;omega))) (by (simp only [yW,LIM] at *; simp;omega)) (by simp [iv,bv]) ?_)) <;> simp [-qt,-qd,-ql,rgs,zZ,hk2]) | fail
  rw [if_pos (by omega),List.take_of_length_le (by simp;omega)]
  exact (finP_some ..).mpr ⟨rfl,zG⟩
theorem s_l3MergeN:∀ (n:Nat) (p q:Bool) (a b:List Twg),a.length + b.length ≤ n → n ≤ 1000 → isH a → isH b → apart a b → PC ctx.P 415 [.view p 3 (a.map zZ),.view q 3 (b.map zZ)] (.view true 3 ((zM9 n a b).map zZ)):=by
 intro n
 induction n with
 | zero =>
   intro p q a b hn hm ha hb hd
   obtain rfl:a = []:=List.eq_nil_of_length_eq_zero (by omega)
   obtain rfl:b = []:=List.eq_nil_of_length_eq_zero (by simpa using hn)
   rw [mrgN_l]
   have hc:=s_l3Copy (p:=q) (xs:=[]) (by simp)
   refine PC.o okC Tryz.func415 rfl (.vmap yJ) fun h nx hnx => ?_
   try simp [-qt,-qd,-ql,rgs]
   repeat' first | done | ((first | ((with_reducible show zT _ _ _ _ _ _);refine zA rfl fun _ => ?_) | (refine zB (hc) ?_)) <;> simp [-qt,-qd,-ql,rgs]) | fail
 | succ n ih =>
   intro p q a b hn hm ha hb hd
   by_cases ha0:a.length = 0
   ·obtain rfl:a = []:=List.eq_nil_of_length_eq_zero ha0
    rw [mrgN_l]
    refine PC.o okC Tryz.func415 rfl (.vmap yJ) fun h nx hnx => ?_
    try simp [-qt,-qd,-ql,rgs]
    repeat' first | done | ((first | ((with_reducible show zT _ _ _ _ _ _);refine zA rfl fun _ => ?_) | ((with_reducible show zD _ _ _ 281 _ _);refine zB (s_l3Copy (p:=q) (xs:=b) (by omega)) ?_)) <;> simp [-qt,-qd,-ql,rgs]) | fail
   have hx0:((a.length:Int) == 0) = false:=by simp;intro e;exact ha0 (by simp [e])
   by_cases hb0:b.length = 0
   ·obtain rfl:b = []:=List.eq_nil_of_length_eq_zero hb0
    rw [mrgN_r]
    refine PC.o okC Tryz.func415 rfl (.vmap yJ) fun h nx hnx => ?_
    try simp [-qt,-qd,-ql,rgs,hx0]
    repeat' first | done | ((first | ((with_reducible show zT _ _ _ _ _ _);refine zA rfl fun _ => ?_) | ((with_reducible show zD _ _ _ 281 _ _);refine zB (s_l3Copy (p:=p) (xs:=a) (by omega)) ?_)) <;> simp [-qt,-qd,-ql,rgs,hx0]) | fail
   have hy0:((b.length:Int) == 0) = false:=by simp;intro e;exact hb0 (by simp [e])
   have ha0:0 < a.length:=by omega
   have hb0:0 < b.length:=by omega
   by_cases hyx:lt2 (gt b 0) (gt a 0)
   ·have hcmp:(uX (gt a 0) (gt b 0) < 0) = False:=by simp only [eq_iff_iff,iff_false];exact fun h=>lt2_irr hyx (cmp_lt.1 h)
    have pp:=zK5 hb hb0
    have hl1:=mrgN_len n (b.drop ((gt b 0).lefts.toNat + 1)) a (by omega) pp.2.2.2.1 ha
    rw [mrgN_b ha0 hb0 hyx]
    have hq2:=ih q p (b.drop ((gt b 0).lefts.toNat + 1)) a (by omega) (by omega) pp.2.2.2.1 ha (zC5 (zI6 hd) _)
    have hq3:=mrgN_isH (n:=n) (by omega) pp.2.2.2.1 ha (zC5 (zI6 hd) _)
    refine PC.o okC Tryz.func415 rfl (.vmap yJ) fun h nx hnx => ?_
    try simp [-qt,-qd,-ql,rgs,hx0,hy0,hcmp]
    repeat' first | done | ((first | ((with_reducible show zT _ _ _ _ _ _);refine zA rfl fun _ => ?_) | ((with_reducible show zK _ _ _ _ _ _ _);refine zH rfl omA omA ?_) | ((with_reducible show zD _ _ _ 414 _ _);refine zB (s_l3Ahead) ?_) | ((with_reducible show zD _ _ _ 413 _ _);refine zB (zJ7 hb0 pp.1 pp.2.1) ?_) | (refine zB (hq2) ?_) | ((with_reducible show zD _ _ _ 416 _ _);refine zB (s_l3Join pp.2.2.1 hq3 (by omega)) ?_) | (with_reducible refine zP (i:=5) [(0,[],[]),(1,[],[]),(2,[],[]),(3,[],[]),(4,[],[]),(5,[],[]),(6,[],[]),(7,[],[])] (by kernel_rfl) ?_) | (with_reducible refine zP (i:=10) [(0,[],[]),(1,[],[]),(2,[],[]),(3,[],[]),(4,[],[]),(5,[],[]),(6,[.tmp 37],[]),(7,[],[]),(8,[],[])] (by kernel_rfl) ?_)) <;> simp [-qt,-qd,-ql,rgs,hx0,hy0,hcmp]) | fail
   ·have hcmp:(uX (gt a 0) (gt b 0) < 0) = True:=by simp only [eq_iff_iff,iff_true];exact cmp_lt.2 (lt2_flip (hd _ (gt0_mem ha0) _ (gt0_mem hb0)) hyx)
    have pp:=zK5 ha ha0
    have hl1:=mrgN_len n (a.drop ((gt a 0).lefts.toNat + 1)) b (by omega) pp.2.2.2.1 hb
    rw [mrgN_a ha0 hb0 hyx]
    have hq2:=ih p q (a.drop ((gt a 0).lefts.toNat + 1)) b (by omega) (by omega) pp.2.2.2.1 hb (zC5 hd _)
    have hq3:=mrgN_isH (n:=n) (by omega) pp.2.2.2.1 hb (zC5 hd _)
    refine PC.o okC Tryz.func415 rfl (.vmap yJ) fun h nx hnx => ?_
    try simp [-qt,-qd,-ql,rgs,hx0,hy0,hcmp]
    repeat' first | done | ((first | ((with_reducible show zT _ _ _ _ _ _);refine zA rfl fun _ => ?_) | ((with_reducible show zK _ _ _ _ _ _ _);refine zH rfl omA omA ?_) | ((with_reducible show zD _ _ _ 414 _ _);refine zB (s_l3Ahead) ?_) | ((with_reducible show zD _ _ _ 413 _ _);refine zB (zJ7 ha0 pp.1 pp.2.1) ?_) | (refine zB (hq2) ?_) | ((with_reducible show zD _ _ _ 416 _ _);refine zB (s_l3Join pp.2.2.1 hq3 (by omega)) ?_) | (with_reducible refine zP (i:=5) [(0,[],[]),(1,[],[]),(2,[],[]),(3,[],[]),(4,[],[]),(5,[],[]),(6,[],[]),(7,[],[])] (by kernel_rfl) ?_) | (with_reducible refine zP (i:=10) [(0,[],[]),(1,[],[]),(2,[],[]),(3,[],[]),(4,[],[]),(5,[],[]),(6,[.tmp 37],[]),(7,[],[]),(8,[],[])] (by kernel_rfl) ?_)) <;> simp [-qt,-qd,-ql,rgs,hx0,hy0,hcmp]) | fail
theorem s_l3Merge {p q:Bool} {a b:List Twg} (hl:a.length + b.length ≤ 1000) (ha:isH a) (hb:isH b) (hd:apart a b):PC ctx.P 415 [.view p 3 (a.map zZ),.view q 3 (b.map zZ)] (.view true 3 ((mrg a b).map zZ)) :=
 s_l3MergeN _ p q a b (Nat.le_refl _) hl ha hb hd
theorem s_l3WithoutN:∀ (n:Nat) (p:Bool) (a:List Twg) (s:Int),a.length ≤ n → n ≤ 900 → isH a → once a → PC ctx.P 403 [.view p 3 (a.map zZ),.int .i64 s] (.tup [.view true 3 ((woN n a s).map zZ),.bool (a.any fun x=>x.seq == s)]):=by
 have hfz:∀ (xs:List Twg) (b:Bool),Fz (.tup [.view true 3 (xs.map zZ),.bool b]):=fun xs b=>.tup _ (by simp only [List.mem_cons,List.not_mem_nil,or_false];rintro c (rfl | rfl);exact .vmap yJ;exact .bool _)
 intro n
 induction n with
 | zero =>
   intro p a s hn hm ha ho
   obtain rfl:a = []:=List.eq_nil_of_length_eq_zero (by omega)
   have he:woN 0 [] s = []:=by simp [woN]
   rw [he]
   refine PC.o okC Tryz.func403 rfl (hfz _ _) fun h nx hnx => ?_
   try simp [-qt,-qd,-ql,rgs]
   repeat' first | done | (((with_reducible show zT _ _ _ _ _ _);refine zA rfl fun _ => ?_) <;> simp [-qt,-qd,-ql,rgs]) | fail
 | succ n ih =>
   intro p a s hn hm ha ho
   by_cases ha0:a.length = 0
   ·obtain rfl:a = []:=List.eq_nil_of_length_eq_zero ha0
    have he:woN (n + 1) [] s = []:=by simp [woN]
    rw [he]
    refine PC.o okC Tryz.func403 rfl (hfz _ _) fun h nx hnx => ?_
    try simp [-qt,-qd,-ql,rgs]
    repeat' first | done | (((with_reducible show zT _ _ _ _ _ _);refine zA rfl fun _ => ?_) <;> simp [-qt,-qd,-ql,rgs]) | fail
   have hx0:((a.length:Int) == 0) = false:=by simp;intro e;exact ha0 (by simp [e])
   have ha0:0 < a.length:=by omega
   have pp:=zK5 ha ha0
   obtain ⟨o1,o2,o3,o4⟩:=once_part ho ha0 (k:=(gt a 0).lefts.toNat)
   have sp:=zN3 ha0 (gt a 0).lefts.toNat
   by_cases h1:(gt a 0).seq = s
   ·have hf:a.any (fun x=>x.seq == s) = true:=List.any_eq_true.2 ⟨_,gt0_mem ha0,by simpa using h1⟩
    rw [woN_1 ha0 h1,hf]
    have h1b:((gt a 0).seq == s) = true:=by simpa using h1
    refine PC.o okC Tryz.func403 rfl (hfz _ _) fun h nx hnx => ?_
    try simp [-qt,-qd,-ql,rgs,zZ,hx0,h1b]
    repeat' first | done | ((first | ((with_reducible show zT _ _ _ _ _ _);refine zA rfl fun _ => ?_) | ((with_reducible show zK _ _ _ _ _ _ _);refine zH rfl omA omA ?_) | ((with_reducible show zD _ _ _ 413 _ _);refine zB (zJ7 ha0 pp.1 pp.2.1) ?_) | ((with_reducible show zD _ _ _ 415 _ _);refine zB (s_l3Merge (by omega) pp.2.2.1 pp.2.2.2.1 o3) ?_)) <;> simp [-qt,-qd,-ql,rgs,zZ,hx0,h1b]) | fail
   ·have h1b:((gt a 0).seq == s) = false:=by simpa using h1
    have hany:a.any (fun x=>x.seq == s) = ((a.tail.take (gt a 0).lefts.toNat).any (fun x=>x.seq == s) || (a.drop ((gt a 0).lefts.toNat + 1)).any (fun x=>x.seq == s)):=by
     conv=>lhs;rw [sp]
     rw [List.any_cons,List.any_append,h1b,Bool.false_or]
    have hi1:=ih p (a.tail.take (gt a 0).lefts.toNat) s (by omega) (by omega) pp.2.2.1 o1
    have hi2:=ih p (a.drop ((gt a 0).lefts.toNat + 1)) s (by omega) (by omega) pp.2.2.2.1 o2
    by_cases h2:(a.tail.take (gt a 0).lefts.toNat).any (fun x=>x.seq == s) = true
    ·have h2e:∃ x ∈ a.tail.take (gt a 0).lefts.toNat,x.seq = s:=by obtain ⟨x,hx,e⟩:=List.any_eq_true.1 h2;exact ⟨x,hx,by simpa using e⟩
     rw [woN_2 ha0 h1 h2e,hany]
     rw [h2] at hi1 ⊢
     obtain ⟨w1,w2⟩:=woN_sub (n:=n) (by omega) pp.2.2.1 o1 h2e
     refine PC.o okC Tryz.func403 rfl (hfz _ _) fun h nx hnx => ?_
     try simp [-qt,-qd,-ql,rgs,zZ,hx0,h1b]
     repeat' first | done | ((first | ((with_reducible show zT _ _ _ _ _ _);refine zA rfl fun _ => ?_) | ((with_reducible show zK _ _ _ _ _ _ _);refine zH rfl omA omA ?_) | ((with_reducible show zD _ _ _ 413 _ _);refine zB (zJ7 ha0 pp.1 pp.2.1) ?_) | (refine zB (hi1) ?_) | ((with_reducible show zD _ _ _ 416 _ _);refine zB (s_l3Join w1 pp.2.2.2.1 (by omega)) ?_)) <;> simp [-qt,-qd,-ql,rgs,zZ,hx0,h1b]) | fail
    ·have h2f:(a.tail.take (gt a 0).lefts.toNat).any (fun x=>x.seq == s) = false:=by simpa using h2
     have h2e:¬ ∃ x ∈ a.tail.take (gt a 0).lefts.toNat,x.seq = s:=fun ⟨x,hx,e⟩=>h2 (List.any_eq_true.2 ⟨x,hx,by simpa using e⟩)
     rw [woN_3 ha0 h1 h2e,hany]
     rw [h2f] at hi1 ⊢
     rw [Bool.false_or]
     have w:isH (woN n (a.drop ((gt a 0).lefts.toNat + 1)) s) ∧ (woN n (a.drop ((gt a 0).lefts.toNat + 1)) s).length ≤ (a.drop ((gt a 0).lefts.toNat + 1)).length:=by
      by_cases h3:∃ x ∈ a.drop ((gt a 0).lefts.toNat + 1),x.seq = s
      ·obtain ⟨w1,w2⟩:=woN_sub (n:=n) (by omega) pp.2.2.2.1 o2 h3
       exact ⟨w1,by omega⟩
      ·rw [woN_none n pp.2.2.2.1 (fun x hx e=>h3 ⟨x,hx,e⟩)]
       exact ⟨pp.2.2.2.1,Nat.le_refl _⟩
     refine PC.o okC Tryz.func403 rfl (hfz _ _) fun h nx hnx => ?_
     try simp [-qt,-qd,-ql,rgs,zZ,hx0,h1b]
     repeat' first | done | ((first | ((with_reducible show zT _ _ _ _ _ _);refine zA rfl fun _ => ?_) | ((with_reducible show zK _ _ _ _ _ _ _);refine zH rfl omA omA ?_) | ((with_reducible show zD _ _ _ 413 _ _);refine zB (zJ7 ha0 pp.1 pp.2.1) ?_) | (refine zB (hi1) ?_) | (refine zB (hi2) ?_) | ((with_reducible show zD _ _ _ 416 _ _);refine zB (s_l3Join pp.2.2.1 w.1 (by omega)) ?_)) <;> simp [-qt,-qd,-ql,rgs,zZ,hx0,h1b]) | fail
theorem s_Without {p:Bool} {a:List Twg} {s:Int} (hk:zF6 a = true):PC ctx.P 366 [.view p 3 (a.map zZ),.int .i64 s] (.tup [.view true 3 ((if (a.any fun x=>x.seq == s) = true then wo a s else a).map zZ),.bool (a.any fun x=>x.seq == s)]):=by
 obtain ⟨h1,h2,h3⟩:=heapOk_iff.1 hk
 have hw:=s_l3WithoutN a.length p a s (Nat.le_refl _) (by omega) h3 h2
 by_cases hb:(a.any fun x=>x.seq == s) = true
 ·rw [if_pos hb]
  rw [hb] at hw ⊢
  refine PC.o okC Tryz.func366 rfl (.tup _ (by simp only [List.mem_cons,List.not_mem_nil,or_false];rintro c (rfl | rfl);exact .vmap yJ;exact .bool _)) fun h nx hnx => ?_
  try simp [-qt,-qd,-ql,rgs,hk,wo]
  repeat' first | done | ((first | ((with_reducible show zD _ _ _ 358 _ _);refine zB (s_HeapOk) ?_) | (refine zB (hw) ?_)) <;> simp [-qt,-qd,-ql,rgs,hk,wo]) | fail
 ·rw [if_neg hb]
  have hb2:(a.any fun x=>x.seq == s) = false:=by simpa using hb
  rw [hb2] at hw ⊢
  refine PC.o okC Tryz.func366 rfl (.tup _ (by simp only [List.mem_cons,List.not_mem_nil,or_false];rintro c (rfl | rfl);exact .vmap yJ;exact .bool _)) fun h nx hnx => ?_
  try simp [-qt,-qd,-ql,rgs,hk,wo]
  repeat' first | done | ((first | ((with_reducible show zD _ _ _ 358 _ _);refine zB (s_HeapOk) ?_) | (refine zB (hw) ?_) | ((with_reducible show zD _ _ _ 281 _ _);refine zB (s_l3Copy (p:=p) (xs:=a) (by omega)) ?_)) <;> simp [-qt,-qd,-ql,rgs,hk,wo]) | fail
theorem f_Stopped {F:Nat → Bool} {t:Tms} {s:Int} (ht:vZ t = true) (h0:0 ≤ yE t.list s):FC ctx.P 284 [.agg (vM F t),.int .i64 s] (.tup [.agg [.view true 3 ((vO t s).heap.map zZ),.ref 0 5 0 t.list.length,.int .i64 t.next],.bool (zF2 t s)]) [.row 5 ((vO t s).list.map yN)]:=by
 obtain ⟨-,t2,t3,-,-,-⟩:=uO.1 ht
 have hk:zF6 t.heap = true:=heapOk_iff.2 t3
 have hl:=zB2 t.list s
 have hn:(yE t.list s < 0) = False:=by simp only [eq_iff_iff,iff_false];omega
 have hany:(t.heap.any fun x=>x.seq == s) = zF2 t s:=by
  rw [Bool.eq_iff_iff,← zQ7 ht s,List.any_eq_true];simp
 have hwo:=s_Without (p:=F 6) (a:=t.heap) (s:=s) hk
 rw [hany] at hwo
 have hst:(vO t s).heap = (if zF2 t s = true then wo t.heap s else t.heap):=by unfold vO;split <;> rfl
 have hsl:(vO t s).list.map yN = (t.list.map yN).set (yE t.list s).toNat (yN (offT (gt t.list (yE t.list s)))):=by
  rw [← List.map_set]
  congr 1
  unfold vO;split
  ·rfl
  ·rename_i h
   have:(gt t.list (yE t.list s)).armed = false:=by simpa [zF2,h0] using h
   have e:offT (gt t.list (yE t.list s)) = gt t.list (yE t.list s):=by
    cases hq:gt t.list (yE t.list s);rw [hq] at this;simp at this;simp [offT,this]
   rw [e,gt_get h0 hl,List.set_getElem_self]
 have hsb:zF2 t s = (gt t.list (yE t.list s)).armed:=by simp [zF2,h0]
 rw [← hst] at hwo
 rw [hsl]
 have hg:(t.list.map yN)[(yE t.list s).toNat]? = some (yN (gt t.list (yE t.list s))):=by rw [List.getElem?_map,zA9 h0 hl];rfl
 refine FC.o okC Tryz.func284 rfl ((okr_tms _ _ _ _)) ((fun e he=>by simp at he;subst he;rw [← hsl];exact zM uV _)) fun h nx hnx => ?_
 try simp [-qt,-qd,-ql,rgs,ht,hn,vM,zY hnx]
 repeat' first | done | ((first | ((with_reducible show zD _ _ _ 275 _ _);refine zB (zI8 (t:=t) (F:=F)) ?_) | ((with_reducible show zD _ _ _ 156 _ _);refine zU (f_l4Copy (F:=F) (s:=t) (by omega) (by omega)) ?_) | ((with_reducible show zD _ _ _ 285 _ _);refine zB (s_l4At (t:=t) (F:=F)) ?_) | (((with_reducible show zK _ _ _ _ (.ref _ _ _ _) _ _);refine zV rfl (by omega) (by omega) ?_))) <;> simp [-qt,-qd,-ql,rgs,ht,hn,vM,zY hnx]) | fail
 refine zH4 (sz:=5) (xs:=t.list.map yN) (cells:=yN (gt t.list (yE t.list s))) (by simp) (by simp) rfl (by decide) hg ?_
 rw [show splice (yN (gt t.list (yE t.list s))) 4 [.bool false] = yN (offT (gt t.list (yE t.list s))) from rfl]
 generalize hrow:(t.list.map yN).set (yE t.list s).toNat (yN (offT (gt t.list (yE t.list s)))) = row
 try simp [-qt,-qd,-ql,rgs,ht,hn,vM,yN,zY hnx]
 repeat' first | done | ((first | ((with_reducible show zK _ _ _ _ _ _ _);refine zH rfl omA omA ?_) | (refine zB (hwo) ?_) | (with_reducible refine zP (i:=9) [(0,[],[]),(1,[],[]),(2,[],[]),(3,[],[]),(4,[],[]),(5,[],[]),(6,[],[]),(7,[.tmp 34,.tmp 38],[]),(8,[],[])] (by kernel_rfl) ?_)) <;> simp [-qt,-qd,-ql,rgs,ht,hn,vM,yN,zY hnx]) | fail
 exact finF1 (i:=nx + 11) zG (by omega) (by simp) (by simp [hsb])
end Go.AE.Tryz
end
section
/- Contracts of the reference's request to create a node. -/
set_option maxRecDepth 8000
set_option maxHeartbeats 4000000
namespace Go.AE.Tryz
open Go.Proofs
open List renaming map_take → qt,map_drop → qd,map_tail → ql
theorem s_l14Either {F:Nat → Bool} {w u:Wld} (hs:zB8 w ≤ 1048576):PC ctx.P 52 [.agg (wldV F w),.agg (wldV (fun _=>true) u)] (.tup [.agg (wldV (fun _=>true) (if zB1 u = true then u else w)),.bool (zB1 u)]):=by
 by_cases hw:zB1 u = true
 ·rw [if_pos hw,hw]
  refine PC.o okC Tryz.func52 rfl (.tup _ (by simp only [List.mem_cons,List.not_mem_nil,or_false];rintro c (rfl | rfl);exact wldV_fz _;exact .bool _)) fun h nx hnx => ?_
  try simp [-qt,-qd,-ql,rgs,hw,wldV]
  repeat' first | done | (((with_reducible show zD _ _ _ 48 _ _);refine zB (zH5 (w:=u) (F:=fun _=>true)) ?_) <;> simp [-qt,-qd,-ql,rgs,hw,wldV]) | fail
 ·have h2:zB1 u = false:=by simpa using hw
  rw [if_neg hw,h2]
  refine PC.o okC Tryz.func52 rfl (.tup _ (by simp only [List.mem_cons,List.not_mem_nil,or_false];rintro c (rfl | rfl);exact wldV_fz _;exact .bool _)) fun h nx hnx => ?_
  try simp [-qt,-qd,-ql,rgs,h2,wldV]
  repeat' first | done | ((first | ((with_reducible show zD _ _ _ 48 _ _);refine zB (zH5 (w:=u) (F:=fun _=>true)) ?_) | ((with_reducible show zD _ _ _ 49 _ _);refine zB (s_l13Copy (w:=w) (F:=F) hs) ?_)) <;> simp [-qt,-qd,-ql,rgs,h2,wldV]) | fail
end Go.AE.Tryz
end
section
/- Contracts of the reference's request to let the first timer ring. -/
set_option maxRecDepth 8000
set_option maxHeartbeats 4000000
namespace Go.AE.Tryz
open Go.Proofs
open List renaming map_take → qt,map_drop → qd,map_tail → ql
theorem s_Forgotten {F:Nat → Bool} {t:Tms} {s:Int} (ht:vZ t = true) (h0:0 ≤ yE t.list s):PC ctx.P 162 [.agg (vM F t),.int .i64 s] (.tup [.agg (vM (fun _=>true) (uP t s)),.bool true]):=by
 obtain ⟨-,t2,t3,-,-,-⟩:=uO.1 ht
 have hst:=f_Stopped (F:=F) (t:=t) (s:=s) ht h0
 have hsq:=stopT_seq h0 s
 have hsl:=stopT_len (t:=t) (s:=s)
 have hsn:(vO t s).next = t.next:=stopT_next
 have hl:=zB2 t.list s
 obtain ⟨i,hi⟩:∃ i:Nat,yE t.list s = (i:Int):=⟨(yE t.list s).toNat,by omega⟩
 have hF:uP t s = ⟨(vO t s).heap,(vO t s).list.take i ++ (vO t s).list.drop (i + 1),(vO t s).next⟩:=by
  unfold uP dropT
  rw [hsq,if_pos h0,hi,List.eraseIdx_eq_take_drop_succ];rfl
 have hcat:=s_l4At (t:=t) (F:=F) (s:=s)
 rw [hi] at hcat hl h0
 obtain ⟨L,hL⟩:∃ L,L = (vO t s).list.take i ++ (vO t s).list.drop (i + 1):=⟨_,rfl⟩
 rw [hF,← hL]
 clear hF hi hsq
 generalize vO t s = u at *
 generalize zF2 t s = b at *
 rw [← hsl] at hst hl
 have hi1:(i ≤ u.list.length) = True:=by simp only [eq_iff_iff,iff_true];omega
 have hi2:(i + 1 + (u.list.length - (i + 1)) ≤ u.list.length) = True:=by simp only [eq_iff_iff,iff_true];omega
 have hn:((i:Int) < 0) = False:=by simp only [eq_iff_iff,iff_false];omega
 have ew:IntKind.i64.wrap ((i:Int) + 1) = (i:Int) + 1:=zE (by omega)
 refine PC.o okC Tryz.func162 rfl (.tup _ (by simp only [List.mem_cons,List.not_mem_nil,or_false];rintro c (rfl | rfl);exact .agg _ (tmsV_fz _);exact .bool _)) fun h nx hnx => ?_
 try simp [-qt,-qd,-ql,rgs,ht,vM,zY hnx]
 repeat' first | done | (((with_reducible show zD _ _ _ 275 _ _);refine zB (zI8 (t:=t) (F:=F)) ?_) <;> simp [-qt,-qd,-ql,rgs,ht,vM,zY hnx]) | fail
 refine zU hst ?_
 try simp [-qt,-qd,-ql,rgs,hn,ew,vM,yN,zY hnx]
 repeat' first | done | ((first | (refine zB (hcat) ?_) | (with_reducible refine zP (i:=7) [(1,[],[]),(2,[],[0]),(3,[],[]),(4,[],[]),(6,[],[]),(7,[],[0]),(8,[],[]),(9,[],[]),(10,[],[]),(0,[],[]),(5,[.tmp 31],[]),(11,[],[]),(12,[],[]),(13,[],[])] (by kernel_rfl) ?_)) <;> simp [-qt,-qd,-ql,rgs,hn,ew,vM,yN,zY hnx]) | fail
 refine zN0 (l:=0) (h:=i) rfl (by simp [zF5]) (by simp [zF5]) (by omega) (by omega) ?_
 try simp [-qt,-qd,-ql,rgs,hn,ew,hi1,hi2,vM,zY hnx]
 refine zN0 (l:=i + 1) (h:=u.list.length) rfl (by simp [zF5];omega) (by simp [zF5]) (by omega) (by omega) ?_
 try simp [-qt,-qd,-ql,rgs,hn,ew,hi1,hi2,vM,zY hnx]
 repeat' first | done | (((with_reducible show zL4 _ _ _ _ _ _ _ _);refine yO rfl rfl (by decide) (by decide) (by (simp [-qt,-qd,-ql,rgs,hn,ew,hi1,hi2,vM,zY hnx];rfl)) (by (simp [-qt,-qd,-ql,rgs,hn,ew,hi1,hi2,vM,zY hnx];rfl)) (by (simp;done)) (by (simp only [yW,LIM] at *; simp;omega)) (by simp [iv,bv]) ?_) <;> simp [-qt,-qd,-ql,rgs,hn,ew,hi1,hi2,vM,zY hnx]) | fail
 refine app_mid (ws:=(u.list.map yN).take i) (ys:=(u.list.map yN).drop (i + 1)) rfl rfl (by decide) (by decide) ?r1 ?r2 ?r3 ?r4 ?r5 ?_
 case r1=>simp
 case r2 =>
  simp [-qd]
  exact ⟨by omega,List.take_of_length_le (by simp)⟩
 case r3=>simp;omega
 case r4=>simp only [yW];simp;omega
 case r5 =>
  simp only [List.all_eq_true]
  intro c hc x hx
  obtain ⟨y,_,rfl⟩:=List.mem_map.1 (List.mem_of_mem_drop hc)
  exact tmr_one y x hx
 have hr:List.take i (List.drop 0 (List.take i (List.map yN u.list))) ++ List.drop (i + 1) (List.map yN u.list) ++ List.drop (0 + i + (List.drop (i + 1) (List.map yN u.list)).length) (List.take i (List.map yN u.list)) = L.map yN:=by
  have h9:List.drop (0 + i + (List.drop (i + 1) (List.map yN u.list)).length) (List.take i (List.map yN u.list)) = []:=List.drop_eq_nil_of_le (by simp;omega)
  rw [h9,hL]
  simp [List.map_take,List.map_drop,List.take_take]
 have hlen:i + (List.drop (i + 1) (List.map yN u.list)).length = L.length:=by rw [hL];simp;omega
 rw [hr,hlen]
 try simp [-qt,-qd,-ql,rgs,vM,zY hnx]
 exact hsn.symm
theorem s_l10Free {k:Tsk} {st:Int}:PC ctx.P 367 [.agg (yM k),.int .i64 st] (.agg (yM ⟨k.prog,k.pc,st,0,0,-1,k.reg,k.group,k.err⟩)):=by
 refine PC.o okC Tryz.func367 rfl (.agg _ (zE0 _)) fun h nx hnx => ?_
 try simp [-qt,-qd,-ql,rgs,yM]
theorem s_l10Either {k x:Tsk}:PC ctx.P 368 [.agg (yM k),.agg (yM x)] (.agg (yM (if zB5 x = true then x else k))):=by
 refine PC.o okC Tryz.func368 rfl (.agg _ (zE0 _)) fun h nx hnx => ?_
 by_cases h:zB5 x = true
 ·rw [if_pos h]
  try simp [-qt,-qd,-ql,rgs,h,yM]
  repeat' first | done | (((with_reducible show zD _ _ _ 363 _ _);refine zB (zN2 (t:=x)) ?_) <;> simp [-qt,-qd,-ql,rgs,h,yM]) | fail
 ·have hf:zB5 x = false:=by simpa using h
  rw [if_neg h]
  try simp [-qt,-qd,-ql,rgs,hf,yM]
  repeat' first | done | (((with_reducible show zD _ _ _ 363 _ _);refine zB (zN2 (t:=x)) ?_) <;> simp [-qt,-qd,-ql,rgs,hf,yM]) | fail
theorem s_Readied {k:Tsk} {reg:Int} (hpc:zB5 k = true → -9223372036854775808 ≤ k.pc ∧ k.pc < 9223372036854775807):PC ctx.P 286 [.agg (yM k),.int .i64 reg] (.agg (yM (vI k reg))):=by
 refine PC.o okC Tryz.func286 rfl (.agg _ (zE0 _)) fun h nx hnx => ?_
 by_cases hk:zB5 k = true
 ·have ew:IntKind.i64.wrap (k.pc + 1) = k.pc + 1:=zE (by have:=hpc hk;omega)
  by_cases hs:k.state = 2
  ·have e:vI k reg = k:=by simp [vI,hk,hs]
   have hsb:(k.state == 2) = true:=by simpa using hs
   rw [e]
   try simp [-qt,-qd,-ql,rgs,hk,hsb,yM]
   repeat' first | done | (((with_reducible show zD _ _ _ 363 _ _);refine zB (zN2 (t:=k)) ?_) <;> simp [-qt,-qd,-ql,rgs,hk,hsb,yM]) | fail
  ·have hsb:(k.state == 2) = false:=by simpa using hs
   have e:vI k reg = if zB5 (zL9 k reg) = true then zL9 k reg else k:=by unfold vI;rw [if_pos hk];simp only [ne_eq,hs,not_false_eq_true,true_and]
   have hei:=s_l10Either (k:=k) (x:=zL9 k reg)
   have hfr:=s_l10Free (k:=k) (st:=0)
   rw [e]
   generalize (if zB5 (zL9 k reg) = true then zL9 k reg else k) = y at *
   try simp [-qt,-qd,-ql,rgs,hk,hsb,ew,yM,zL9]
   repeat' first | done | ((first | ((with_reducible show zD _ _ _ 363 _ _);refine zB (zN2 (t:=k)) ?_) | (refine zB (hfr) ?_) | (refine zB (hei) ?_)) <;> simp [-qt,-qd,-ql,rgs,hk,hsb,ew,yM,zL9]) | fail
 ·have hkf:zB5 k = false:=by simpa using hk
  have e:vI k reg = default:=by simp [vI,hkf]
  rw [e]
  try simp [-qt,-qd,-ql,rgs,hkf,yM]
  repeat' first | done | (((with_reducible show zD _ _ _ 363 _ _);refine zB (zN2 (t:=k)) ?_) <;> simp [-qt,-qd,-ql,rgs,hkf,yM]) | fail
  trivial
end Go.AE.Tryz
end
section
/- Contracts of the reference's request to make a step of propagation: the work, tasks, functions. -/
set_option maxRecDepth 8000
set_option maxHeartbeats 4000000
namespace Go.AE.Tryz
open Go.Proofs
open List renaming map_take → qt,map_drop → qd,map_tail → ql
theorem s_ChildrenOf {p:Bool} {t:List Nod} {n:Int} (ht:uJ t = true) (h0:uF n t = true):PC ctx.P 283 [.view p 5 (t.map yS),.int .i64 n] (.view true 1 ((zL8 t n).map iv)):=by
 have hl:=zC4 ht
 have hlim:t.length ≤ LIM:=by simp only [LIM];omega
 have hh:(uJ t && uF n t) = true:=by rw [ht,h0];rfl
 refine PC.o okC Tryz.func283 rfl (.vmap zA5) fun h nx hnx => ?_
 try simp [-qt,-qd,-ql,rgs,hh,ht,h0]
 repeat' first | done | (((with_reducible show zD _ _ _ 365 _ _);refine zB (s_l5Has) ?_) <;> simp [-qt,-qd,-ql,rgs,hh,ht,h0]) | fail
 refine zR (h0:=h) (nx0:=nx) [5,6,13,14,15,16,17,18,19,20,21,22,23,24,25,26,27,28,29] (t.length) (fun (i:Nat) a=>[(6,.int .i64 i),(5,.ref a.1 1 0 a.2.length)]) (fun (i:Nat) (a:Nat × List Int) h' n'=>nx ≤ a.1 ∧ a.1 < n' ∧ h' a.1 = some (.row 1 (a.2.map iv)) ∧ a.2.length ≤ i ∧ a.2 ++ zF3 (fun _ x=>x.up == n) (fun i _=>i) (t.drop i) i = zL8 t n) ((nx + 1,[])) (by simp) ?_ zG (by omega) ?_
 ·simp [zL8,iv]
 ·intro i a tm h' n' hle hJ hE hn' next hnx
  try dsimp only at hJ
  have hK:KeepB nx h' h:=KeepB.sub hE zG (by omega)
  simp [-qt,-qd,-ql]
  obtain ⟨id,acc⟩:=a
  obtain ⟨g0,g1,g2,g3,hJ⟩:=hJ
  dsimp only at g0 g1 g2 g3 hJ ⊢
  have k1:∀ k,(id = n' + k) = False:=fun k=>by simp only [eq_iff_iff,iff_false];omega
  by_cases hi:i < t.length
  ·have hn:=kids_rest hi hJ
   repeat' first | done | ((first | ((with_reducible show zT _ _ _ _ _ _);refine zA rfl fun _ => ?_) | ((with_reducible show zK _ _ _ _ _ _ _);refine zH rfl omA omA ?_) | ((with_reducible show zL4 _ _ _ _ _ _ _ _);refine yO rfl rfl (by decide) (by decide) (by (simp [-qt,-qd,-ql,rgs,yS,iv,g2,k1,hi,zE (x:=(i:Int)) (by omega)];rfl)) (by (simp [-qt,-qd,-ql,rgs,yS,iv,g2,k1,hi,zE (x:=(i:Int)) (by omega)];rfl)) (by (simp;done)) (by (simp only [yW,LIM] at *; simp;omega)) (by simp [iv,bv]) ?_)) <;> simp [-qt,-qd,-ql,rgs,yS,iv,g2,k1,hi,zE (x:=(i:Int)) (by omega)]) | ((with_reducible refine zC ?_ ?_) <;> intro qb <;> (have qp:=qb;try simp only [psq] at qp) <;> simp [-qt,-qd,-ql,rgs,yS,iv,g2,k1,hi,zE (x:=(i:Int)) (by omega),qb])
   all_goals first
   | (rw [if_pos (by simp_all)] at hn
      refine hnx.go (n' + 14,acc ++ [(i:Int)]) (by omega) (by simp [zI hi hlim]) (by simp) zG (by first | omega | (simp;omega)) ?_
      dsimp only
      exact ⟨by omega,by omega,by simp [iv],by simp;omega,hn⟩)
   | (rw [if_neg (by simp_all)] at hn
      refine hnx.go (id,acc) (by omega) (by simp [zI hi hlim]) (by simp) zG (by first | omega | (simp;omega)) ?_
      dsimp only
      exact ⟨by omega,by omega,by simp [g2,k1],by omega,hn⟩)
   | omega
  ·have hi2:¬ ((i:Int) < t.length):=by omega
   rw [List.drop_eq_nil_of_le (by omega),zS1,List.append_nil] at hJ
   subst hJ
   repeat' first | done | (((with_reducible show zT _ _ _ _ _ _);refine zA rfl fun _ => ?_) <;> simp [-qt,-qd,-ql,rgs,iv,g2,k1,hi,hi2]) | fail
   exact zG
theorem s_l7Below {p:Bool} {t:List Nod} {n:Int} (ht:uJ t = true) (h0:uF n t = true):PC ctx.P 160 [.view p 5 (t.map yS),.int .i64 n] (.view true 1 ((moreI t n).map iv)):=by
 have hl:=zC4 ht
 have hkl:=kidsI_len (t:=t) (n:=n)
 have hkm:∀ i ∈ zL8 t n,0 ≤ i ∧ i < t.length:=fun i hi=>kidsI_mem hi
 have hch:=s_ChildrenOf (p:=p) ht h0
 unfold moreI
 generalize zL8 t n = ks at *
 have hlim:ks.length ≤ LIM:=by simp only [LIM];omega
 refine PC.o okC Tryz.func160 rfl (.vmap zA5) fun h nx hnx => ?_
 try simp [-qt,-qd,-ql,rgs]
 repeat' first | done | ((refine zB (hch) ?_) <;> simp [-qt,-qd,-ql,rgs]) | fail
 refine zR (h0:=h) (nx0:=nx) [5,7,12,13,14,15,16,17,18,19,20,21,22,23,24,25,26,27,28,29,30,31,32,33] (ks.length) (fun (i:Nat) a=>[(7,.int .i64 i),(5,.ref a.1 1 0 a.2.length)]) (fun (i:Nat) (a:Nat × List Int) h' n'=>nx ≤ a.1 ∧ a.1 < n' ∧ h' a.1 = some (.row 1 (a.2.map iv)) ∧ a.2 = (ks.take i).filter (fun i => !zA6 t i)) ((nx + 1,[])) (by simp) ?_ zG (by omega) ?_
 ·simp
 ·intro i a tm h' n' hle hJ hE hn' next hnx
  try dsimp only at hJ
  have hK:KeepB nx h' h:=KeepB.sub hE zG (by omega)
  simp [-qt,-qd,-ql]
  obtain ⟨id,acc⟩:=a
  obtain ⟨g0,g1,g2,hJ⟩:=hJ
  dsimp only at g0 g1 g2 hJ ⊢
  have k1:∀ k,(id = n' + k) = False:=fun k=>by simp only [eq_iff_iff,iff_false];omega
  by_cases hi:i < ks.length
  ·obtain ⟨p0,p1⟩:=hkm _ (vR (xs:=ks) (z:=(i:Int)) (by omega) (by omega))
   have hal:acc.length ≤ i:=by rw [hJ];exact Nat.le_trans (List.length_filter_le ..) (by simp;omega)
   have hsn:(ks.take (i + 1)).filter (fun i => !zA6 t i) = acc ++ (if zA6 t (gt ks (i:Int)) = true then [] else [gt ks (i:Int)]):=by
    rw [← List.take_append_getElem hi,List.filter_append,hJ,yU hi]
    cases hq:zA6 t ks[i] <;> simp [hq]
   cases hq:zA6 t (gt ks (i:Int)) with
   | true =>
     have hq2:((gt t (gt ks (i:Int))).kind != 4) = false:=by simpa [zA6] using hq
     rw [hq,if_pos rfl,List.append_nil] at hsn
     repeat' first | done | ((first | ((with_reducible show zT _ _ _ _ _ _);refine zA rfl fun _ => ?_) | ((with_reducible show zK _ _ _ _ _ _ _);refine zH rfl omA omA ?_)) <;> simp [-qt,-qd,-ql,rgs,yS,iv,g2,k1,hi,hq2]) | fail
     refine hnx.go (id,acc) (by omega) (by simp [zI hi hlim]) (by simp) zG (by first | omega | (simp;omega)) ?_
     dsimp only
     exact ⟨by omega,by omega,g2,hsn.symm⟩
   | false =>
     have hq2:((gt t (gt ks (i:Int))).kind != 4) = true:=by simpa [zA6] using hq
     rw [hq,if_neg (by decide)] at hsn
     repeat' first | done | ((first | ((with_reducible show zT _ _ _ _ _ _);refine zA rfl fun _ => ?_) | ((with_reducible show zK _ _ _ _ _ _ _);refine zH rfl omA omA ?_) | ((with_reducible show zL4 _ _ _ _ _ _ _ _);refine yO rfl rfl (by decide) (by decide) (by (simp [-qt,-qd,-ql,rgs,yS,iv,g2,k1,hi,hq2];rfl)) (by (simp [-qt,-qd,-ql,rgs,yS,iv,g2,k1,hi,hq2];rfl)) (by (simp;done)) (by (simp only [yW,LIM] at *; simp;omega)) (by simp [iv,bv]) ?_)) <;> simp [-qt,-qd,-ql,rgs,yS,iv,g2,k1,hi,hq2]) | fail
     refine hnx.go (n' + 19,acc ++ [gt ks (i:Int)]) (by omega) (by simp [zI hi hlim]) (by simp) zG (by first | omega | (simp;omega)) ?_
     dsimp only
     exact ⟨by omega,by omega,by simp [iv],hsn.symm⟩
  ·have hi2:¬ ((i:Int) < ks.length):=by omega
   rw [List.take_of_length_le (by omega)] at hJ
   subst hJ
   repeat' first | done | (((with_reducible show zT _ _ _ _ _ _);refine zA rfl fun _ => ?_) <;> simp [-qt,-qd,-ql,rgs,iv,g2,k1,hi,hi2]) | fail
   exact zG
theorem s_ParkedOn {p:Bool} {l:List Tsk} {why what:Int} (ht:vA l = true):PC ctx.P 161 [.view p 9 (l.map yM),.int .i64 why,.int .i64 what] (.view true 1 ((zG2 l why what).map iv)):=by
 have hl60:=zK6 ht
 have hlim:l.length ≤ LIM:=by simp only [LIM];omega
 refine PC.o okC Tryz.func161 rfl (.vmap zA5) fun h nx hnx => ?_
 try simp [-qt,-qd,-ql,rgs,ht]
 repeat' first | done | (((with_reducible show zD _ _ _ 278 _ _);refine zB (zQ5) ?_) <;> simp [-qt,-qd,-ql,rgs,ht]) | fail
 refine zR (h0:=h) (nx0:=nx) [7,8,14,15,16,17,18,19,20,21,22,23,24,25,26,27,28,29,30,31,32,33,34,35,36,37,38,39,40,41,42,43,44,45,46,47] (l.length) (fun (i:Nat) a=>[(8,.int .i64 i),(7,.ref a.1 1 0 a.2.length)]) (fun (i:Nat) (a:Nat × List Int) h' n'=>nx ≤ a.1 ∧ a.1 < n' ∧ h' a.1 = some (.row 1 (a.2.map iv)) ∧ a.2.length ≤ i ∧ a.2 ++ zF3 (fun _ k=>zM7 why what k) (fun i _=>i) (l.drop i) i = zG2 l why what) ((nx + 1,[])) (by simp) ?_ zG (by omega) ?_
 ·simp [zG2,iv]
 ·intro i a tm h' n' hle hJ hE hn' next hnx
  try dsimp only at hJ
  have hK:KeepB nx h' h:=KeepB.sub hE zG (by omega)
  simp [-qt,-qd,-ql]
  obtain ⟨id,acc⟩:=a
  obtain ⟨g0,g1,g2,g3,hJ⟩:=hJ
  dsimp only at g0 g1 g2 g3 hJ ⊢
  have k1:∀ k,(id = n' + k) = False:=fun k=>by simp only [eq_iff_iff,iff_false];omega
  by_cases hi:i < l.length
  ·have hn:=park_rest hi hJ
   repeat' first | done | ((first | ((with_reducible show zT _ _ _ _ _ _);refine zA rfl fun _ => ?_) | ((with_reducible show zK _ _ _ _ _ _ _);refine zH rfl omA omA ?_) | ((with_reducible show zL4 _ _ _ _ _ _ _ _);refine yO rfl rfl (by decide) (by decide) (by (simp [-qt,-qd,-ql,rgs,yM,iv,g2,k1,hi,zE (x:=(i:Int)) (by omega)];rfl)) (by (simp [-qt,-qd,-ql,rgs,yM,iv,g2,k1,hi,zE (x:=(i:Int)) (by omega)];rfl)) (by (simp;done)) (by (simp only [yW,LIM] at *; simp;omega)) (by simp [iv,bv]) ?_)) <;> simp [-qt,-qd,-ql,rgs,yM,iv,g2,k1,hi,zE (x:=(i:Int)) (by omega)]) | ((first | (with_reducible refine zL ?_ ?_) | (with_reducible refine zC ?_ ?_)) <;> intro qb <;> (have qp:=qb;try simp only [psq] at qp) <;> simp [-qt,-qd,-ql,rgs,yM,iv,g2,k1,hi,zE (x:=(i:Int)) (by omega),qb])
   all_goals first
   | (rw [if_pos (by simp_all [zM7])] at hn
      refine hnx.go (n' + 31,acc ++ [(i:Int)]) (by omega) (by simp [zI hi hlim]) (by simp) zG (by first | omega | (simp;omega)) ?_
      dsimp only
      exact ⟨by omega,by omega,by simp [iv],by simp;omega,hn⟩)
   | (rw [if_neg (by simp_all [zM7])] at hn
      refine hnx.go (id,acc) (by omega) (by simp [zI hi hlim]) (by simp) zG (by first | omega | (simp;omega)) ?_
      dsimp only
      exact ⟨by omega,by omega,by simp [g2,k1],by omega,hn⟩)
   | omega
  ·have hi2:¬ ((i:Int) < l.length):=by omega
   rw [List.drop_eq_nil_of_le (by omega),zS1,List.append_nil] at hJ
   subst hJ
   repeat' first | done | (((with_reducible show zT _ _ _ _ _ _);refine zA rfl fun _ => ?_) <;> simp [-qt,-qd,-ql,rgs,iv,g2,k1,hi,hi2]) | fail
   exact zG
theorem s_SpreadStep {F:Nat → Bool} {p:Bool} {t:List Nod} {s:Spr} (ht:uJ t = true) (hs:vF s t = true):PC ctx.P 50 [.view p 5 (t.map yS),.agg (uK F s)] (.tup [.agg (uK (fun _=>true) (zF1 t s)),.int .i64 (zJ4 t s)]):=by
 have hlt:=zC4 ht
 have hso:=hs
 simp only [vF,Bool.and_eq_true,beq_iff_eq,decide_eq_true_eq] at hs
 obtain ⟨s1,s2,s3⟩:=hs
 have hz:∀ (u:Spr) (n:Int),Fz (.tup [.agg (uK (fun _=>true) u),.int .i64 n]):=fun u n=>.tup _ (by simp only [List.mem_cons,List.not_mem_nil,or_false];rintro c (rfl | rfl);exact .agg _ (sprV_fz _);exact .int _ _)
 by_cases hl:s.work.length = 0
 ·have hT:zJ3 t s = false:=by simp [zJ3,hl]
  have hO:zO7 s = false:=by simp [zO7,hl]
  have e1:zF1 t s = s:=by simp [zF1,hT,hO]
  have e2:zJ4 t s = -1:=by simp [zJ4,hT]
  have hlp:((s.work.length:Int) == 0) = true:=by rw [hl];rfl
  rw [e1,e2]
  clear e1 e2 hT hO
  obtain ⟨td,wk⟩:=s
  simp only at hl
  obtain rfl:=List.eq_nil_of_length_eq_zero hl
  refine PC.o okC Tryz.func50 rfl (hz _ _) fun h nx hnx => ?_
  try simp [-qt,-qd,-ql,rgs,hso,ht,hlp,uK,zY hnx]
  repeat' first | done | ((first | ((with_reducible show zT _ _ _ _ _ _);refine zA rfl fun _ => ?_) | ((with_reducible show zD _ _ _ 145 _ _);refine zB (zN1 (t:=t) (s:=⟨td,[]⟩) (F:=F)) ?_) | ((with_reducible show zD _ _ _ 155 _ _);refine zU (f_l7Copy (F:=F) (s:=⟨td,[]⟩) (by simp at s1 ⊢; omega) (by simp)) ?_)) <;> simp [-qt,-qd,-ql,rgs,hso,ht,hlp,uK,zY hnx]) | fail
 ·have hlp:((s.work.length:Int) == 0) = false:=beq_eq_false_iff_ne.2 (by omega)
  have hn:uF (gt s.work 0) t = true:=by
   have:=s3
   simp only [Bool.not_eq_true',List.any_eq_false,Bool.not_eq_true] at this
   have:=this _ (vR (xs:=s.work) (Int.le_refl 0) (by omega))
   simpa using this
  have hb:=s_l7Below (p:=p) ht hn
  have hmo:=moreI_len (t:=t) (n:=gt s.work 0)
  simp only [zE4] at hn
  cases htd:gt s.told (gt s.work 0) with
  | true =>
    have hT:zJ3 t s = false:=by simp [zJ3,htd]
    have hO:zO7 s = true:=by simp [zO7,hl,htd]
    have e1:zF1 t s = ⟨s.told,s.work.tail⟩:=by simp [zF1,hT,hO]
    have e2:zJ4 t s = -1:=by simp [zJ4,hT]
    rw [e1,e2]
    refine PC.o okC Tryz.func50 rfl (hz _ _) fun h nx hnx => ?_
    try simp [-qt,-qd,-ql,rgs,hso,ht,hlp,htd,uK,iv,bv,zY hnx]
    repeat' first | done | ((first | ((with_reducible show zT _ _ _ _ _ _);refine zA rfl fun _ => ?_) | ((with_reducible show zK _ _ _ _ _ _ _);refine zH rfl omA omA ?_) | ((with_reducible show zJ2 _ _ _ _ _ _ _ _);refine slice_from rfl omA omA ?_) | ((with_reducible show zD _ _ _ 145 _ _);refine zB (zN1 (t:=t) (s:=s) (F:=F)) ?_) | ((with_reducible show zD _ _ _ 155 _ _);refine zU (f_l7Copy (F:=F) (s:=s) (by omega) (by omega)) ?_) | ((with_reducible show zL4 _ _ _ _ _ _ _ _);refine yO rfl rfl (by decide) (by decide) (by (simp [-qt,-qd,-ql,rgs,hso,ht,hlp,htd,uK,iv,bv,zY hnx];rfl)) (by (simp [-qt,-qd,-ql,rgs,hso,ht,hlp,htd,uK,iv,bv,zY hnx];rfl)) (by (simp;done)) (by (simp only [yW,LIM] at *; simp;omega)) (by simp [iv,bv]) ?_)) <;> simp [-qt,-qd,-ql,rgs,hso,ht,hlp,htd,uK,iv,bv,zY hnx]) | fail
    exact List.take_of_length_le (by simp)
  | false =>
    have hO:zO7 s = false:=by simp [zO7,htd]
    have hT:zJ3 t s = decide (s.work.length - 1 + (moreI t (gt s.work 0)).length ≤ 240):=by simp [zJ3,hl,htd]
    unfold zF1 zJ4
    rw [hO,hT]
    clear hT
    generalize moreI t (gt s.work 0) = ms at *
    refine PC.o okC Tryz.func50 rfl (hz _ _) fun h nx hnx => ?_
    try simp [-qt,-qd,-ql,rgs,hso,ht,hlp,htd,uK,iv,bv,zY hnx]
    repeat' first | done | ((first | ((with_reducible show zT _ _ _ _ _ _);refine zA rfl fun _ => ?_) | ((with_reducible show zK _ _ _ _ _ _ _);refine zH rfl omA omA ?_) | ((with_reducible show zJ2 _ _ _ _ _ _ _ _);refine slice_from rfl omA omA ?_) | ((with_reducible show zD _ _ _ 145 _ _);refine zB (zN1 (t:=t) (s:=s) (F:=F)) ?_) | ((with_reducible show zD _ _ _ 155 _ _);refine zU (f_l7Copy (F:=F) (s:=s) (by omega) (by omega)) ?_) | (((with_reducible show zK _ _ _ _ (.ref _ _ _ _) _ _);refine zV rfl (by omega) (by omega) ?_)) | ((with_reducible show zL4 _ _ _ _ _ _ _ _);refine yO rfl rfl (by decide) (by decide) (by (simp [-qt,-qd,-ql,rgs,hso,ht,hlp,htd,uK,iv,bv,zY hnx];rfl)) (by (simp [-qt,-qd,-ql,rgs,hso,ht,hlp,htd,uK,iv,bv,zY hnx];rfl)) (by (simp;done)) (by (simp only [yW,LIM] at *; simp;omega)) (by simp [iv,bv]) ?_)) <;> simp [-qt,-qd,-ql,rgs,hso,ht,hlp,htd,uK,iv,bv,zY hnx]) | fail
    have hgt:(s.told.map bv)[(gt s.work 0).toNat]? = some (bv (gt s.told (gt s.work 0))):=by rw [List.getElem?_map,zA9 (by omega) (by omega)];rfl
    refine zH4 (sz:=1) (xs:=s.told.map bv) (cells:=bv (gt s.told (gt s.work 0))) (by simp) (by simp) rfl (by decide) hgt ?_
    rw [show (s.told.map bv).set (gt s.work 0).toNat (splice (bv (gt s.told (gt s.work 0))) 0 [.bool true]) = (s.told.set (gt s.work 0).toNat true).map bv by rw [List.map_set];rfl]
    have hgl:(s.told.set (gt s.work 0).toNat true).length = s.told.length:=by simp
    generalize s.told.set (gt s.work 0).toNat true = td at *
    have ew1:s.work.tail.length = s.work.length - 1:=by simp
    by_cases hbig:s.work.length - 1 + ms.length ≤ 240
    ·have hb2:(240 < ((s.work.length - 1:Nat):Int) + ms.length) = False:=by simp only [eq_iff_iff,iff_false];omega
     simp only [hbig,decide_true,if_true]
     have hml:(s.work.tail ++ ms).length = s.work.length - 1 + ms.length:=by simp
     try simp [-qt,-qd,-ql,rgs,hb2,uK,iv,bv,zY hnx,hgl,zS2 hgl]
     repeat' first | done | ((first | ((with_reducible show zT _ _ _ _ _ _);refine zA rfl fun _ => ?_) | (refine zB (hb) ?_) | ((with_reducible show zL4 _ _ _ _ _ _ _ _);refine yO rfl rfl (by decide) (by decide) (by (simp [-qt,-qd,-ql,rgs,hb2,uK,iv,bv,zY hnx,hgl,zS2 hgl];rfl)) (by (simp [-qt,-qd,-ql,rgs,hb2,uK,iv,bv,zY hnx,hgl,zS2 hgl];rfl)) (by (simp;done)) (by (simp only [yW,LIM] at *; simp;omega)) (by simp [iv,bv]) ?_) | (with_reducible refine zP (i:=11) [(0,[],[]),(1,[],[]),(2,[],[]),(3,[],[]),(4,[.tmp 40],[]),(5,[],[]),(6,[],[]),(7,[],[])] (by kernel_rfl) ?_)) <;> simp [-qt,-qd,-ql,rgs,hb2,uK,iv,bv,zY hnx,hgl,zS2 hgl]) | fail
     exact List.take_of_length_le (by simp)
    ·have hb2:(240 < ((s.work.length - 1:Nat):Int) + ms.length) = True:=by simp only [eq_iff_iff,iff_true];omega
     simp only [hbig,decide_false,Bool.false_eq_true,if_false]
     try simp [-qt,-qd,-ql,rgs,hb2,uK,iv,bv,zY hnx]
     repeat' first | done | ((first | ((with_reducible show zT _ _ _ _ _ _);refine zA rfl fun _ => ?_) | (refine zB (hb) ?_) | ((with_reducible show zD _ _ _ 155 _ _);refine zB (s_l7Copy (F:=F) (s:=s) (by omega) (by omega)) ?_) | ((with_reducible show zL4 _ _ _ _ _ _ _ _);refine yO rfl rfl (by decide) (by decide) (by (simp [-qt,-qd,-ql,rgs,hb2,uK,iv,bv,zY hnx];rfl)) (by (simp [-qt,-qd,-ql,rgs,hb2,uK,iv,bv,zY hnx];rfl)) (by (simp;done)) (by (simp only [yW,LIM] at *; simp;omega)) (by simp [iv,bv]) ?_) | (with_reducible refine zP (i:=11) [(0,[],[]),(1,[],[]),(2,[],[]),(3,[],[]),(4,[.tmp 40],[]),(5,[],[]),(6,[],[]),(7,[],[])] (by kernel_rfl) ?_)) <;> simp [-qt,-qd,-ql,rgs,hb2,uK,iv,bv,zY hnx]) | fail
end Go.AE.Tryz
end
section
/- Contracts of the reference's request to make a step of propagation: tasks go on, functions are queued, timers are forgotten. -/
set_option maxRecDepth 8000
set_option maxHeartbeats 4000000
namespace Go.AE.Tryz
open Go.Proofs
open List renaming map_take → qt,map_drop → qd,map_tail → ql
theorem s_Woken {p:Bool} {l:List Tsk} {why what reg:Int} (ht:vA l = true):PC ctx.P 163 [.view p 9 (l.map yM),.int .i64 why,.int .i64 what,.int .i64 reg] (.view true 9 ((zI3 l why what reg).map yM)):=by
 have hl60:=zK6 ht
 have hpk:=s_ParkedOn (p:=p) (why:=why) (what:=what) ht
 have hps:∀ i ∈ zG2 l why what,0 ≤ i ∧ i < l.length:=fun i hi=>by have:=zM0 hi;exact ⟨this.1,this.2.1⟩
 have hpl:=zR8 (l:=l) (why:=why) (what:=what)
 have hnd:(zG2 l why what).Nodup:=pickI_nd
 unfold zI3
 generalize zG2 l why what = ps at *
 have hlim:ps.length ≤ LIM:=by simp only [LIM];omega
 refine PC.o okC Tryz.func163 rfl (.vmap zE0) fun h nx hnx => ?_
 try simp [-qt,-qd,-ql,rgs,ht]
 repeat' first | done | ((first | ((with_reducible show zD _ _ _ 278 _ _);refine zB (zQ5 (l:=l)) ?_) | (refine zB (hpk) ?_) | ((with_reducible show zL4 _ _ _ _ _ _ _ _);refine yO rfl rfl (by decide) (by decide) (by (simp [-qt,-qd,-ql,rgs,ht];rfl)) (by (simp [-qt,-qd,-ql,rgs,ht];rfl)) (by (simp;done)) (by (simp only [yW,LIM] at *; simp;omega)) (by simp [iv,bv]) ?_)) <;> simp [-qt,-qd,-ql,rgs,ht]) | fail
 refine zR (h0:=h) (nx0:=nx) [11,23,24,25,26,27,28,29,30,31,32,33,34,35,36,37,38,39,40,41,42,43] (ps.length) (fun (i:Nat) a=>[(11,.int .i64 i)]) (fun (i:Nat) (_:Unit) h' n'=>nx + 7 ≤ n' ∧ h' (nx + 6) = some (.row 9 ((zI1 l reg (ps.take i)).map yM))) (()) (by simp) ?_ zG (by omega) ?_
 ·simp [zI1]
 ·intro i a tm h' n' hle hJ hE hn' next hnx
  try dsimp only at hJ
  have hK:KeepB nx h' h:=KeepB.sub hE zG (by omega)
  simp [-qt,-qd,-ql]
  obtain ⟨g0,g1⟩:=hJ
  by_cases hi:i < ps.length
  ·obtain ⟨p0,p1⟩:=hps _ (vR (xs:=ps) (z:=(i:Int)) (by omega) (by omega))
   have hwl:=wakeN_len (l:=l) (reg:=reg) (is:=ps.take i)
   have hnot:gt ps (i:Int) ∉ ps.take i:=by
    rw [yU hi]
    intro hm
    obtain ⟨j,hj,e⟩:=List.mem_take_iff_getElem.1 hm
    have:=(List.pairwise_iff_getElem.1 hnd) j i (by omega) hi (by omega)
    exact this e
   have hgw:=wakeN_get (l:=l) (reg:=reg) (is:=ps.take i) p0 (by omega) (fun k hk=>(hps k (List.mem_of_mem_take hk)).1) hnot
   have hsn:zI1 l reg (ps.take (i + 1)) = (zI1 l reg (ps.take i)).set (gt ps (i:Int)).toNat (vI (gt l (gt ps (i:Int))) reg):=by
    rw [← hgw,← wakeN_snoc,yU hi,List.take_append_getElem hi]
   have hgm:((zI1 l reg (ps.take i)).map yM)[(gt ps (i:Int)).toNat]? = some (yM (gt l (gt ps (i:Int)))):=by rw [List.getElem?_map,zA9 p0 (by omega),hgw];rfl
   generalize zI1 l reg (ps.take i) = m at *
   have hrd:=s_Readied (k:=gt l (gt ps (i:Int))) (reg:=reg) (fun h=>by simp only [zB5,Bool.and_eq_true,vX] at h;omega)
   repeat' first | done | ((first | ((with_reducible show zT _ _ _ _ _ _);refine zA rfl fun _ => ?_) | ((with_reducible show zK _ _ _ _ _ _ _);refine zH rfl omA omA ?_) | (with_reducible refine zP (i:=8) [(0,[],[]),(1,[],[]),(2,[],[]),(3,[],[]),(4,[],[]),(5,[],[]),(6,[],[]),(7,[],[]),(8,[],[]),(9,[],[]),(10,[],[]),(11,[],[]),(12,[],[]),(13,[.tmp 32],[]),(14,[],[]),(15,[],[])] (by kernel_rfl) ?_)) <;> simp [-qt,-qd,-ql,rgs,iv,g1,hi,yM]) | fail
   refine zB hrd ?_
   generalize vI (gt l (gt ps (i:Int))) reg = y at *
   try simp [-qt,-qd,-ql,rgs,iv,g1]
   repeat' first | done | ((((with_reducible show zK _ _ _ _ (.ref _ _ _ _) _ _);refine zV rfl (by omega) (by omega) ?_)) <;> simp [-qt,-qd,-ql,rgs,iv,g1]) | fail
   refine zN8 (sz:=9) (xs:=m.map yM) (vs:=yM y) (cells:=yM (gt l (gt ps (i:Int)))) g1 rfl rfl rfl hgm rfl ?_
   try simp [-qt,-qd,-ql,rgs]
   refine hnx.go () (by omega) (by simp [zI hi hlim]) (by simp) zG (by first | omega | (simp;omega)) ?_
   exact ⟨by omega,by rw [zJ,hsn,List.map_set]⟩
  ·have hi2:¬ ((i:Int) < ps.length):=by omega
   rw [List.take_of_length_le (by omega)] at g1
   have hwl:(zI1 l reg ps).length = l.length:=wakeN_len
   repeat' first | done | (((with_reducible show zT _ _ _ _ _ _);refine zA rfl fun _ => ?_) <;> simp [-qt,-qd,-ql,rgs,g1,hi,hi2,hwl,zS2 hwl]) | fail
   exact zG
theorem s_QueuedBy {F:Nat → Bool} {u:Afs} {n:Int} (ha:zD6 u = true):PC ctx.P 164 [.agg (uZ F u),.int .i64 n] (.agg (uZ (fun _=>true) (queueA u n))):=by
 obtain ⟨a1,a2,-⟩:=afs_facts ha
 have a3:u.slots.ages.length ≤ 64:=by
  have:=(afsOk_iff.1 ha).1
  simp only [zF0,Bool.and_eq_true,vX] at this
  omega
 have hlim:u.list.length ≤ LIM:=by simp only [LIM];omega
 refine PC.o okC Tryz.func164 rfl (.agg _ (afsV_fz _)) fun h nx hnx => ?_
 try simp [-qt,-qd,-ql,rgs,ha,uZ]
 repeat' first | done | ((first | ((with_reducible show zD _ _ _ 277 _ _);refine zB (s_AftersOk (x:=u) (F:=F)) ?_) | ((with_reducible show zD _ _ _ 157 _ _);refine zU (f_l8Copy (F:=F) (s:=u) (by omega) (by omega) (by omega)) ?_)) <;> simp [-qt,-qd,-ql,rgs,ha,uZ]) | fail
 refine zR (h0:=h) (nx0:=nx) [6,13,14,15,16,17,18,19,20,21,22,23,24,25,26,27,28,29,30,31,32] (u.list.length) (fun (i:Nat) a=>[(6,.int .i64 i)]) (fun (i:Nat) (_:Unit) h' n'=>nx + 13 ≤ n' ∧ h' (nx + 11) = some (.row 5 (((u.list.take i).map (zE7 n) ++ u.list.drop i).map vB)) ∧ h' (nx + 1) = some (.obj [.nil,.nil,.nil]) ∧ h' (nx + 7) = some (.obj [.ref (nx + 9) 1 0 u.slots.ages.length,.ref (nx + 10) 1 0 u.slots.used.length,.ref (nx + 11) 5 0 u.list.length]) ∧ h' (nx + 9) = some (.row 1 (u.slots.ages.map iv)) ∧ h' (nx + 10) = some (.row 1 (u.slots.used.map bv))) (()) (by simp) ?_ zG (by omega) ?_
 ·simp
 ·intro i a tm h' n' hle hJ hE hn' next hnx
  try dsimp only at hJ
  have hK:KeepB nx h' h:=KeepB.sub hE zG (by omega)
  simp [-qt,-qd,-ql]
  obtain ⟨g0,g1,g2,g3,g4,g5⟩:=hJ
  by_cases hi:i < u.list.length
  ·obtain ⟨c1,c2,c3⟩:=part_get (f:=zE7 n) hi
   generalize (u.list.take i).map (zE7 n) ++ u.list.drop i = ys at *
   have hgm:(ys.map vB)[i]? = some (vB (gt u.list (i:Int))):=by rw [List.getElem?_map,c1];rfl
   cases hq:(gt u.list (i:Int)).node == n with
   | true =>
     have hqf:zE7 n (gt u.list (i:Int)) = ⟨(gt u.list (i:Int)).han,(gt u.list (i:Int)).node,(gt u.list (i:Int)).fn,true⟩:=by simp [zE7,hq]
     try simp [-qt,-qd,-ql,rgs,g1,g3,hi,hq,vB]
     repeat' first | done | ((first | ((with_reducible show zT _ _ _ _ _ _);refine zA rfl fun _ => ?_) | (((with_reducible show zK _ _ _ _ (.ref _ _ _ _) _ _);refine zV rfl (by omega) (by omega) ?_)) | (((with_reducible show zK8 _ _ _ _ _ _ _ _);refine vT hgm ?_))) <;> simp [-qt,-qd,-ql,rgs,g1,g3,hi,hq,vB]) | fail
     refine zH4 (sz:=5) (xs:=ys.map vB) (cells:=vB (gt u.list (i:Int))) g1 (by simp) rfl (by decide) hgm ?_
     rw [show splice (vB (gt u.list (i:Int))) 4 [.bool true] = vB (zE7 n (gt u.list (i:Int))) by rw [hqf];rfl,← List.map_set,c2]
     try simp [-qt,-qd,-ql,rgs]
     refine hnx.go () (by omega) (by simp [zI hi hlim]) (by simp) zG (by first | omega | (simp;omega)) ?_
     exact ⟨by omega,by rw [zJ];simp,by rw [zF _ _ _ _ (by omega)];exact g2,by rw [zF _ _ _ _ (by omega)];exact g3,by rw [zF _ _ _ _ (by omega)];exact g4,by rw [zF _ _ _ _ (by omega)];exact g5⟩
   | false =>
     have hqf:zE7 n (gt u.list (i:Int)) = gt u.list (i:Int):=by simp [zE7,hq]
     try simp [-qt,-qd,-ql,rgs,g1,g3,hi,hq,vB]
     repeat' first | done | ((first | ((with_reducible show zT _ _ _ _ _ _);refine zA rfl fun _ => ?_) | (((with_reducible show zK _ _ _ _ (.ref _ _ _ _) _ _);refine zV rfl (by omega) (by omega) ?_)) | (((with_reducible show zK8 _ _ _ _ _ _ _ _);refine vT hgm ?_))) <;> simp [-qt,-qd,-ql,rgs,g1,g3,hi,hq,vB]) | fail
     refine hnx.go () (by omega) (by simp [zI hi hlim]) (by simp) zG (by first | omega | (simp;omega)) ?_
     exact ⟨by omega,by rw [c3 hqf];exact g1,g2,g3,g4,g5⟩
  ·have hi2:¬ ((i:Int) < u.list.length):=by omega
   rw [List.take_of_length_le (by omega),List.drop_eq_nil_of_le (by omega),List.append_nil] at g1
   try simp [-qt,-qd,-ql,rgs,g1,g2,g3,g4,g5,hi,hi2,queueA]
   repeat' first | done | (((with_reducible show zT _ _ _ _ _ _);refine zA rfl fun _ => ?_) <;> simp [-qt,-qd,-ql,rgs,g1,g2,g3,g4,g5,hi,hi2,queueA]) | fail
   trivial
theorem s_StoppedN {F:Nat → Bool} {t:Tms} {s:Int} (ht:vZ t = true) (h0:¬ 0 ≤ yE t.list s):PC ctx.P 284 [.agg (vM F t),.int .i64 s] (.tup [.agg (vM (fun _=>true) t),.bool false]):=by
 obtain ⟨-,t2,t3,-,-,-⟩:=uO.1 ht
 have hn:(yE t.list s < 0) = True:=by simp only [eq_iff_iff,iff_true];omega
 refine PC.o okC Tryz.func284 rfl (.tup _ (by simp only [List.mem_cons,List.not_mem_nil,or_false];rintro c (rfl | rfl);exact .agg _ (tmsV_fz _);exact .bool _)) fun h nx hnx => ?_
 try simp [-qt,-qd,-ql,rgs,ht,hn,vM,zY hnx]
 repeat' first | done | ((first | ((with_reducible show zD _ _ _ 275 _ _);refine zB (zI8 (t:=t) (F:=F)) ?_) | ((with_reducible show zD _ _ _ 156 _ _);refine zU (f_l4Copy (F:=F) (s:=t) (by omega) (by omega)) ?_) | ((with_reducible show zD _ _ _ 285 _ _);refine zB (s_l4At (t:=t) (F:=F)) ?_)) <;> simp [-qt,-qd,-ql,rgs,ht,hn,vM,zY hnx]) | fail
theorem s_ForgottenN {F:Nat → Bool} {t:Tms} {s:Int} (ht:vZ t = true):∃ b,PC ctx.P 162 [.agg (vM F t),.int .i64 s] (.tup [.agg (vM (fun _=>true) (uP t s)),.bool b]):=by
 by_cases h0:0 ≤ yE t.list s
 ·exact ⟨_,s_Forgotten ht h0⟩
 ·refine ⟨false,?_⟩
  have hst:=s_StoppedN (F:=F) ht h0
  have hn:(yE t.list s < 0) = True:=by simp only [eq_iff_iff,iff_true];omega
  have e:uP t s = t:=by
   have e1:vO t s = t:=by simp [vO,zF2,h0]
   unfold uP dropT;rw [e1,if_neg h0]
  rw [e]
  refine PC.o okC Tryz.func162 rfl (.tup _ (by simp only [List.mem_cons,List.not_mem_nil,or_false];rintro c (rfl | rfl);exact .agg _ (tmsV_fz _);exact .bool _)) fun h nx hnx => ?_
  try simp [-qt,-qd,-ql,rgs,ht,hn,vM,zY hnx]
  repeat' first | done | ((first | ((with_reducible show zD _ _ _ 275 _ _);refine zB (zI8 (t:=t) (F:=F)) ?_) | (refine zB (hst) ?_) | ((with_reducible show zD _ _ _ 285 _ _);refine zB (s_l4At (t:=t) (F:=F)) ?_)) <;> simp [-qt,-qd,-ql,rgs,ht,hn,vM,zY hnx]) | fail
end Go.AE.Tryz
end
section
/- Contracts of the reference's request to make a step of propagation: the whole. -/
set_option maxRecDepth 8000
set_option maxHeartbeats 4000000
namespace Go.AE.Tryz
open Go.Proofs
open List renaming map_take → qt,map_drop → qd,map_tail → ql
theorem s_l15Tell {w:Wld} {n:Int} (htm:vZ w.timers = true) (htk:vA w.tasks = true) (haf:zD6 w.afters = true):PC ctx.P 51 [.agg (wldV (fun _=>true) w),.int .i64 n] (.agg (wldV (fun _=>true) (toldW w n))):=by
 have h60:=zK6 htk
 have hok:=fun L=>zS6 (ss:=L) htm
 have hpk:=s_ParkedOn (p:=true) (why:=2) (what:=n) htk
 have hps:∀ i ∈ zG2 w.tasks 2 n,0 ≤ i ∧ i < w.tasks.length:=fun i hi=>by have:=zM0 hi;exact ⟨this.1,this.2.1⟩
 have hpl:=zR8 (l:=w.tasks) (why:=2) (what:=n)
 have hss:napsI w n = (zG2 w.tasks 2 n).map (fun i=>(gt w.tasks i).timer):=rfl
 have hw1:=s_Woken (p:=true) (l:=w.tasks) (why:=1) (what:=n) (reg:=1) htk
 have hw2:=s_Woken (p:=true) (l:=zI3 w.tasks 1 n 1) (why:=2) (what:=n) (reg:=2) (tasksOk_wake htk)
 have hqu:=s_QueuedBy (F:=fun _=>true) (n:=n) haf
 unfold toldW forgetL
 generalize zG2 w.tasks 2 n = ps at *
 generalize zI3 (zI3 w.tasks 1 n 1) 2 n 2 = l2 at *
 generalize zI3 w.tasks 1 n 1 = l1 at *
 generalize queueA w.afters n = q at *
 have hlim:ps.length ≤ LIM:=by simp only [LIM];omega
 refine PC.o okC Tryz.func51 rfl (wldV_fz _) fun h nx hnx => ?_
 try simp [-qt,-qd,-ql,rgs,wldV]
 repeat' first | done | ((refine zB (hpk) ?_) <;> simp [-qt,-qd,-ql,rgs,wldV]) | fail
 refine zR (h0:=h) (nx0:=nx) [6,13,14,15,16,17,18,19,20,21,22,23,24,25,26,27,28,29,30,31,32,33,34] (ps.length) (fun (i:Nat) a=>[(6,.int .i64 i)]) (fun (i:Nat) (_:Unit) h' n'=>nx + 8 ≤ n' ∧ h' nx = some (.obj (wldV (fun _=>true) (mkT w w.spread (zB6 w.timers ((ps.take i).map fun i=>(gt w.tasks i).timer)) w.afters w.tasks))) ∧ h' (nx + 1) = some (.obj zeroC)) (()) (by simp) ?_ zG (by omega) ?_
 ·refine ⟨Nat.le_refl _,?_,?_⟩
  ·rw [zF _ _ _ _ (by omega),zJ];simp [wldV,mkT,zB6]
  ·rw [zJ];rfl
 ·intro i a tm h' n' hle hJ hE hn' next hnx
  try dsimp only at hJ
  have hK:KeepB nx h' h:=KeepB.sub hE zG (by omega)
  simp [-qt,-qd,-ql]
  obtain ⟨g0,g1,g2⟩:=hJ
  by_cases hi:i < ps.length
  ·obtain ⟨p0,p1⟩:=hps _ (vR (xs:=ps) (z:=(i:Int)) (by omega) (by omega))
   have hokT:=hok ((ps.take i).map fun i=>(gt w.tasks i).timer)
   have hsn:zB6 w.timers ((ps.take (i + 1)).map fun i=>(gt w.tasks i).timer) = uP (zB6 w.timers ((ps.take i).map fun i=>(gt w.tasks i).timer)) (gt w.tasks (gt ps (i:Int))).timer:=by
    rw [← forgetN_snoc,← List.take_append_getElem hi,List.map_append,yU hi];rfl
   generalize zB6 w.timers ((ps.take i).map fun i=>(gt w.tasks i).timer) = T at *
   obtain ⟨b,hf⟩:=s_ForgottenN (F:=fun _=>true) (s:=(gt w.tasks (gt ps (i:Int))).timer) hokT
   have g1':=g1
   simp only [wldV,mkT] at g1'
   repeat' first | done | ((first | ((with_reducible show zT _ _ _ _ _ _);refine zA rfl fun _ => ?_) | ((with_reducible show zK _ _ _ _ _ _ _);refine zH rfl omA omA ?_) | (with_reducible refine zP (i:=5) [(0,[],[]),(1,[],[]),(2,[],[]),(3,[],[]),(4,[],[]),(5,[],[]),(6,[],[]),(7,[],[]),(8,[],[]),(9,[],[]),(10,[],[]),(11,[],[]),(12,[],[]),(13,[],[]),(14,[],[]),(15,[],[]),(16,[],[])] (by kernel_rfl) ?_)) <;> simp [-qt,-qd,-ql,rgs,g1',hi,iv,yM]) | fail
   refine zB hf ?_
   generalize uP T (gt w.tasks (gt ps (i:Int))).timer = T2 at *
   try simp [-qt,-qd,-ql,rgs,g1',vM]
   refine hnx.go () (by omega) (by simp [zI hi hlim]) (by simp) zG (by first | omega | (simp;omega)) ?_
   refine ⟨by omega,?_,?_⟩
   ·rw [zJ,hsn];simp [wldV,mkT]
   ·rw [zF _ _ _ _ (by omega)];exact g2
  ·have hi2:¬ ((i:Int) < ps.length):=by omega
   rw [List.take_of_length_le (by omega),← hss] at g1
   have hokT:=hok (napsI w n)
   clear hok hss
   generalize zB6 w.timers (napsI w n) = T at *
   have g1':=g1
   simp only [wldV,mkT] at g1'
   clear hnx
   have hlim2:T.list.length ≤ LIM:=by have:=(uO.1 hokT).2.1;simp only [LIM];omega
   have hok2:=fun L=>zS5 (n:=n) (l:=L) hokT
   repeat' first | done | ((first | ((with_reducible show zT _ _ _ _ _ _);refine zA rfl fun _ => ?_) | (refine zB (hw1) ?_) | (refine zB (hw2) ?_)) <;> simp [-qt,-qd,-ql,rgs,g1',hi,hi2]) | fail
   refine zR (h0:=h) (nx0:=nx) [8,48,49,50,51,52,53,54,55,56,57,58,59,60,61,62,63,64,65,66,67,68,69,70,71,72,73,74,75,76,77,78,79,80] (T.list.length) (fun (i:Nat) a=>[(8,.int .i64 i)]) (fun (i:Nat) (_:Unit) h2 m'=>n' ≤ m' ∧ h2 nx = some (.obj (wldV (fun _=>true) (mkT w w.spread (uQ n T (T.list.take i)) w.afters l2))) ∧ h2 (nx + 1) = some (.obj zeroC)) (()) (by simp) ?_ zG (by omega) ?_
   ·refine ⟨by omega,?_,?_⟩
    ·rw [zJ];simp [wldV,mkT,uQ]
    ·rw [zF _ _ _ _ (by omega),zF _ _ _ _ (by omega)];exact g2
   ·intro j b tm2 h2 n2 hle2 hJ2 hE2 hn2 next2 hnx2
    try dsimp only at hJ2
    have hK2:KeepB nx h2 h:=KeepB.sub hE2 zG (by omega)
    simp [-qt,-qd,-ql]
    obtain ⟨d0,d1,d2⟩:=hJ2
    by_cases hj:j < T.list.length
    ·have hokU:=hok2 (T.list.take j)
     have hsn:uQ n T (T.list.take (j + 1)) = if zM5 n (gt T.list (j:Int)) = true then uP (uQ n T (T.list.take j)) (gt T.list (j:Int)).seq else uQ n T (T.list.take j):=by
      rw [← forgetA_snoc,yU hj,List.take_append_getElem hj]
     generalize uQ n T (T.list.take j) = U at *
     obtain ⟨b,hf⟩:=s_ForgottenN (F:=fun _=>true) (s:=(gt T.list (j:Int)).seq) hokU
     have d1':=d1
     simp only [wldV,mkT] at d1'
     cases hof:zM5 n (gt T.list (j:Int)) with
     | true =>
       rw [hof,if_pos rfl] at hsn
       have hof2:=hof
       simp only [zM5,Bool.and_eq_true] at hof2
       repeat' first | done | ((first | ((with_reducible show zT _ _ _ _ _ _);refine zA rfl fun _ => ?_) | ((with_reducible show zK _ _ _ _ _ _ _);refine zH rfl omA omA ?_) | (with_reducible refine zP (i:=13) [(0,[],[]),(1,[],[]),(2,[],[]),(3,[],[]),(4,[],[]),(5,[],[]),(6,[],[]),(7,[],[]),(8,[],[]),(9,[],[]),(10,[],[]),(11,[],[]),(12,[],[])] (by kernel_rfl) ?_)) <;> simp [-qt,-qd,-ql,rgs,d1',hj,yN,hof2.1,hof2.2]) | fail
       refine zB hf ?_
       generalize uP U (gt T.list (j:Int)).seq = U2 at *
       try simp [-qt,-qd,-ql,rgs,d1',vM]
       refine hnx2.go () (by omega) (by simp [zI hj hlim2]) (by simp) zG (by first | omega | (simp;omega)) ?_
       refine ⟨by omega,?_,?_⟩
       ·rw [zJ,hsn];simp [wldV,mkT]
       ·rw [zF _ _ _ _ (by omega)];exact d2
     | false =>
       rw [hof] at hsn
       simp only [Bool.false_eq_true,if_false] at hsn
       cases hq1:(gt T.list (j:Int)).what == 0 with
       | true =>
         have hq2:((gt T.list (j:Int)).whom == n) = false:=by simpa [zM5,hq1] using hof
         repeat' first | done | ((first | ((with_reducible show zT _ _ _ _ _ _);refine zA rfl fun _ => ?_) | ((with_reducible show zK _ _ _ _ _ _ _);refine zH rfl omA omA ?_)) <;> simp [-qt,-qd,-ql,rgs,d1',hj,yN,hq1,hq2]) | fail
         refine hnx2.go () (by omega) (by simp [zI hj hlim2]) (by simp) zG (by first | omega | (simp;omega)) ?_
         exact ⟨by omega,by rw [hsn];exact d1,d2⟩
       | false =>
         repeat' first | done | ((first | ((with_reducible show zT _ _ _ _ _ _);refine zA rfl fun _ => ?_) | ((with_reducible show zK _ _ _ _ _ _ _);refine zH rfl omA omA ?_)) <;> simp [-qt,-qd,-ql,rgs,d1',hj,yN,hq1]) | fail
         refine hnx2.go () (by omega) (by simp [zI hj hlim2]) (by simp) zG (by first | omega | (simp;omega)) ?_
         exact ⟨by omega,by rw [hsn];exact d1,d2⟩
    ·have hj2:¬ ((j:Int) < T.list.length):=by omega
     rw [List.take_of_length_le (by omega)] at d1
     generalize uQ n T T.list = U at *
     simp only [wldV,mkT] at d1
     simp only [zeroC] at d2
     try simp [-qt,-qd,-ql,rgs,d1,d2,hj,hj2,uZ,mkT]
     repeat' first | done | ((first | ((with_reducible show zT _ _ _ _ _ _);refine zA rfl fun _ => ?_) | (refine zB (hqu) ?_)) <;> simp [-qt,-qd,-ql,rgs,d1,d2,hj,hj2,uZ,mkT]) | fail
     exact zG
theorem s_TellIn {F:Nat → Bool} {w:Wld} (hs:zB8 w ≤ 1048576):PC ctx.P 18 [.agg (wldV F w)] (.tup [.agg (wldV (fun _=>true) (zL3 w)),.bool (zR5 w)]):=by
 have hz:∀ (u:Wld) (b:Bool),Fz (.tup [.agg (wldV (fun _=>true) u),.bool b]):=fun u b=>.tup _ (by simp only [List.mem_cons,List.not_mem_nil,or_false];rintro c (rfl | rfl);exact wldV_fz _;exact .bool _)
 by_cases hw:zB1 w = true
 ·have he:=wldOk_ev hw
  have ht:=zC7 he
  have hsp:vF w.spread w.tree = true:=(zE8 hw).2.2.2.2.1
  have htm:vZ w.timers = true:=(zE8 hw).2.2.2.2.2.2.1
  have haf:zD6 w.afters = true:=(zE8 hw).2.2.2.2.2.2.2.2.1
  have htk:vA w.tasks = true:=wldOk_tasks hw
  have hl13:=s_l13Copy (w:=w) (F:=F) hs
  have hstp:=s_SpreadStep (F:=F) (p:=F 2) ht hsp
  have r0:zL3 w = if (zR2 w && zB1 (tellW w)) = true then tellW w else w:=by simp [zL3,askW,hw]
  have r1:zR5 w = (zR2 w && zB1 (tellW w)):=by simp [zR5,askB,hw]
  rw [r0,r1]
  clear r0 r1
  cases hT:zJ3 w.tree w.spread with
  | true =>
    have hl:w.spread.work.length ≠ 0:=by intro e;simp [zJ3,e] at hT
    have hlp:((w.spread.work.length:Int) == 0) = false:=beq_eq_false_iff_ne.2 (by omega)
    have hn:uF (gt w.spread.work 0) w.tree = true:=by
     have hs2:=hsp
     simp only [vF,Bool.and_eq_true,Bool.not_eq_true',List.any_eq_false,Bool.not_eq_true] at hs2
     have:=hs2.2.2 _ (vR (xs:=w.spread.work) (Int.le_refl 0) (by omega))
     simpa using this
    simp only [zE4] at hn
    have hB:zR2 w = true:=by simp [zR2,stepB,hT]
    have hN:zJ4 w.tree w.spread = gt w.spread.work 0:=by simp [zJ4,hT]
    have hW:tellW w = toldW (setS w (zF1 w.tree w.spread)) (gt w.spread.work 0):=by simp [tellW,hT]
    have h15:=s_l15Tell (w:=setS w (zF1 w.tree w.spread)) (n:=gt w.spread.work 0) htm htk haf
    have hge:(0 ≤ gt w.spread.work 0) = True:=by simp [hn.1]
    have hlt:(gt w.spread.work 0 < 0) = False:=by simp only [eq_iff_iff,iff_false];omega
    rw [hN] at hstp
    rw [hB,hW,Bool.true_and]
    generalize toldW (setS w (zF1 w.tree w.spread)) (gt w.spread.work 0) = W at *
    have hE:=s_l14Either (w:=w) (u:=W) (F:=F) hs
    generalize (if zB1 W = true then W else w) = V at *
    generalize zB1 W = vb at *
    refine PC.o okC Tryz.func18 rfl (hz _ _) fun h nx hnx => ?_
    try simp [-qt,-qd,-ql,rgs,hw,hlp,hge,hlt,wldV,uK,setS,mkW]
    repeat' first | done | ((first | ((with_reducible show zT _ _ _ _ _ _);refine zA rfl fun _ => ?_) | ((with_reducible show zD _ _ _ 48 _ _);refine zB (zH5 (w:=w) (F:=F)) ?_) | (refine zB (hl13) ?_) | (refine zB (hstp) ?_) | (refine zB (h15) ?_) | (refine zB (hE) ?_)) <;> simp [-qt,-qd,-ql,rgs,hw,hlp,hge,hlt,wldV,uK,setS,mkW]) | fail
  | false =>
    have hN:zJ4 w.tree w.spread = -1:=by simp [zJ4,hT]
    rw [hN] at hstp
    cases hO:zO7 w.spread with
    | true =>
      have hl:w.spread.work.length ≠ 0:=by intro e;simp [zO7,e] at hO
      have hlp:((w.spread.work.length:Int) == 0) = false:=beq_eq_false_iff_ne.2 (by omega)
      have hB:zR2 w = true:=by simp [zR2,stepB,hT,hO]
      have hS:zF1 w.tree w.spread = ⟨w.spread.told,w.spread.work.tail⟩:=by simp [zF1,hT,hO]
      have hW:tellW w = setS w ⟨w.spread.told,w.spread.work.tail⟩:=by simp [tellW,hT,hS]
      rw [hS] at hstp
      rw [hB,hW,Bool.true_and]
      have hE:=s_l14Either (w:=w) (u:=setS w ⟨w.spread.told,w.spread.work.tail⟩) (F:=F) hs
      generalize (if zB1 (setS w ⟨w.spread.told,w.spread.work.tail⟩) = true then setS w ⟨w.spread.told,w.spread.work.tail⟩ else w) = V at *
      generalize zB1 (setS w ⟨w.spread.told,w.spread.work.tail⟩) = vb at *
      have hlq:(((w.spread.work.length - 1:Nat):Int) == (w.spread.work.length:Int)) = false:=beq_eq_false_iff_ne.2 (by omega)
      refine PC.o okC Tryz.func18 rfl (hz _ _) fun h nx hnx => ?_
      try simp [-qt,-qd,-ql,rgs,hw,hlp,hlq,wldV,uK,setS,mkW]
      repeat' first | done | ((first | ((with_reducible show zT _ _ _ _ _ _);refine zA rfl fun _ => ?_) | ((with_reducible show zD _ _ _ 48 _ _);refine zB (zH5 (w:=w) (F:=F)) ?_) | (refine zB (hl13) ?_) | (refine zB (hstp) ?_) | (refine zB (hE) ?_)) <;> simp [-qt,-qd,-ql,rgs,hw,hlp,hlq,wldV,uK,setS,mkW]) | fail
    | false =>
      have hB:zR2 w = false:=by simp [zR2,stepB,hT,hO]
      have hS:zF1 w.tree w.spread = w.spread:=by simp [zF1,hT,hO]
      rw [hS] at hstp
      rw [hB,Bool.false_and]
      simp only [Bool.false_eq_true,if_false]
      refine PC.o okC Tryz.func18 rfl (hz _ _) fun h nx hnx => ?_
      by_cases hl:w.spread.work.length = 0
      ·have hlp:((w.spread.work.length:Int) == 0) = true:=by rw [hl];rfl
       try simp [-qt,-qd,-ql,rgs,hw,hlp,wldV,uK]
       repeat' first | done | ((first | ((with_reducible show zT _ _ _ _ _ _);refine zA rfl fun _ => ?_) | ((with_reducible show zD _ _ _ 48 _ _);refine zB (zH5 (w:=w) (F:=F)) ?_) | (refine zB (hl13) ?_) | (refine zB (hstp) ?_)) <;> simp [-qt,-qd,-ql,rgs,hw,hlp,wldV,uK]) | fail
      ·have hlp:((w.spread.work.length:Int) == 0) = false:=beq_eq_false_iff_ne.2 (by omega)
       try simp [-qt,-qd,-ql,rgs,hw,hlp,wldV,uK]
       repeat' first | done | ((first | ((with_reducible show zT _ _ _ _ _ _);refine zA rfl fun _ => ?_) | ((with_reducible show zD _ _ _ 48 _ _);refine zB (zH5 (w:=w) (F:=F)) ?_) | (refine zB (hl13) ?_) | (refine zB (hstp) ?_)) <;> simp [-qt,-qd,-ql,rgs,hw,hlp,wldV,uK]) | fail
 ·have g1:zL3 w = default:=by simp [zL3,askW,hw]
  have g2:zR5 w = false:=by simp [zR5,askB,hw]
  rw [g1,g2]
  refine PC.nv (r:=.tup [.agg zeroC,.bool false]) ?_ (.tups (.cons (.aggs nvs_world) (.cons (.same _) .nil)))
  refine PC.o okC Tryz.func18 rfl (.tup _ (by simp only [List.mem_cons,List.not_mem_nil,or_false];rintro c (rfl | rfl);exact zeroC_fz;exact .bool _)) fun h nx hnx => ?_
  try simp [-qt,-qd,-ql,rgs,hw,wldV,zeroC]
  repeat' first | done | (((with_reducible show zD _ _ _ 48 _ _);refine zB (zH5 (w:=w) (F:=F)) ?_) <;> simp [-qt,-qd,-ql,rgs,hw,wldV,zeroC]) | fail
end Go.AE.Tryz
end
section
/- The law of a step of propagation: what the program and the reference make of a world is the same, in memory of its own. -/
set_option maxRecDepth 8000
set_option maxHeartbeats 4000000
namespace Go.AE.Tryz
open Go.Proofs
open List renaming map_take → qt,map_drop → qd,map_tail → ql
theorem law_TellIn {w:Wld}  : PC ctx.P 5 [.agg (wldV (fun _=>true) w)] (.bool true):=by
 by_cases hs:zB8 w ≤ 1048576
 ·have e:szR (zB8 w) 1048576 = 1048576 - zB8 w:=by rcases uM (zB8 w) 1048576 with q | q <;> omega
  have hs2:zB8 (zL3 w) ≤ 1048576:=ask_sz hs
  have hcB:∀ (F:Nat → Bool),WC ctx.P 20 [.agg (wldV F w)] (fun X=>.tup [.agg (zB7 X (zL3 w)),.bool (zR5 w)]) (zL3 w):=fun F=>w_TellIn hs
  have hcS:=s_TellIn (F:=fun _=>true) hs
  generalize zL3 w = W at *
  generalize zR5 w = B at *
  refine PC.o okC Tryz.func5 rfl (.bool _) fun h nx hnx => ?_
  try simp [-qt,-qd,-ql,rgs,e,zB4,zF7,zB3]
  repeat' first | done | (((with_reducible show zD _ _ _ 17 _ _);refine zB (c_szWorld (s:=w) (F:=fun _=>true) (by omega) (by omega)) ?_) <;> simp [-qt,-qd,-ql,rgs,e,zB4,zF7,zB3]) | ((with_reducible refine zC ?_ ?_) <;> intro qb <;> (have qp:=qb;try simp only [psq] at qp) <;> simp [-qt,-qd,-ql,rgs,e,zB4,zF7,zB3,qb])
  all_goals first | omega | skip
  refine zB (s_toWorld (s:=w) (F:=fun _=>true) hs) ?_
  try simp [-qt,-qd,-ql,rgs,zB4,zF7,zB3]
  repeat' first | done | ((refine zB (hcS) ?_) <;> simp [-qt,-qd,-ql,rgs,zB4,zF7,zB3]) | fail
  refine yP (w_toWorld (F:=fun _=>true) hs) trivial ?_
  rintro r h1 n1 ⟨hK1,X,rfl,V1,hid1⟩ hle1 hfr1
  dsimp only at hK1 hid1 hle1
  try simp [-qt,-qd,-ql,rgs,yL X w,vV,vG]
  refine call_wcB (hcB FF) (fun X=>rrW_cl X W B) ?hb ?_
  case hb=>exact .cons (.agg1 (V1.keep fun id hid=>by have:=hid1 id hid;dsimp only;repeat rw [zF _ _ _ _ (by omega)]).bors) (.nil)
  intro X2 h2 n2 V2 hid2 hle2 hf2
  dsimp only at hid2 hle2 hf2
  have nX2:∀ j,j < n1 + 8 ∨ n2 ≤ j → j ∉ X2.ids:=fun j hj hm=>by have:=hid2 j hm;omega
  have oS2:h2 (nx + 15) = some (.obj (wldV (fun _=>true) W)):=by
   rw [hf2 _ (nX2 _ (by omega))]
   repeat rw [zF _ _ _ _ (by omega)]
   rw [hK1 _ (by omega),zJ]
  have n16:(nx + 15 = n1 + 5) = False:=by simp only [eq_iff_iff,iff_false];omega
  try simp [-qt,-qd,-ql,rgs,n16,oS2,zB4,zF7,zB3,yL X2 W,vV,vG]
  generalize hH:upd (upd h2 (n1 + 5) _) (n1 + 5) (some (Ent.obj (zB7 X2 W))) = H3
  have hX:∀ j ∈ X.ids,nx + 22 ≤ j ∧ j < n1:=hid1
  have hX2:∀ j ∈ X2.ids,n1 + 8 ≤ j ∧ j < n2:=hid2
  have nX:∀ j,j < nx + 22 ∨ n1 ≤ j → j ∉ X.ids:=fun j hj hm=>by have:=hX j hm;omega
  have V3:WV H3 X w:=hH ▸ (V1.keep fun id hid=>by have:=hX id hid;(repeat rw [zF _ _ _ _ (by omega)]);rw [hf2 id (nX2 _ (by omega))];repeat rw [zF _ _ _ _ (by omega)])
  have G3:WV H3 X2 W:=hH ▸ (V2.keep fun id hid=>by have:=hX2 id hid;repeat rw [zF _ _ _ _ (by omega)])
  have oG3:H3 (n1 + 5) = some (.obj (zB7 X2 W)):=by rw [← hH,zJ]
  have oX3:H3 (nx + 20) = some (.obj (zB7 X w)):=by
   rw [← hH]
   repeat rw [zF _ _ _ _ (by omega)]
   rw [hf2 _ (nX2 _ (by omega)),zJ]
  have oS3:H3 (nx + 15) = some (.obj (wldV (fun _=>true) W)):=by
   rw [← hH]
   repeat rw [zF _ _ _ _ (by omega)]
   rw [hf2 _ (nX2 _ (by omega))]
   repeat rw [zF _ _ _ _ (by omega)]
   rw [hK1 _ (by omega),zJ]
  have oA3:H3 nx = some (.obj (wldV (fun _=>true) w)):=by
   rw [← hH]
   repeat rw [zF _ _ _ _ (by omega)]
   rw [hf2 _ (nX2 _ (by omega))]
   repeat rw [zF _ _ _ _ (by omega)]
   rw [hK1 _ (by omega)]
   repeat rw [zF _ _ _ _ (by omega)]
   rw [zJ]
  have K3:KeepB nx H3 h:=fun j hj=>by
   rw [← hH]
   repeat rw [zF _ _ _ _ (by omega)]
   rw [hf2 _ (nX2 _ (by omega))]
   repeat rw [zF _ _ _ _ (by omega)]
   rw [hK1 _ (by omega)]
   repeat rw [zF _ _ _ _ (by omega)]
  clear hH hf2 hK1 V1 V2 hid1 hid2
  refine yG (zS3 (x:=W) (y:=W) (F1:=FF) (F2:=fun _=>true)) (.bool _) ?hb3 ?_
  case hb3=>exact .cons (.agg1 G3.bors) (.cons (.same _) .nil)
  try simp [-qt,-qd,-ql,rgs,oG3,oS3,oX3,oA3,zB4,zF7,zB3,yL X w,yL X2 W,vV,vG]
  repeat' first | done | ((first | ((with_reducible show zD _ _ _ 19 _ _);refine zB (s_toWorld (s:=w) (F:=fun _=>true) hs) ?_) | (with_reducible refine zP (i:=10) [(0,[],[]),(1,[],[]),(2,[.tmp 6],[]),(3,[],[]),(4,[],[])] (by kernel_rfl) ?_)) <;> simp [-qt,-qd,-ql,rgs,oG3,oS3,oX3,oA3,zB4,zF7,zB3,yL X w,yL X2 W,vV,vG]) | fail
  refine yG (zS3 (x:=w) (y:=w) (F1:=FF) (F2:=fun _=>true)) (.bool _) ?hb4 ?_
  case hb4=>exact .cons (.agg1 V3.bors) (.cons (.same _) .nil)
  try simp [-qt,-qd,-ql,rgs,oX3,zB4,zF7,zB3,yL X w,yL X2 W,vV,vG]
  refine yP (m_markWorld (X:=X) (w:=w) (k:=1) hs (by omega) (by omega)) V3 ?_
  rintro r H4 n4 ⟨rfl,V4,f4⟩ hle4 hfr4
  dsimp only at V4 f4 hle4
  have oG4:=f4 (n1 + 5) (by omega) (nX _ (by omega))
  have oS4:=f4 (nx + 15) (by omega) (nX _ (by omega))
  have oA4:=f4 nx (by omega) (nX _ (by omega))
  rw [oG3] at oG4
  rw [oS3] at oS4
  rw [oA3] at oA4
  have G4:WV H4 X2 W:=G3.keep fun id hid=>f4 id (by have:=hX2 id hid;omega) (nX _ (by have:=hX2 id hid;omega))
  have K4:KeepB nx H4 h:=fun j hj=>by rw [f4 j (by omega) (nX _ (by omega)),K3 j hj]
  have z4:(kZ w 1 < 0) = False:=by
   simp only [eq_iff_iff,iff_false]
   simp only [kZ,kR,kB,kV,kG,kK,kF,kU,kA,kL,kH,kW,kS,kE,kT];omega
  clear hfr4
  try simp [-qt,-qd,-ql,rgs,z4,oG4,oS4,zB4,zF7,zB3,yL X w,yL X2 W,vV,vG]
  refine yG (zS3 (x:=W) (y:=W) (F1:=FF) (F2:=fun _=>true)) (.bool _) ?hb5 ?_
  case hb5=>exact .cons (.agg1 G4.bors) (.cons (.same _) .nil)
  try simp [-qt,-qd,-ql,rgs,z4,oG4,oS4,zB4,zF7,zB3,yL X w,yL X2 W,vV,vG]
  refine yP (m_markWorld (X:=X2) (w:=W) (k:=1) hs2 (by omega) (by omega)) G4 ?_
  rintro r H5 n5 ⟨rfl,G5,f5⟩ hle5 hfr5
  dsimp only at G5 f5 hle5
  have oG5:=f5 (n1 + 5) (by omega) (nX2 _ (by omega))
  have oS5:=f5 (nx + 15) (by omega) (nX2 _ (by omega))
  have oA5:=f5 nx (by omega) (nX2 _ (by omega))
  rw [oG4] at oG5
  rw [oS4] at oS5
  rw [oA4] at oA5
  have K5:KeepB nx H5 h:=fun j hj=>by rw [f5 j (by omega) (nX2 _ (by omega)),K4 j hj]
  have z5:(kZ W 1 < 0) = False:=by
   simp only [eq_iff_iff,iff_false]
   simp only [kZ,kR,kB,kV,kG,kK,kF,kU,kA,kL,kH,kW,kS,kE,kT];omega
  clear hfr5
  try simp [-qt,-qd,-ql,rgs,z5,oG5,zB4,zF7,zB3,yL X w,yL X2 W,vV,vG]
  refine yG (h_heldWorld (F:=FF) (w:=W) (k:=1) hs2 (by omega) (by omega)) (.int _ _) ?hb6 ?_
  case hb6=>exact .cons (.agg1 (wldR_mk X2 W 1 ▸ G5.bors)) (.cons (.same _) .nil)
  try simp [-qt,-qd,-ql,rgs,z5,oA5,zB4,zF7,zB3,yL X w,yL X2 W,vV,vG]
  repeat' first | done | (((with_reducible show zD _ _ _ 19 _ _);refine zB (s_toWorld (s:=w) (F:=fun _=>true) hs) ?_) <;> simp [-qt,-qd,-ql,rgs,z5,oA5,zB4,zF7,zB3,yL X w,yL X2 W,vV,vG]) | fail
  refine call_wc (hcB _) ?_
  intro X6 H6 n6 V6 hid6 hle6 f6
  dsimp only at hid6 hle6 f6
  have nX6:∀ j,j < n5 → j ∉ X6.ids:=fun j hj hm=>by have:=hid6 j hm;omega
  have oG6:=f6 (n1 + 5) (nX6 _ (by omega))
  have oS6:=f6 (nx + 15) (nX6 _ (by omega))
  rw [oG5] at oG6
  rw [oS5] at oS6
  have G6:WV H6 X2 (mkWld W 1):=G5.keep fun id hid=>f6 id (nX6 _ (by have:=hX2 id hid;omega))
  have K6:KeepB nx H6 h:=fun j hj=>by rw [f6 j (nX6 _ (by omega)),K5 j hj]
  have n17:(nx + 15 = n5 + 16) = False:=by simp only [eq_iff_iff,iff_false];omega
  have m18:∀ k,(n1 = n5 + k) = False:=fun k=>by simp only [eq_iff_iff,iff_false];omega
  have m19:∀ k,(nx = n5 + k) = False:=fun k=>by simp only [eq_iff_iff,iff_false];omega
  have m17:(n1 + 5 = n5 + 16) = False:=by simp only [eq_iff_iff,iff_false];omega
  try simp [-qt,-qd,-ql,rgs,n17,m17,m18,m19,z5,oG6,oS6,yL X6 W,zB4,zF7,zB3,yL X2 W,vV,vG]
  refine yG (zS3 (x:=W) (y:=W) (F1:=FF) (F2:=fun _=>true)) (.bool _) ?hb7 ?_
  case hb7=>exact .cons (.agg1 (V6.keep fun id hid=>by have:=hid6 id hid;dsimp only;repeat rw [zF _ _ _ _ (by omega)]).bors) (.cons (.same _) .nil)
  try simp [-qt,-qd,-ql,rgs,n17,m17,m18,m19,z5,oG6,oS6,yL X6 W,zB4,zF7,zB3,yL X2 W,vV,vG]
  refine yG (h_heldWorld (F:=FF) (w:=W) (k:=1) hs2 (by omega) (by omega)) (.int _ _) ?hb8 ?_
  case hb8=>exact .cons (.agg1 (wldR_mk X2 W 1 ▸ (G6.keep fun id hid=>by have:=hX2 id hid;dsimp only;repeat rw [zF _ _ _ _ (by omega)]).bors)) (.cons (.same _) .nil)
  try simp [-qt,-qd,-ql,rgs,z5]
  exact zP5 (by omega) (zP5 (by omega) K6)
 ·have e:szR (zB8 w) 1048576 = -1:=by rcases uM (zB8 w) 1048576 with q | q <;> omega
  refine PC.o okC Tryz.func5 rfl (.bool _) fun h nx hnx => ?_
  try simp [-qt,-qd,-ql,rgs,e]
  repeat' first | done | (((with_reducible show zD _ _ _ 17 _ _);refine zB (c_szWorld (s:=w) (F:=fun _=>true) (by omega) (by omega)) ?_) <;> simp [-qt,-qd,-ql,rgs,e]) | fail
end Go.AE.Tryz
end
