/- Contracts of the seat's functions: what each answers, for all arguments. -/
import Derived.Test.YtokkkniepbkapaaGreatB3
import Derived.Test.YtokkkniepbkapaaGreatA3
import Derived.Test.YtokkkniepbkapaaGreatB1
import Derived.Test.YtokkkniepbkapaaGreatB2
import Derived.Test.YtokkkniepbkapaaGreatA4
set_option linter.unusedVariables false
set_option linter.unusedSimpArgs false
set_option linter.deprecated false
section
/- Contracts of the reference's readers: worlds. -/
set_option maxRecDepth 8000
set_option maxHeartbeats 4000000
namespace Go.AE.Tryz
open Go.Proofs
open List renaming map_take → qt,map_drop → qd,map_tail → ql
theorem s_Sights {F:Nat → Bool} {w:Wld}:PC ctx.P 111 [.agg (wldV F w)] (.bool (zP7 (zE1 w) w.sights && decide (w.sights.length ≤ 2000))):=by
 refine PC.lim (n:=w.sights.length) (x:=.agg (wldV F w)) (by simp) (.agg (x:=.view (F 14) 4 (w.sights.map zA6)) (by simp [wldV]) (.here (by simp))) ⟨_,Tryz.func111,by kernel_rfl,by kernel_rfl⟩ fun hlim => ?_
 refine PC.o okC Tryz.func111 rfl (.bool _) fun h nx hnx => ?_
 try simp [-qt,-qd,-ql,rgs,wldV]
 repeat' first | done | ((first | ((with_reducible show zU _ _ _ _ _ _);refine zB rfl fun _ => ?_) | ((with_reducible show zJ _ _ _ _ _ _ _);refine zC rfl omA omA ?_)) <;> simp [-qt,-qd,-ql,rgs,wldV]) | ((first | (with_reducible refine zE ?_ ?_) | (with_reducible refine zA ?_ ?_)) <;> intro qb <;> (have qp:=qb;try simp only [psq] at qp) <;> simp [-qt,-qd,-ql,rgs,wldV,qb])
 refine zW [2,3,4,5,6,7,8,9,10,11,12,13,14,15,16,17,18,19,20,21,22,23,24,25,26,27,28,29,30,31,32,33,34,35,36,37,38,39,40,41,42,43,44,45,46,47,48,49,50,51,52,53,54,55] (w.sights.length) (fun (i:Nat) a=>[(3,.int .i64 i)]) (fun i_ a_ h_ _=>(fun i (_:Unit) _=>zP7 (zE1 w) (w.sights.drop i) = zP7 (zE1 w) w.sights) i_ a_ h_) (()) (by simp) ?_ zT (Nat.le_refl _) ?_
 ·simp
 ·intro i a tm h' n' hle hJ hE hn' next hnx
  try dsimp only at hJ
  have hK:KeepB nx h' h:=KeepB.sub hE zK (by omega)
  simp [-qt,-qd,-ql]
  have e1:h' (nx) = some (.obj (wldV F w)):=by have:=hE (nx) (by omega);simpa [wldV] using this
  have e1n:∀ k,((nx) = n' + k) = False:=fun k=>by simp only [eq_iff_iff,iff_false];omega
  have e1m:((nx) = n') = False:=by simp only [eq_iff_iff,iff_false];omega
  try simp [-qt,-qd,-ql,rgs,wldV,zA6,e1,e1n,e1m]
  repeat' first | done | ((first | ((with_reducible show zU _ _ _ _ _ _);refine zB rfl fun _ => ?_) | ((with_reducible show zJ _ _ _ _ _ _ _);refine zC rfl omA omA ?_) | ((with_reducible show zG _ _ _ 199 _ _);refine zD (zA3) ?_) | ((with_reducible show zG _ _ _ 200 _ _);refine zD (s_Node (w:=w) (F:=F)) ?_)) <;> simp [-qt,-qd,-ql,rgs,wldV,zA6,e1,e1n,e1m]) | ((first | (with_reducible refine zE ?_ ?_) | (with_reducible refine zA ?_ ?_)) <;> intro qb <;> (have qp:=qb;try simp only [psq] at qp) <;> simp [-qt,-qd,-ql,rgs,wldV,zA6,e1,e1n,e1m,qb])
  all_goals
   first
   | (have hlt:i < w.sights.length:=(by first | omega | (simp at *; omega))
      rw [zV hlt] at hJ
      first
      | (refine hnx.go (()) ?_ ?_ ?_ ?_ ?_ ?_;omega;(simp [zM hlt hlim]);(simp);exact zK;(first | omega | (simp;omega));(try dsimp only);clear hnx;first | ((try simp only [List.drop_length,Int.toNat_natCast,zX,yH,zG9] at hJ ⊢);grind) | (simp_all [zX,yH,zG9];done) | (simp_all;omega))
      | (refine ⟨?_,zK⟩;clear hnx;first | ((try simp only [List.drop_length,Int.toNat_natCast,zX,yH,zG9] at hJ ⊢);grind) | (simp_all [zX,yH,zG9];done) | (simp_all;omega)))
   | (obtain rfl:i = w.sights.length:=(by first | omega | (simp at *; omega))
      refine ⟨?_,zK⟩;clear hnx;first | ((try simp only [List.drop_length,Int.toNat_natCast,zX,yH,zG9] at hJ ⊢);grind) | (simp_all [zX,yH,zG9];done) | (simp_all;omega))
end Go.AE.Tryz
end
section
/- Contracts of the reference's readers: worlds. -/
set_option maxRecDepth 8000
set_option maxHeartbeats 4000000
namespace Go.AE.Tryz
open Go.Proofs
open List renaming map_take → qt,map_drop → qd,map_tail → ql
theorem zP9 {F:Nat → Bool} {w:Wld}:PC ctx.P 33 [.agg (wldV F w)] (.bool (vG w)):=by
 refine PC.o okC Tryz.func33 rfl (.bool _) fun h nx hnx => ?_
 try simp [-qt,-qd,-ql,rgs,wldV]
 repeat' first | done | ((first | ((with_reducible show zG _ _ _ 104 _ _);refine zD (s_Progs) ?_) | ((with_reducible show zG _ _ _ 105 _ _);refine zD (s_Events (w:=w) (F:=F)) ?_) | ((with_reducible show zG _ _ _ 106 _ _);refine zD (zM9 (s:=w.spread) (F:=F)) ?_) | ((with_reducible show zG _ _ _ 107 _ _);refine zD (s_Timers (w:=w) (F:=F)) ?_) | ((with_reducible show zG _ _ _ 108 _ _);refine zD (s_Afters (w:=w) (F:=F)) ?_) | ((with_reducible show zG _ _ _ 109 _ _);refine zD (s_Tasks (w:=w) (F:=F)) ?_) | ((with_reducible show zG _ _ _ 110 _ _);refine zD (s_Groups (w:=w) (F:=F)) ?_) | ((with_reducible show zG _ _ _ 111 _ _);refine zD (s_Sights (w:=w) (F:=F)) ?_) | ((with_reducible show zG _ _ _ 112 _ _);refine zD (s_Numbers) ?_)) <;> simp [-qt,-qd,-ql,rgs,wldV]) | ((first | (with_reducible refine zE ?_ ?_)) <;> intro qb <;> (have qp:=qb;try simp only [psq] at qp) <;> simp [-qt,-qd,-ql,rgs,wldV,qb])
 all_goals (clear hnx;have ht:yM w.tree w.events = true → vV w.tree = true:=zB2;simp only [vG];(try simp only [zP7] at *);grind)
end Go.AE.Tryz
end
section
/- Contracts of the reference's requests. -/
set_option maxRecDepth 8000
set_option maxHeartbeats 4000000
namespace Go.AE.Tryz
open Go.Proofs
theorem yO {F:Nat → Bool} {w:Wld}:(∀ x ∈ wldV F w,x.one = true) = True:=by simp [wldV]
theorem yZ (F:Nat → Bool) (w:Wld):(wldV F w).length = 17:=rfl
theorem yP (F:Nat → Bool) (w:Wld):(wldV F w).take 17 = wldV F w:=rfl
end Go.AE.Tryz
end
section
/- The law of the clock: what the program and the reference make of a world is the same, in memory of its own. -/
set_option maxRecDepth 8000
set_option maxHeartbeats 4000000
namespace Go.AE.Tryz
open Go.Proofs
theorem wldR_mk (X:WI) (w:Wld) (k:Int):vN X (mkWld w k) = vN X w:=by simp [vN,mkWld,mkSpr,mkTms,mkAfs,vP,uE]
theorem rrW_cl (X:WI) (w:Wld) (b:Bool):Cl (.tup [.agg (vN X w),.bool b]):=by
 refine .tup _ fun c hc => ?_
 simp only [List.mem_cons,List.not_mem_nil,or_false] at hc
 rcases hc with rfl | rfl
 ·refine .agg _ fun c hc => ?_
  simp only [vN,List.mem_cons,List.not_mem_nil,or_false] at hc
  rcases hc with rfl | rfl | rfl | rfl | rfl | rfl | rfl | rfl | rfl | rfl | rfl | rfl | rfl | rfl | rfl | rfl | rfl <;> first | exact .int _ _ | exact .ref _ _ _ _
 ·exact .bool _
theorem s_toWorld {F:Nat → Bool} {s:Wld} (hs:zC9 s ≤ 1048576):PC ctx.P 10 [.agg (wldV F s)] (.agg (wldV (fun _=>true) s)):=(WC.of (w_toWorld hs)).pc (wldV_fz s) fun g X v=>.aggs v.fros
end Go.AE.Tryz
end
section
/- Contracts of the program's changes of heaps, as new rows. -/
set_option maxRecDepth 8000
set_option maxHeartbeats 2000000
namespace Go.AE.Tryz
open Go.Proofs
open List renaming map_take → qt,map_drop → qd,map_tail → ql
theorem f_growTwig {n:Nat} (h0:0 < n) (hm:n ≤ zY):FC ctx.P 363 [.nil,.int .i64 n] (.ref 0 3 0 0) [.row 3 (List.replicate n twZ)]:=by
 have hw:IntKind.i64.wrap (n:Int) = n:=zH (by simp only [zY] at hm;omega)
 have hw0:IntKind.i64.wrap 0 = 0:=rfl
 have q1:((n:Int) < 0) = False:=by simp only [eq_iff_iff,iff_false];omega
 have q2:(0 < n) = True:=by simp only [eq_iff_iff,iff_true];omega
 refine FC.o okC Tryz.func363 rfl ((.one _ (.one _ (.ref _ _ _ _ (by simp))))) ((fun e he=>by simp at he;subst he;exact twZ_fz _)) fun h nx hnx => ?_
 try simp [-qt,-qd,-ql,rgs,zH2,hw0,hw,q1,q2]
 repeat' first | done | ((first | ((with_reducible show zU _ _ _ _ _ _);refine zB rfl fun _ => ?_) | ((with_reducible show yT _ _ _ _ _ _ _ _);refine uY rfl omA omA ?_) | ((with_reducible show yT _ _ _ _ _ _ _ _);refine vM rfl omA omA ?_) | ((with_reducible show yT _ _ _ _ _ _ _ _);refine uA rfl omA omA omA ?_) | (((with_reducible show capX _ _ _ _ _ _);refine cap_nil rfl ?_)) | (((with_reducible show yT _ _ _ _ .nil _ _ _);refine slice_nil rfl rfl rfl ?_)) | (((with_reducible show zerS _ _ _ _ _ _ _ _ _);refine zer_nil rfl (by decide) (by decide) rfl rfl h0 hm ?_)) | (((with_reducible show yT _ _ _ _ (.ref _ _ _ _) _ _ _);refine slice_ref (l:=0) (h:=0) rfl rfl (by simp [bndA]) (by omega) (by omega) ?_)) | ((with_reducible show vZ _ _ _ _ _ _ _ _);refine zQ rfl rfl (by decide) (by decide) (by first | (simp [-qt,-qd,-ql,rgs,zH2,hw0,hw,q1,q2];done) | (simp [-qt,-qd,-ql,rgs,zH2,hw0,hw,q1,q2];rfl)) (by first | (simp [-qt,-qd,-ql,rgs,zH2,hw0,hw,q1,q2];done) | (simp [-qt,-qd,-ql,rgs,zH2,hw0,hw,q1,q2];rfl)) (by first | (simp;done) | (simp;omega)) (by first | (simp only [zY,LIM] at *; simp;omega) | (simp only [zY];simp;omega)) (by simp [iv,bv]) ?_)) <;> simp [-qt,-qd,-ql,rgs,zH2,hw0,hw,q1,q2]) | ((first | (with_reducible refine zA ?_ ?_)) <;> intro qb <;> (have qp:=qb;try simp only [psq] at qp) <;> simp [-qt,-qd,-ql,rgs,zH2,hw0,hw,q1,q2,qb])
 exact finF1 (i:=nx + 18) zK (by omega) (by simp [twZ]) (by simp)
theorem f_concatTwig {p:Bool} {qs:List (Bool × List Twg)} (h0:0 < (cq qs qs.length).length) (hm:(cq qs qs.length).length ≤ 1048576) (hq:qs.length ≤ 1000):FC ctx.P 360 [.view p 1 (qs.map twV)] (.ref 0 3 0 ((cq qs qs.length).map yQ).length) [.row 3 ((cq qs qs.length).map yQ)]:=by
 have hlim:qs.length ≤ LIM:=by simp only [LIM];omega
 have hM:(cq qs qs.length).length ≤ zY:=by simp only [zY];omega
 refine FC.o1 okC Tryz.func360 rfl (zS vK _) fun h nx hnx => ?_
 try simp [-qt,-qd,-ql,rgs]
 repeat' first | done | ((first | ((with_reducible show zU _ _ _ _ _ _);refine zB rfl fun _ => ?_) | ((with_reducible show zJ _ _ _ _ _ _ _);refine zC rfl omA omA ?_) | ((with_reducible show vZ _ _ _ _ _ _ _ _);refine zQ rfl rfl (by decide) (by decide) (by first | (simp [-qt,-qd,-ql,rgs];done) | (simp [-qt,-qd,-ql,rgs];rfl)) (by first | (simp [-qt,-qd,-ql,rgs];done) | (simp [-qt,-qd,-ql,rgs];rfl)) (by first | (simp;done) | (simp;omega)) (by first | (simp only [zY,LIM] at *; simp;omega) | (simp only [zY];simp;omega)) (by simp [iv,bv]) ?_)) <;> simp [-qt,-qd,-ql,rgs]) | ((first | (with_reducible refine zA ?_ ?_)) <;> intro qb <;> (have qp:=qb;try simp only [psq] at qp) <;> simp [-qt,-qd,-ql,rgs,qb])
 refine zW [3,5,11,12,13,14,15,16,17,18,19,20,21,22] (qs.length) (fun (i:Nat) a=>[(11,.int .i64 i),(3,.int .i64 ((cq qs i).length:Nat))]) (fun i_ a_ h_ _=>(fun i (_:Unit) _=>True) i_ a_ h_) (()) (by simp) ?_ zT (Nat.le_refl _) ?_
 ·trivial
 ·intro i a tm h' n' hle hJ hE hn' next hnx
  try dsimp only at hJ
  have hK:KeepB nx h' h:=KeepB.sub hE zK (by omega)
  simp [-qt,-qd,-ql]
  by_cases hlt:i < qs.length
  ·have hcl:=cq_lt hlt
   have hcs:=cq_succ hlt
   have hw:IntKind.i64.wrap ((((cq qs i).length:Nat):Int) + (((gt qs (i:Int)).2.length:Nat):Int)) = (((cq qs (i + 1)).length:Nat):Int):=by rw [zH (by omega),hcs,List.length_append];omega
   have hn:((((cq qs (i + 1)).length:Nat):Int) < 0) = False:=by simp only [eq_iff_iff,iff_false];omega
   try simp [-qt,-qd,-ql,rgs,twV,hlt,hw,hn]
   repeat' first | done | ((first | ((with_reducible show zU _ _ _ _ _ _);refine zB rfl fun _ => ?_) | ((with_reducible show zJ _ _ _ _ _ _ _);refine zC rfl omA omA ?_) | ((with_reducible show vZ _ _ _ _ _ _ _ _);refine zQ rfl rfl (by decide) (by decide) (by first | (simp [-qt,-qd,-ql,rgs,twV,hlt,hw,hn];done) | (simp [-qt,-qd,-ql,rgs,twV,hlt,hw,hn];rfl)) (by first | (simp [-qt,-qd,-ql,rgs,twV,hlt,hw,hn];done) | (simp [-qt,-qd,-ql,rgs,twV,hlt,hw,hn];rfl)) (by first | (simp;done) | (simp;omega)) (by first | (simp only [zY,LIM] at *; simp;omega) | (simp only [zY];simp;omega)) (by simp [iv,bv]) ?_)) <;> simp [-qt,-qd,-ql,rgs,twV,hlt,hw,hn]) | ((first | (with_reducible refine zA ?_ ?_)) <;> intro qb <;> (have qp:=qb;try simp only [psq] at qp) <;> simp [-qt,-qd,-ql,rgs,twV,hlt,hw,hn,qb])
   refine hnx.go () ?_ ?_ ?_ ?_ ?_ ?_
   ·omega
   ·simp [zM hlt hlim]
   ·simp
   ·exact zK
   ·first | omega | (simp;omega)
   trivial
  ·have he:i = qs.length:=by omega
   subst he
   try simp [-qt,-qd,-ql,rgs,hlt]
   repeat' first | done | ((first | ((with_reducible show zU _ _ _ _ _ _);refine zB rfl fun _ => ?_) | ((with_reducible show zJ _ _ _ _ _ _ _);refine zC rfl omA omA ?_) | ((with_reducible show zG _ _ _ 363 _ _);refine yD (f_growTwig h0 hM) ?_) | ((with_reducible show vZ _ _ _ _ _ _ _ _);refine zQ rfl rfl (by decide) (by decide) (by first | (simp [-qt,-qd,-ql,rgs,hlt];done) | (simp [-qt,-qd,-ql,rgs,hlt];rfl)) (by first | (simp [-qt,-qd,-ql,rgs,hlt];done) | (simp [-qt,-qd,-ql,rgs,hlt];rfl)) (by first | (simp;done) | (simp;omega)) (by first | (simp only [zY,LIM] at *; simp;omega) | (simp only [zY];simp;omega)) (by simp [iv,bv]) ?_)) <;> simp [-qt,-qd,-ql,rgs,hlt]) | ((first | (with_reducible refine zA ?_ ?_)) <;> intro qb <;> (have qp:=qb;try simp only [psq] at qp) <;> simp [-qt,-qd,-ql,rgs,hlt,qb])
   refine zW (h0:=h) (nx0:=nx) [6,8,27,28,29,30,31,32,33,34] (qs.length) (fun (i:Nat) a=>[(27,.int .i64 i),(6,.ref a 3 0 (cq qs i).length)]) (fun i (a:Nat) h' n'=>h' a = some (.row 3 ((cq qs i).map yQ ++ List.replicate ((cq qs qs.length).length - (cq qs i).length) twZ)) ∧ nx ≤ a ∧ a < n') (n' + 4) (by simp) ?_ zK (by omega) ?_
   ·exact ⟨by simp,by omega,by omega⟩
   ·intro j a tm2 h2 n2 hle2 hJ2 hE2 hn2 next2 hnx2
    obtain ⟨g1,g2,g3⟩:=hJ2
    have k1:∀ k,(a = n2 + k) = False:=fun k=>by simp only [eq_iff_iff,iff_false];omega
    simp [-qt,-qd,-ql]
    by_cases hlt2:j < qs.length
    ·have hcl:=cq_lt hlt2
     have hcs:=cq_succ hlt2
     try simp [-qt,-qd,-ql,rgs,twV,hlt2,k1]
     repeat' first | done | ((first | ((with_reducible show zU _ _ _ _ _ _);refine zB rfl fun _ => ?_) | ((with_reducible show zJ _ _ _ _ _ _ _);refine zC rfl omA omA ?_) | ((with_reducible show vZ _ _ _ _ _ _ _ _);refine zQ rfl rfl (by decide) (by decide) (by first | (simp [-qt,-qd,-ql,rgs,twV,hlt2,k1];done) | (simp [-qt,-qd,-ql,rgs,twV,hlt2,k1];rfl)) (by first | (simp [-qt,-qd,-ql,rgs,twV,hlt2,k1];done) | (simp [-qt,-qd,-ql,rgs,twV,hlt2,k1];rfl)) (by first | (simp;done) | (simp;omega)) (by first | (simp only [zY,LIM] at *; simp;omega) | (simp only [zY];simp;omega)) (by simp [iv,bv]) ?_)) <;> simp [-qt,-qd,-ql,rgs,twV,hlt2,k1]) | ((first | (with_reducible refine zA ?_ ?_)) <;> intro qb <;> (have qp:=qb;try simp only [psq] at qp) <;> simp [-qt,-qd,-ql,rgs,twV,hlt2,k1,qb])
     refine app_mid (ws:=(cq qs j).map yQ ++ List.replicate ((cq qs qs.length).length - (cq qs j).length) twZ) (ys:=(gt qs (j:Int)).2.map yQ) rfl rfl (by decide) (by decide) ?r1 ?r2 ?r3 ?r4 ?r5 ?_
     case r1=>exact g1
     case r2=>simp
     case r3=>simp
     case r4=>simp only [zY];simp;omega
     case r5=>simp [yQ]
     rw [cq_row hlt2 rfl]
     try simp [-qt,-qd,-ql,rgs]
     repeat' first | done | ((first | ((with_reducible show zU _ _ _ _ _ _);refine zB rfl fun _ => ?_) | ((with_reducible show zJ _ _ _ _ _ _ _);refine zC rfl omA omA ?_) | ((with_reducible show vZ _ _ _ _ _ _ _ _);refine zQ rfl rfl (by decide) (by decide) (by first | (simp [-qt,-qd,-ql,rgs];done) | (simp [-qt,-qd,-ql,rgs];rfl)) (by first | (simp [-qt,-qd,-ql,rgs];done) | (simp [-qt,-qd,-ql,rgs];rfl)) (by first | (simp;done) | (simp;omega)) (by first | (simp only [zY,LIM] at *; simp;omega) | (simp only [zY];simp;omega)) (by simp [iv,bv]) ?_)) <;> simp [-qt,-qd,-ql,rgs]) | ((first | (with_reducible refine zA ?_ ?_)) <;> intro qb <;> (have qp:=qb;try simp only [psq] at qp) <;> simp [-qt,-qd,-ql,rgs,qb])
     refine hnx2.go (n2 + 6) ?_ ?_ ?_ ?_ ?_ ?_
     ·omega
     ·simp [zM hlt2 hlim,hcs]
     ·simp
     ·exact zK
     ·first | omega | (simp;omega)
     exact ⟨by simp,by omega,by omega⟩
    ·have he:j = qs.length:=by omega
     subst he
     try simp [-qt,-qd,-ql,rgs,hlt2,k1]
     repeat' first | done | ((first | ((with_reducible show zU _ _ _ _ _ _);refine zB rfl fun _ => ?_) | ((with_reducible show zJ _ _ _ _ _ _ _);refine zC rfl omA omA ?_) | ((with_reducible show vZ _ _ _ _ _ _ _ _);refine zQ rfl rfl (by decide) (by decide) (by first | (simp [-qt,-qd,-ql,rgs,hlt2,k1];done) | (simp [-qt,-qd,-ql,rgs,hlt2,k1];rfl)) (by first | (simp [-qt,-qd,-ql,rgs,hlt2,k1];done) | (simp [-qt,-qd,-ql,rgs,hlt2,k1];rfl)) (by first | (simp;done) | (simp;omega)) (by first | (simp only [zY,LIM] at *; simp;omega) | (simp only [zY];simp;omega)) (by simp [iv,bv]) ?_)) <;> simp [-qt,-qd,-ql,rgs,hlt2,k1]) | ((first | (with_reducible refine zA ?_ ?_)) <;> intro qb <;> (have qp:=qb;try simp only [psq] at qp) <;> simp [-qt,-qd,-ql,rgs,hlt2,k1,qb])
     exact yU (i:=a) zK (by first | omega | (simp;omega)) g2 (by simp [g1]) rfl (by simp)
theorem f_joined {p q:Bool} {x:Twg} {l r:List Twg} (hl:isH l) (hr:isH r) (hm:l.length + r.length ≤ 1000):FC ctx.P 329 [.agg (yQ x),.view p 3 (l.map yQ),.view q 3 (r.map yQ)] (.ref 0 3 0 ((zK9 x l r).map yQ).length) [.row 3 ((zK9 x l r).map yQ)]:=by
 refine FC.o1 okC Tryz.func329 rfl (zS vK _) fun h nx hnx => ?_
 by_cases hk:rk0 l < rk0 r
 ·have hk2:((rk0 l:Int) < (rk0 r:Int)) = True:=by simp only [eq_iff_iff,iff_true];omega
  have hj:zK9 x l r = ⟨x.due,x.seq,r.length⟩ :: (r ++ l):=by simp [zK9,hk]
  try simp [-qt,-qd,-ql,rgs,yQ,hk2]
  repeat' first | done | ((first | ((with_reducible show zG _ _ _ 358 _ _);refine zD (c_rank (rk0_some hl)) ?_) | ((with_reducible show zG _ _ _ 358 _ _);refine zD (c_rank (rk0_some hr)) ?_) | ((with_reducible show zG _ _ _ 359 _ _);refine zD (zH9) ?_)) <;> simp [-qt,-qd,-ql,rgs,yQ,hk2]) | ((first | (with_reducible refine zA ?_ ?_)) <;> intro qb <;> (have qp:=qb;try simp only [psq] at qp) <;> simp [-qt,-qd,-ql,rgs,yQ,hk2,qb])
  refine zI6 (f_concatTwig (p:=false) (qs:=[(false,[⟨x.due,x.seq,(r.length:Int)⟩]),(q,r),(p,l)]) (by simp [cq]) (by simp [cq];omega) (by simp)) (fun f=>by simp;exact .ref _ _ _ _) (fun e he=>by simp at he;subst he;exact twg_cl _) (.cons (Bor.row3 (by simp;rfl) (Bor.ref0 (by simp;rfl) rfl rfl) (.same _) (.same _)) .nil) ?_
  try simp [-qt,-qd,-ql,rgs]
  repeat' first | done | ((first | (with_reducible refine zA ?_ ?_)) <;> intro qb <;> (have qp:=qb;try simp only [psq] at qp) <;> simp [-qt,-qd,-ql,rgs,qb])
  rw [cq3n]
  exact yU (i:=nx + 22) zK (by first | omega | (simp;done) | (simp;omega)) (by omega) (by simp [hj]) rfl (by simp [hj])
 ·have hk2:((rk0 l:Int) < (rk0 r:Int)) = False:=by simp only [eq_iff_iff,iff_false];omega
  have hj:zK9 x l r = ⟨x.due,x.seq,l.length⟩ :: (l ++ r):=by simp [zK9,hk]
  try simp [-qt,-qd,-ql,rgs,yQ,hk2]
  repeat' first | done | ((first | ((with_reducible show zG _ _ _ 358 _ _);refine zD (c_rank (rk0_some hl)) ?_) | ((with_reducible show zG _ _ _ 358 _ _);refine zD (c_rank (rk0_some hr)) ?_) | ((with_reducible show zG _ _ _ 359 _ _);refine zD (zH9) ?_)) <;> simp [-qt,-qd,-ql,rgs,yQ,hk2]) | ((first | (with_reducible refine zA ?_ ?_)) <;> intro qb <;> (have qp:=qb;try simp only [psq] at qp) <;> simp [-qt,-qd,-ql,rgs,yQ,hk2,qb])
  refine zI6 (f_concatTwig (p:=false) (qs:=[(false,[⟨x.due,x.seq,(l.length:Int)⟩]),(p,l),(q,r)]) (by simp [cq]) (by simp [cq];omega) (by simp)) (fun f=>by simp;exact .ref _ _ _ _) (fun e he=>by simp at he;subst he;exact twg_cl _) (.cons (Bor.row3 (by simp;rfl) (Bor.ref0 (by simp;rfl) rfl rfl) (.same _) (.same _)) .nil) ?_
  try simp [-qt,-qd,-ql,rgs]
  repeat' first | done | ((first | (with_reducible refine zA ?_ ?_)) <;> intro qb <;> (have qp:=qb;try simp only [psq] at qp) <;> simp [-qt,-qd,-ql,rgs,qb])
  rw [cq3n]
  exact yU (i:=nx + 18) zK (by first | omega | (simp;done) | (simp;omega)) (by omega) (by simp [hj]) rfl (by simp [hj])
theorem f_mergeN:∀ (n:Nat) (p q:Bool) (a b:List Twg),a.length + b.length ≤ n → n ≤ 1000 → isH a → isH b → apart a b → FC ctx.P 253 [.view p 3 (a.map yQ),.view q 3 (b.map yQ)] (.ref 0 3 0 ((zN7 n a b).map yQ).length) [.row 3 ((zN7 n a b).map yQ)]:=by
 intro n
 induction n with
 | zero =>
   intro p q a b hn hm ha hb hd
   obtain rfl:a = []:=List.eq_nil_of_length_eq_zero (by omega)
   obtain rfl:b = []:=List.eq_nil_of_length_eq_zero (by simpa using hn)
   rw [mrgN_l]
   have hc:=zI5 (p:=q) (xs:=[]) (by simp [zY])
   refine FC.o1 okC Tryz.func253 rfl (zS vK _) fun h nx hnx => ?_
   try simp [-qt,-qd,-ql,rgs]
   repeat' first | done | ((first | ((with_reducible show zU _ _ _ _ _ _);refine zB rfl fun _ => ?_) | ((with_reducible show zJ _ _ _ _ _ _ _);refine zC rfl omA omA ?_) | (refine yD (hc) ?_) | (with_reducible refine zF (i:=5) [(0,[],[]),(1,[],[]),(2,[],[]),(3,[],[]),(4,[],[]),(5,[],[]),(6,[],[]),(7,[],[])] (by kernel_rfl) ?_) | (with_reducible refine zF (i:=8) [(0,[],[]),(1,[],[]),(2,[],[]),(3,[],[]),(4,[],[]),(5,[],[]),(6,[.tmp 33],[]),(7,[],[]),(8,[],[])] (by kernel_rfl) ?_)) <;> simp [-qt,-qd,-ql,rgs]) | ((first | (with_reducible refine zA ?_ ?_)) <;> intro qb <;> (have qp:=qb;try simp only [psq] at qp) <;> simp [-qt,-qd,-ql,rgs,qb])
   exact yU (i:=nx + 7) zK (by first | omega | (simp;done) | (simp;omega)) (by omega) (by simp) rfl (by simp)
 | succ n ih =>
   intro p q a b hn hm ha hb hd
   by_cases ha0:a.length = 0
   ·obtain rfl:a = []:=List.eq_nil_of_length_eq_zero ha0
    have hc:=zI5 (p:=q) (xs:=b) (by simp only [zY];omega)
    rw [mrgN_l]
    refine FC.o1 okC Tryz.func253 rfl (zS vK _) fun h nx hnx => ?_
    try simp [-qt,-qd,-ql,rgs]
    repeat' first | done | ((first | ((with_reducible show zU _ _ _ _ _ _);refine zB rfl fun _ => ?_) | ((with_reducible show zJ _ _ _ _ _ _ _);refine zC rfl omA omA ?_) | (refine yD (hc) ?_) | (with_reducible refine zF (i:=5) [(0,[],[]),(1,[],[]),(2,[],[]),(3,[],[]),(4,[],[]),(5,[],[]),(6,[],[]),(7,[],[])] (by kernel_rfl) ?_) | (with_reducible refine zF (i:=8) [(0,[],[]),(1,[],[]),(2,[],[]),(3,[],[]),(4,[],[]),(5,[],[]),(6,[.tmp 33],[]),(7,[],[]),(8,[],[])] (by kernel_rfl) ?_)) <;> simp [-qt,-qd,-ql,rgs]) | ((first | (with_reducible refine zA ?_ ?_)) <;> intro qb <;> (have qp:=qb;try simp only [psq] at qp) <;> simp [-qt,-qd,-ql,rgs,qb])
    exact yU (i:=nx + 7) zK (by first | omega | (simp;done) | (simp;omega)) (by omega) (by simp) rfl (by simp)
   have hx0:((a.length:Int) == 0) = false:=by simp;intro e;exact ha0 (by simp [e])
   by_cases hb0:b.length = 0
   ·obtain rfl:b = []:=List.eq_nil_of_length_eq_zero hb0
    have hc:=zI5 (p:=p) (xs:=a) (by simp only [zY];omega)
    rw [mrgN_r]
    refine FC.o1 okC Tryz.func253 rfl (zS vK _) fun h nx hnx => ?_
    try simp [-qt,-qd,-ql,rgs,hx0]
    repeat' first | done | ((first | ((with_reducible show zU _ _ _ _ _ _);refine zB rfl fun _ => ?_) | ((with_reducible show zJ _ _ _ _ _ _ _);refine zC rfl omA omA ?_) | (refine yD (hc) ?_) | (with_reducible refine zF (i:=5) [(0,[],[]),(1,[],[]),(2,[],[]),(3,[],[]),(4,[],[]),(5,[],[]),(6,[],[]),(7,[],[])] (by kernel_rfl) ?_) | (with_reducible refine zF (i:=8) [(0,[],[]),(1,[],[]),(2,[],[]),(3,[],[]),(4,[],[]),(5,[],[]),(6,[.tmp 33],[]),(7,[],[]),(8,[],[])] (by kernel_rfl) ?_)) <;> simp [-qt,-qd,-ql,rgs,hx0]) | ((first | (with_reducible refine zA ?_ ?_)) <;> intro qb <;> (have qp:=qb;try simp only [psq] at qp) <;> simp [-qt,-qd,-ql,rgs,hx0,qb])
    exact yU (i:=nx + 10) zK (by first | omega | (simp;done) | (simp;omega)) (by omega) (by simp) rfl (by simp)
   have hy0:((b.length:Int) == 0) = false:=by simp;intro e;exact hb0 (by simp [e])
   have ha0:0 < a.length:=by omega
   have hb0:0 < b.length:=by omega
   by_cases hyx:lt2 (gt b 0) (gt a 0)
   ·have hcmp:(zA4 (gt b 0) (gt a 0) < 0) = True:=by simp only [eq_iff_iff,iff_true];exact cmp_lt.2 hyx
    have pp:=isH_part hb hb0
    have hl1:=mrgN_len n (b.drop ((gt b 0).lefts.toNat + 1)) a (by omega) pp.2.2.2.1 ha
    rw [mrgN_b ha0 hb0 hyx]
    have hq2:=ih q p (b.drop ((gt b 0).lefts.toNat + 1)) a (by omega) (by omega) pp.2.2.2.1 ha (zM7 (apart_symm hd) _)
    have hq3:=mrgN_isH (n:=n) (by omega) pp.2.2.2.1 ha (zM7 (apart_symm hd) _)
    refine FC.o1 okC Tryz.func253 rfl (zS vK _) fun h nx hnx => ?_
    try simp [-qt,-qd,-ql,rgs,hx0,hy0,hcmp]
    repeat' first | done | ((first | ((with_reducible show zU _ _ _ _ _ _);refine zB rfl fun _ => ?_) | ((with_reducible show zJ _ _ _ _ _ _ _);refine zC rfl omA omA ?_) | ((with_reducible show zG _ _ _ 330 _ _);refine zD (c_compare) ?_) | ((with_reducible show zG _ _ _ 327 _ _);refine zD (c_parts hb0 pp.1 pp.2.1) ?_) | (refine yD (hq2) ?_) | (with_reducible refine zF (i:=5) [(0,[],[]),(1,[],[]),(2,[],[]),(3,[],[]),(4,[],[]),(5,[],[]),(6,[],[]),(7,[],[])] (by kernel_rfl) ?_) | (with_reducible refine zF (i:=8) [(0,[],[]),(1,[],[]),(2,[],[]),(3,[],[]),(4,[],[]),(5,[],[]),(6,[.tmp 33],[]),(7,[],[]),(8,[],[])] (by kernel_rfl) ?_)) <;> simp [-qt,-qd,-ql,rgs,hx0,hy0,hcmp]) | ((first | (with_reducible refine zA ?_ ?_)) <;> intro qb <;> (have qp:=qb;try simp only [psq] at qp) <;> simp [-qt,-qd,-ql,rgs,hx0,hy0,hcmp,qb])
    refine zI6 (f_joined (p:=q) (q:=false) pp.2.2.1 hq3 (by omega)) (fun f=>by simp;exact .ref _ _ _ _) (fun e he=>by simp at he;subst he;exact twg_cl _) (.cons (.same _) (.cons (.same _) (.cons (Bor.ref0 (by first | (simp;done) | (simp;rfl)) rfl (by simp)) .nil))) ?_
    try simp [-qt,-qd,-ql,rgs]
    repeat' first | done | ((first | ((with_reducible show zU _ _ _ _ _ _);refine zB rfl fun _ => ?_) | ((with_reducible show zJ _ _ _ _ _ _ _);refine zC rfl omA omA ?_) | (with_reducible refine zF (i:=5) [(0,[],[]),(1,[],[]),(2,[],[]),(3,[],[]),(4,[],[]),(5,[],[]),(6,[],[]),(7,[],[])] (by kernel_rfl) ?_) | (with_reducible refine zF (i:=8) [(0,[],[]),(1,[],[]),(2,[],[]),(3,[],[]),(4,[],[]),(5,[],[]),(6,[.tmp 33],[]),(7,[],[]),(8,[],[])] (by kernel_rfl) ?_)) <;> simp [-qt,-qd,-ql,rgs]) | ((first | (with_reducible refine zA ?_ ?_)) <;> intro qb <;> (have qp:=qb;try simp only [psq] at qp) <;> simp [-qt,-qd,-ql,rgs,qb])
    exact yU zK (by first | omega | (simp;done) | (simp;omega)) (by omega) (by simp) rfl (by simp)
   ·have hcmp:(zA4 (gt b 0) (gt a 0) < 0) = False:=by simp only [eq_iff_iff,iff_false];exact fun h=>hyx (cmp_lt.1 h)
    have pp:=isH_part ha ha0
    have hl1:=mrgN_len n (a.drop ((gt a 0).lefts.toNat + 1)) b (by omega) pp.2.2.2.1 hb
    rw [mrgN_a ha0 hb0 hyx]
    have hq2:=ih p q (a.drop ((gt a 0).lefts.toNat + 1)) b (by omega) (by omega) pp.2.2.2.1 hb (zM7 hd _)
    have hq3:=mrgN_isH (n:=n) (by omega) pp.2.2.2.1 hb (zM7 hd _)
    refine FC.o1 okC Tryz.func253 rfl (zS vK _) fun h nx hnx => ?_
    try simp [-qt,-qd,-ql,rgs,hx0,hy0,hcmp]
    repeat' first | done | ((first | ((with_reducible show zU _ _ _ _ _ _);refine zB rfl fun _ => ?_) | ((with_reducible show zJ _ _ _ _ _ _ _);refine zC rfl omA omA ?_) | ((with_reducible show zG _ _ _ 330 _ _);refine zD (c_compare) ?_) | ((with_reducible show zG _ _ _ 327 _ _);refine zD (c_parts ha0 pp.1 pp.2.1) ?_) | (refine yD (hq2) ?_) | (with_reducible refine zF (i:=5) [(0,[],[]),(1,[],[]),(2,[],[]),(3,[],[]),(4,[],[]),(5,[],[]),(6,[],[]),(7,[],[])] (by kernel_rfl) ?_) | (with_reducible refine zF (i:=8) [(0,[],[]),(1,[],[]),(2,[],[]),(3,[],[]),(4,[],[]),(5,[],[]),(6,[.tmp 33],[]),(7,[],[]),(8,[],[])] (by kernel_rfl) ?_)) <;> simp [-qt,-qd,-ql,rgs,hx0,hy0,hcmp]) | ((first | (with_reducible refine zA ?_ ?_)) <;> intro qb <;> (have qp:=qb;try simp only [psq] at qp) <;> simp [-qt,-qd,-ql,rgs,hx0,hy0,hcmp,qb])
    refine zI6 (f_joined (p:=p) (q:=false) pp.2.2.1 hq3 (by omega)) (fun f=>by simp;exact .ref _ _ _ _) (fun e he=>by simp at he;subst he;exact twg_cl _) (.cons (.same _) (.cons (.same _) (.cons (Bor.ref0 (by first | (simp;done) | (simp;rfl)) rfl (by simp)) .nil))) ?_
    try simp [-qt,-qd,-ql,rgs]
    repeat' first | done | ((first | ((with_reducible show zU _ _ _ _ _ _);refine zB rfl fun _ => ?_) | ((with_reducible show zJ _ _ _ _ _ _ _);refine zC rfl omA omA ?_) | (with_reducible refine zF (i:=5) [(0,[],[]),(1,[],[]),(2,[],[]),(3,[],[]),(4,[],[]),(5,[],[]),(6,[],[]),(7,[],[])] (by kernel_rfl) ?_) | (with_reducible refine zF (i:=8) [(0,[],[]),(1,[],[]),(2,[],[]),(3,[],[]),(4,[],[]),(5,[],[]),(6,[.tmp 33],[]),(7,[],[]),(8,[],[])] (by kernel_rfl) ?_)) <;> simp [-qt,-qd,-ql,rgs]) | ((first | (with_reducible refine zA ?_ ?_)) <;> intro qb <;> (have qp:=qb;try simp only [psq] at qp) <;> simp [-qt,-qd,-ql,rgs,qb])
    exact yU zK (by first | omega | (simp;done) | (simp;omega)) (by omega) (by simp) rfl (by simp)
theorem f_merge {p q:Bool} {a b:List Twg} (hl:a.length + b.length ≤ 1000) (ha:isH a) (hb:isH b) (hd:apart a b):FC ctx.P 253 [.view p 3 (a.map yQ),.view q 3 (b.map yQ)] (.ref 0 3 0 ((mrg a b).map yQ).length) [.row 3 ((mrg a b).map yQ)] :=
 f_mergeN _ p q a b (Nat.le_refl _) hl ha hb hd
theorem f_put {p:Bool} {a:List Twg} {d s:Int} (hl:a.length ≤ 900) (ha:isH a) (hd:∀ x ∈ a,x.seq ≠ s):FC ctx.P 141 [.view p 3 (a.map yQ),.int .i64 d,.int .i64 s] (.ref 0 3 0 ((putH a d s).map yQ).length) [.row 3 ((putH a d s).map yQ)]:=by
 refine FC.o1 okC Tryz.func141 rfl (zS vK _) fun h nx hnx => ?_
 try simp [-qt,-qd,-ql,rgs]
 refine zI6 (f_merge (p:=p) (q:=false) (b:=[⟨d,s,0⟩]) (by simp;omega) ha (isH_one d s) (fun x hx y hy=>by simp at hy;subst hy;exact hd x hx)) (fun f=>by simp;exact .ref _ _ _ _) (fun e he=>by simp at he;subst he;exact twg_cl _) (.cons (.same _) (.cons (Bor.ref0 (by first | (simp;done) | (simp;rfl)) rfl rfl) .nil)) ?_
 try simp [-qt,-qd,-ql,rgs]
 exact yU zK (by first | omega | (simp;done) | (simp;omega)) (by omega) (by simp [putH]) rfl (by simp [putH])
end Go.AE.Tryz
end
section
/- Contracts of the program's changes of timers. -/
set_option maxRecDepth 8000
set_option maxHeartbeats 4000000
namespace Go.AE.Tryz
open Go.Proofs
open List renaming map_take → qt,map_drop → qd,map_tail → ql
end Go.AE.Tryz
end
section
/- Contracts of the program's request to create a node. -/
set_option maxRecDepth 8000
set_option maxHeartbeats 4000000
namespace Go.AE.Tryz
open Go.Proofs
open List renaming map_take → qt,map_drop → qd,map_tail → ql
theorem c_nodeFor {kind up a b:Int}:PC ctx.P 170 [.int .i64 kind,.int .i64 up,.int .i64 a,.int .i64 b] (.tup [.agg (yC (vF kind up a b)),.bool (zD1 kind a b)]):=by
 refine PC.o okC Tryz.func170 rfl (.tup _ (by simp only [List.mem_cons,List.not_mem_nil,or_false];rintro c (rfl | rfl);exact .agg _ (zI7 _);exact .bool _)) fun h nx hnx => ?_
 by_cases h1:kind = 1
 ·subst h1
  have e1:vF 1 up a b = ⟨1,up,vX,0,0⟩:=by simp [vF]
  have e2:zD1 1 a b = (a == 0 && b == 0):=by simp [zD1]
  rw [e1,e2]
  try simp [-qt,-qd,-ql,rgs,yC,vX]
  repeat' first | done | ((first | (with_reducible refine zE ?_ ?_) | (with_reducible refine zA ?_ ?_)) <;> intro qb <;> (have qp:=qb;try simp only [psq] at qp) <;> simp [-qt,-qd,-ql,rgs,yC,vX,qb])
 ·by_cases h4:kind = 4
  ·subst h4
   have e1:vF 4 up a b = ⟨4,up,vX,0,0⟩:=by simp [vF]
   have e2:zD1 4 a b = (a == 0 && b == 0):=by simp [zD1]
   rw [e1,e2]
   try simp [-qt,-qd,-ql,rgs,yC,vX]
   repeat' first | done | ((first | (with_reducible refine zE ?_ ?_) | (with_reducible refine zA ?_ ?_)) <;> intro qb <;> (have qp:=qb;try simp only [psq] at qp) <;> simp [-qt,-qd,-ql,rgs,yC,vX,qb])
  ·by_cases h2:kind = 2
   ·subst h2
    have e1:vF 2 up a b = ⟨2,up,a,0,0⟩:=by simp [vF]
    have e2:zD1 2 a b = (b == 0):=by simp [zD1]
    rw [e1,e2]
    try simp [-qt,-qd,-ql,rgs,yC,vX]
    repeat' first | done | ((first | (with_reducible refine zE ?_ ?_) | (with_reducible refine zA ?_ ?_)) <;> intro qb <;> (have qp:=qb;try simp only [psq] at qp) <;> simp [-qt,-qd,-ql,rgs,yC,vX,qb])
   ·by_cases h3:kind = 3
    ·subst h3
     have e1:vF 3 up a b = ⟨3,up,vX,a,b⟩:=by simp [vF]
     have e2:zD1 3 a b = true:=by simp [zD1]
     rw [e1,e2]
     try simp [-qt,-qd,-ql,rgs,yC,vX]
     repeat' first | done | ((first | (with_reducible refine zE ?_ ?_) | (with_reducible refine zA ?_ ?_)) <;> intro qb <;> (have qp:=qb;try simp only [psq] at qp) <;> simp [-qt,-qd,-ql,rgs,yC,vX,qb])
    ·have e1:vF kind up a b = ⟨kind,up,vX,0,0⟩:=by simp [vF,h2,h3]
     have e2:zD1 kind a b = false:=by simp [zD1,h1,h2,h3,h4]
     have b1:(kind == 1) = false:=by simpa using h1
     have b2:(kind == 2) = false:=by simpa using h2
     have b3:(kind == 3) = false:=by simpa using h3
     have b4:(kind == 4) = false:=by simpa using h4
     rw [e1,e2]
     try simp [-qt,-qd,-ql,rgs,yC,vX,b1,b2,b3,b4,h1,h2,h3,h4]
     repeat' first | done | ((first | (with_reducible refine zE ?_ ?_) | (with_reducible refine zA ?_ ?_)) <;> intro qb <;> (have qp:=qb;try simp only [psq] at qp) <;> simp [-qt,-qd,-ql,rgs,yC,vX,b1,b2,b3,b4,h1,h2,h3,h4,qb])
theorem m_begin {X:WI} {w:Wld} {p:Nat} {n:Int} (h4:w.spread.work.length ≤ 1048576):AC ctx.P 174 [.ptr p 4,.int .i64 n]
 (fun h _=>h p = some (.obj (vN X w)) ∧ WV h X w) (TmsQ p X (begW w n) (zF5 w n)):=by
 refine AC.o okC Tryz.func174 rfl fun h nx hfr hnx hpre => ?_
 obtain ⟨o1,V1⟩:=hpre
 have hp:p < nx:=hnx p (by rw [o1];simp)
 have hpX:=V1.obj o1
 have hin:=V1.lt hnx
 have t3:=V1.top 3 (by omega)
 have t4:=V1.top 4 (by omega)
 simp only [zH5] at t3 t4
 have o0:=o1
 simp only [vN] at o1
 have l4:=hin _ (WI.top_mem (X:=X) (k:=4) (by omega))
 have k1:∀ k,(p = nx + k) = False:=fun k=>by simp only [eq_iff_iff,iff_false];omega
 have k2:∀ k,(X.top 4 = nx + k) = False:=fun k=>by simp only [eq_iff_iff,iff_false];omega
 have k4:(p = X.top 4) = False:=by simp only [eq_iff_iff,iff_false];exact fun e=>hpX (e ▸ WI.top_mem (by omega))
 try simp [-qt,-qd,-ql,rgs,o1]
 repeat' first | done | ((first | ((with_reducible show zU _ _ _ _ _ _);refine zB rfl fun _ => ?_) | ((with_reducible show vZ _ _ _ _ _ _ _ _);refine zQ rfl rfl (by decide) (by decide) (by first | (simp [-qt,-qd,-ql,rgs,o1];done) | (simp [-qt,-qd,-ql,rgs,o1];rfl)) (by first | (simp [-qt,-qd,-ql,rgs,o1];done) | (simp [-qt,-qd,-ql,rgs,o1];rfl)) (by first | (simp;done) | (simp;omega)) (by first | (simp only [zY,LIM] at *; simp;omega) | (simp only [zY];simp;omega)) (by simp [iv,bv]) ?_)) <;> simp [-qt,-qd,-ql,rgs,o1]) | ((first | (with_reducible refine zE ?_ ?_) | (with_reducible refine zA ?_ ?_)) <;> intro qb <;> (have qp:=qb;try simp only [psq] at qp) <;> simp [-qt,-qd,-ql,rgs,o1,qb])
 refine yJ (c_isIn_bool (p:=false) (n:=n) (xs:=w.spread.told)) (.bool _) ?hb ?_
 case hb=>exact .cons (.same _) (.cons (.ref0 (by simpa using t3) (by simp) (by simp)) .nil)
 by_cases hi:vY n w.spread.told = true
 ·by_cases hw:w.spread.work.length = 240
  ·have hc:zF5 w n = false:=by simp [zF5,zF2,hw]
   have e:begW w n = w:=by simp [begW,hc]
   rw [hc,e]
   try simp [-qt,-qd,-ql,rgs,o1,hi,hw]
   repeat' first | done | ((first | ((with_reducible show zU _ _ _ _ _ _);refine zB rfl fun _ => ?_) | ((with_reducible show vZ _ _ _ _ _ _ _ _);refine zQ rfl rfl (by decide) (by decide) (by first | (simp [-qt,-qd,-ql,rgs,o1,hi,hw];done) | (simp [-qt,-qd,-ql,rgs,o1,hi,hw];rfl)) (by first | (simp [-qt,-qd,-ql,rgs,o1,hi,hw];done) | (simp [-qt,-qd,-ql,rgs,o1,hi,hw];rfl)) (by first | (simp;done) | (simp;omega)) (by first | (simp only [zY,LIM] at *; simp;omega) | (simp only [zY];simp;omega)) (by simp [iv,bv]) ?_)) <;> simp [-qt,-qd,-ql,rgs,o1,hi,hw]) | ((first | (with_reducible refine zE ?_ ?_) | (with_reducible refine zA ?_ ?_)) <;> intro qb <;> (have qp:=qb;try simp only [psq] at qp) <;> simp [-qt,-qd,-ql,rgs,o1,hi,hw,qb])
   exact ⟨rfl,⟨X,o0,V1,fun id h=>.inl h⟩,fun j _ _ _=>rfl⟩
  ·have hc:zF5 w n = true:=by simp [zF5,zF2,hi,hw]
   have e:begW w n = begS w n:=by simp [begW,hc]
   have hw2:((w.spread.work.length:Int) == 240) = false:=by simp;omega
   rw [hc,e]
   try simp [-qt,-qd,-ql,rgs,o1,t4,hi,hw,hw2,iv,k1,k2,k4]
   repeat' first | done | ((first | ((with_reducible show zU _ _ _ _ _ _);refine zB rfl fun _ => ?_) | ((with_reducible show vZ _ _ _ _ _ _ _ _);refine zQ rfl rfl (by decide) (by decide) (by first | (simp [-qt,-qd,-ql,rgs,o1,t4,hi,hw,hw2,iv,k1,k2,k4];done) | (simp [-qt,-qd,-ql,rgs,o1,t4,hi,hw,hw2,iv,k1,k2,k4];rfl)) (by first | (simp [-qt,-qd,-ql,rgs,o1,t4,hi,hw,hw2,iv,k1,k2,k4];done) | (simp [-qt,-qd,-ql,rgs,o1,t4,hi,hw,hw2,iv,k1,k2,k4];rfl)) (by first | (simp;done) | (simp;omega)) (by first | (simp only [zY,LIM] at *; simp;omega) | (simp only [zY];simp;omega)) (by simp [iv,bv]) ?_)) <;> simp [-qt,-qd,-ql,rgs,o1,t4,hi,hw,hw2,iv,k1,k2,k4]) | ((first | (with_reducible refine zE ?_ ?_) | (with_reducible refine zA ?_ ?_)) <;> intro qb <;> (have qp:=qb;try simp only [psq] at qp) <;> simp [-qt,-qd,-ql,rgs,o1,t4,hi,hw,hw2,iv,k1,k2,k4,qb])
   refine ⟨rfl,⟨X.setTop 4 (nx + 23),?_,V1.newTop [] (by omega) (fun hm=>by have:=hin _ hm;omega) ?_ (by simp) (by simp) (fun k hk _ hne => ?_) rfl rfl (fun j hj _ hne => ?_),fun j hj => ?_⟩,fun j hj hjp hjX => ?_⟩
   ·rw [zL];simp [vN,WI.setTop,begS,mkW]
   ·rw [zI _ _ _ _ (by omega),zL];simp [zH5,begS,mkW,iv]
   ·rcases lt15 hk with rfl | rfl | rfl | rfl | rfl | rfl | rfl | rfl | rfl | rfl | rfl | rfl | rfl | rfl | rfl <;> first | rfl | exact absurd rfl hne
   ·have:=hin j hj
    rw [zI _ _ _ _ (fun (e:j = p)=>hpX (e ▸ hj)),zI _ _ _ _ (by omega),zI _ _ _ _ hne,zI _ _ _ _ (by omega)]
   ·rcases WI.setTop_ids hj with q | q
    ·exact .inl q
    ·right;omega
   ·rw [zI _ _ _ _ hjp,zI _ _ _ _ (by omega),zI _ _ _ _ (fun (e:j = X.top 4)=>hjX (e ▸ WI.top_mem (by omega))),zI _ _ _ _ (by omega)]
 ·have hi2:vY n w.spread.told = false:=by simpa using hi
  have hc:zF5 w n = false:=by simp [zF5,zF2,hi2]
  have e:begW w n = w:=by simp [begW,hc]
  rw [hc,e]
  try simp [-qt,-qd,-ql,rgs,o1,hi2]
  repeat' first | done | ((first | ((with_reducible show zU _ _ _ _ _ _);refine zB rfl fun _ => ?_) | ((with_reducible show vZ _ _ _ _ _ _ _ _);refine zQ rfl rfl (by decide) (by decide) (by first | (simp [-qt,-qd,-ql,rgs,o1,hi2];done) | (simp [-qt,-qd,-ql,rgs,o1,hi2];rfl)) (by first | (simp [-qt,-qd,-ql,rgs,o1,hi2];done) | (simp [-qt,-qd,-ql,rgs,o1,hi2];rfl)) (by first | (simp;done) | (simp;omega)) (by first | (simp only [zY,LIM] at *; simp;omega) | (simp only [zY];simp;omega)) (by simp [iv,bv]) ?_)) <;> simp [-qt,-qd,-ql,rgs,o1,hi2]) | ((first | (with_reducible refine zE ?_ ?_) | (with_reducible refine zA ?_ ?_)) <;> intro qb <;> (have qp:=qb;try simp only [psq] at qp) <;> simp [-qt,-qd,-ql,rgs,o1,hi2,qb])
  exact ⟨rfl,⟨X,o0,V1,fun id h=>.inl h⟩,fun j _ _ _=>rfl⟩
theorem m_cancel {X:WI} {w:Wld} {p:Nat} {n er ca:Int} (ht:vV w.tree = true) (h4:w.spread.work.length ≤ 1048576) (h2:w.events.length ≤ 1048576):AC ctx.P 176 [.ptr p 0,.int .i64 n,.int .i64 er,.int .i64 ca]
 (fun h _=>h p = some (.obj (vN X w)) ∧ WV h X w) (TmsQ p X (cutW w ⟨n,er,ca,w.now⟩) (zH3 w ⟨n,er,ca,w.now⟩)):=by
 refine AC.o okC Tryz.func176 rfl fun h nx hfr hnx hpre => ?_
 obtain ⟨o1,V1⟩:=hpre
 have hp:p < nx:=hnx p (by rw [o1];simp)
 have hpX:=V1.obj o1
 have hin:=V1.lt hnx
 have t1:=V1.top 1 (by omega)
 have t2:=V1.top 2 (by omega)
 simp only [zH5] at t1 t2
 have o0:=o1
 simp only [vN] at o1
 have l2:=hin _ (WI.top_mem (X:=X) (k:=2) (by omega))
 have k1:∀ k,(p = nx + k) = False:=fun k=>by simp only [eq_iff_iff,iff_false];omega
 have l1:=hin _ (WI.top_mem (X:=X) (k:=1) (by omega))
 have k2:∀ k,(X.top 1 = nx + k) = False:=fun k=>by simp only [eq_iff_iff,iff_false];omega
 have k3:∀ k,(X.top 2 = nx + k) = False:=fun k=>by simp only [eq_iff_iff,iff_false];omega
 try simp [-qt,-qd,-ql,rgs,o1,k1,yS]
 repeat' first | done | ((first | ((with_reducible show vZ _ _ _ _ _ _ _ _);refine zQ rfl rfl (by decide) (by decide) (by first | (simp [-qt,-qd,-ql,rgs,o1,k1,yS];done) | (simp [-qt,-qd,-ql,rgs,o1,k1,yS];rfl)) (by first | (simp [-qt,-qd,-ql,rgs,o1,k1,yS];done) | (simp [-qt,-qd,-ql,rgs,o1,k1,yS];rfl)) (by first | (simp;done) | (simp;omega)) (by first | (simp only [zY,LIM] at *; simp;omega) | (simp only [zY];simp;omega)) (by simp [iv,bv]) ?_) | (with_reducible refine zF (i:=2) [(0,[],[]),(1,[],[]),(2,[],[]),(3,[],[]),(4,[],[]),(5,[],[]),(6,[],[]),(7,[],[]),(8,[],[]),(9,[],[]),(10,[],[]),(11,[],[]),(12,[],[]),(13,[],[]),(14,[],[]),(15,[],[]),(16,[],[]),(17,[],[]),(18,[],[])] (by kernel_rfl) ?_) | (with_reducible refine zF (i:=4) [(0,[],[]),(1,[],[]),(2,[],[]),(3,[],[]),(4,[],[6]),(5,[],[]),(6,[],[]),(7,[],[]),(8,[],[]),(9,[],[]),(10,[],[])] (by kernel_rfl) ?_)) <;> simp [-qt,-qd,-ql,rgs,o1,k1,yS]) | ((first | (with_reducible refine zO ?_ ?_) | (with_reducible refine zA ?_ ?_)) <;> intro qb <;> (have qp:=qb;try simp only [psq] at qp) <;> simp [-qt,-qd,-ql,rgs,o1,k1,yS,qb])
 refine yJ (c_fits (p:=false) (q:=false) (t:=w.tree) (l:=w.events) (e:=⟨n,er,ca,w.now⟩) ht) (.bool _) ?hb ?_
 case hb=>exact .cons (.same _) (.cons (.ref0 (by simp [t1,k2]) (by simp) (by simp)) (.cons (.ref0 (by simp [t2,k3]) (by simp) (by simp)) .nil))
 obtain ⟨e,hee⟩:∃ e:Evt,e = ⟨n,er,ca,w.now⟩:=⟨_,rfl⟩
 have hbg:=m_begin (X:=X) (w:=w) (p:=p) (n:=n) h4
 by_cases hf:fits w.tree w.events ⟨n,er,ca,w.now⟩ = true
 ·try simp [-qt,-qd,-ql,rgs,o1,k1,hf]
  repeat' first | done | ((first | ((with_reducible show vZ _ _ _ _ _ _ _ _);refine zQ rfl rfl (by decide) (by decide) (by first | (simp [-qt,-qd,-ql,rgs,o1,k1,hf];done) | (simp [-qt,-qd,-ql,rgs,o1,k1,hf];rfl)) (by first | (simp [-qt,-qd,-ql,rgs,o1,k1,hf];done) | (simp [-qt,-qd,-ql,rgs,o1,k1,hf];rfl)) (by first | (simp;done) | (simp;omega)) (by first | (simp only [zY,LIM] at *; simp;omega) | (simp only [zY];simp;omega)) (by simp [iv,bv]) ?_) | (with_reducible refine zF (i:=2) [(0,[],[]),(1,[],[]),(2,[],[]),(3,[],[]),(4,[],[]),(5,[],[]),(6,[],[]),(7,[],[]),(8,[],[]),(9,[],[]),(10,[],[]),(11,[],[]),(12,[],[]),(13,[],[]),(14,[],[]),(15,[],[]),(16,[],[]),(17,[],[]),(18,[],[])] (by kernel_rfl) ?_) | (with_reducible refine zF (i:=4) [(0,[],[]),(1,[],[]),(2,[],[]),(3,[],[]),(4,[],[6]),(5,[],[]),(6,[],[]),(7,[],[]),(8,[],[]),(9,[],[]),(10,[],[])] (by kernel_rfl) ?_)) <;> simp [-qt,-qd,-ql,rgs,o1,k1,hf]) | ((first | (with_reducible refine zO ?_ ?_) | (with_reducible refine zA ?_ ?_)) <;> intro qb <;> (have qp:=qb;try simp only [psq] at qp) <;> simp [-qt,-qd,-ql,rgs,o1,k1,hf,qb])
  refine yX hbg ⟨by simp [k1,o0],V1.keep fun id hm=>by have:=hin id hm;dsimp only;repeat rw [zI _ _ _ _ (by omega)]⟩ ?_
  rintro r h1 n1 ⟨rfl,⟨X1,o2,V2,hid⟩,hf1⟩ hle1 hfr1
  dsimp only at hid hf1 hle1
  have hev:=hf1 (nx + 9) (by omega) (by omega) (fun hm=>by have:=hin _ hm;omega)
  simp at hev
  by_cases hb:zF5 w n = true
  ·have hc:zH3 w ⟨n,er,ca,w.now⟩ = true:=by simp [zH3,hf,hb]
   have hW:cutW w ⟨n,er,ca,w.now⟩ = cutS w ⟨n,er,ca,w.now⟩:=by simp [cutW,hc]
   have hW2:begW w n = begS w n:=by simp [begW,hb]
   rw [hc,hW]
   rw [hb]
   rw [hW2] at o2 V2
   have s2:=V2.top 2 (by omega)
   simp only [zH5] at s2
   have p2:=V2.obj o2
   have in2:∀ j ∈ X1.ids,j < n1:=fun j hj=>by rcases hid j hj with r | r;(have:=hin j r;omega);omega
   have m2:=in2 _ (WI.top_mem (X:=X1) (k:=2) (by omega))
   have o3:=o2
   simp only [vN] at o3
   have j1:∀ k,(p = n1 + k) = False:=fun k=>by simp only [eq_iff_iff,iff_false];omega
   have j2:∀ k,(X1.top 2 = n1 + k) = False:=fun k=>by simp only [eq_iff_iff,iff_false];omega
   have j3:(p = X1.top 2) = False:=by simp only [eq_iff_iff,iff_false];exact fun e=>p2 (e ▸ WI.top_mem (by omega))
   have j4:∀ k,(nx + 9 = n1 + k) = False:=fun k=>by simp only [eq_iff_iff,iff_false];omega
   try simp [-qt,-qd,-ql,rgs,o3,s2,hev,begS,mkW,yS,j1,j2,j3,j4]
   repeat' first | done | ((first | ((with_reducible show vZ _ _ _ _ _ _ _ _);refine zQ rfl rfl (by decide) (by decide) (by first | (simp [-qt,-qd,-ql,rgs,o3,s2,hev,begS,mkW,yS,j1,j2,j3,j4];done) | (simp [-qt,-qd,-ql,rgs,o3,s2,hev,begS,mkW,yS,j1,j2,j3,j4];rfl)) (by first | (simp [-qt,-qd,-ql,rgs,o3,s2,hev,begS,mkW,yS,j1,j2,j3,j4];done) | (simp [-qt,-qd,-ql,rgs,o3,s2,hev,begS,mkW,yS,j1,j2,j3,j4];rfl)) (by first | (simp;done) | (simp;omega)) (by first | (simp only [zY,LIM] at *; simp;omega) | (simp only [zY];simp;omega)) (by simp [iv,bv]) ?_) | (with_reducible refine zF (i:=2) [(0,[],[]),(1,[],[]),(2,[],[]),(3,[],[]),(4,[],[]),(5,[],[]),(6,[],[]),(7,[],[]),(8,[],[]),(9,[],[]),(10,[],[]),(11,[],[]),(12,[],[]),(13,[],[]),(14,[],[]),(15,[],[]),(16,[],[]),(17,[],[]),(18,[],[])] (by kernel_rfl) ?_) | (with_reducible refine zF (i:=4) [(0,[],[]),(1,[],[]),(2,[],[]),(3,[],[]),(4,[],[6]),(5,[],[]),(6,[],[]),(7,[],[]),(8,[],[]),(9,[],[]),(10,[],[])] (by kernel_rfl) ?_)) <;> simp [-qt,-qd,-ql,rgs,o3,s2,hev,begS,mkW,yS,j1,j2,j3,j4]) | ((first | (with_reducible refine zO ?_ ?_) | (with_reducible refine zA ?_ ?_)) <;> intro qb <;> (have qp:=qb;try simp only [psq] at qp) <;> simp [-qt,-qd,-ql,rgs,o3,s2,hev,begS,mkW,yS,j1,j2,j3,j4,qb])
   refine ⟨rfl,⟨X1.setTop 2 (n1 + 7),?_,V2.newTop [] (by omega) (fun hm=>by have:=in2 _ hm;omega) ?_ (by simp) (by simp) (fun k hk _ hne => ?_) rfl rfl (fun j hj _ hne => ?_),fun j hj => ?_⟩,fun j hj hjp hjX => ?_⟩
   ·rw [zL];simp [vN,WI.setTop,cutS,begS,mkW]
   ·rw [zI _ _ _ _ (by omega),zL];simp [zH5,cutS,mkW,yS]
   ·rcases lt15 hk with rfl | rfl | rfl | rfl | rfl | rfl | rfl | rfl | rfl | rfl | rfl | rfl | rfl | rfl | rfl <;> first | rfl | exact absurd rfl hne
   ·have:=in2 j hj
    rw [zI _ _ _ _ (fun (e:j = p)=>p2 (e ▸ hj)),zI _ _ _ _ (by omega),zI _ _ _ _ hne,zI _ _ _ _ (by omega)]
   ·rcases WI.setTop_ids hj with q | q
    ·rcases hid j q with r | r
     ·exact .inl r
     ·right;omega
    ·right;omega
   ·have hne:j ≠ X1.top 2:=fun e=>by
     rcases hid (X1.top 2) (WI.top_mem (by omega)) with r | r
     ·exact hjX (e ▸ r)
     ·omega
    rw [zI _ _ _ _ hjp,zI _ _ _ _ (by omega),zI _ _ _ _ hne,zI _ _ _ _ (by omega),hf1 j (by omega) hjp hjX]
    repeat rw [zI _ _ _ _ (by omega)]
  ·have hb2:zF5 w n = false:=by simpa using hb
   have hc:zH3 w ⟨n,er,ca,w.now⟩ = false:=by simp [zH3,hb2]
   have hW:cutW w ⟨n,er,ca,w.now⟩ = w:=by simp [cutW,hc]
   have hW2:begW w n = w:=by simp [begW,hb2]
   rw [hc,hW]
   rw [hb2]
   rw [hW2] at o2 V2
   try simp [-qt,-qd,-ql,rgs]
   repeat' first | done | ((first | ((with_reducible show vZ _ _ _ _ _ _ _ _);refine zQ rfl rfl (by decide) (by decide) (by first | (simp [-qt,-qd,-ql,rgs];done) | (simp [-qt,-qd,-ql,rgs];rfl)) (by first | (simp [-qt,-qd,-ql,rgs];done) | (simp [-qt,-qd,-ql,rgs];rfl)) (by first | (simp;done) | (simp;omega)) (by first | (simp only [zY,LIM] at *; simp;omega) | (simp only [zY];simp;omega)) (by simp [iv,bv]) ?_) | (with_reducible refine zF (i:=2) [(0,[],[]),(1,[],[]),(2,[],[]),(3,[],[]),(4,[],[]),(5,[],[]),(6,[],[]),(7,[],[]),(8,[],[]),(9,[],[]),(10,[],[]),(11,[],[]),(12,[],[]),(13,[],[]),(14,[],[]),(15,[],[]),(16,[],[]),(17,[],[]),(18,[],[])] (by kernel_rfl) ?_) | (with_reducible refine zF (i:=4) [(0,[],[]),(1,[],[]),(2,[],[]),(3,[],[]),(4,[],[6]),(5,[],[]),(6,[],[]),(7,[],[]),(8,[],[]),(9,[],[]),(10,[],[])] (by kernel_rfl) ?_)) <;> simp [-qt,-qd,-ql,rgs]) | ((first | (with_reducible refine zO ?_ ?_) | (with_reducible refine zA ?_ ?_)) <;> intro qb <;> (have qp:=qb;try simp only [psq] at qp) <;> simp [-qt,-qd,-ql,rgs,qb])
   refine ⟨rfl,⟨X1,o2,V2,fun id hm=>by rcases hid id hm with r | r <;> first | exact .inl r | (right;omega)⟩,fun j hj hjp hjX => ?_⟩
   rw [hf1 j (by omega) hjp hjX]
   repeat rw [zI _ _ _ _ (by omega)]
 ·have hf2:fits w.tree w.events ⟨n,er,ca,w.now⟩ = false:=by simpa using hf
  have hc:zH3 w ⟨n,er,ca,w.now⟩ = false:=by simp [zH3,hf2]
  have hW:cutW w ⟨n,er,ca,w.now⟩ = w:=by simp [cutW,hc]
  rw [hc,hW]
  try simp [-qt,-qd,-ql,rgs,o1,k1,hf2]
  repeat' first | done | ((first | ((with_reducible show vZ _ _ _ _ _ _ _ _);refine zQ rfl rfl (by decide) (by decide) (by first | (simp [-qt,-qd,-ql,rgs,o1,k1,hf2];done) | (simp [-qt,-qd,-ql,rgs,o1,k1,hf2];rfl)) (by first | (simp [-qt,-qd,-ql,rgs,o1,k1,hf2];done) | (simp [-qt,-qd,-ql,rgs,o1,k1,hf2];rfl)) (by first | (simp;done) | (simp;omega)) (by first | (simp only [zY,LIM] at *; simp;omega) | (simp only [zY];simp;omega)) (by simp [iv,bv]) ?_) | (with_reducible refine zF (i:=2) [(0,[],[]),(1,[],[]),(2,[],[]),(3,[],[]),(4,[],[]),(5,[],[]),(6,[],[]),(7,[],[]),(8,[],[]),(9,[],[]),(10,[],[]),(11,[],[]),(12,[],[]),(13,[],[]),(14,[],[]),(15,[],[]),(16,[],[]),(17,[],[]),(18,[],[])] (by kernel_rfl) ?_) | (with_reducible refine zF (i:=4) [(0,[],[]),(1,[],[]),(2,[],[]),(3,[],[]),(4,[],[6]),(5,[],[]),(6,[],[]),(7,[],[]),(8,[],[]),(9,[],[]),(10,[],[])] (by kernel_rfl) ?_)) <;> simp [-qt,-qd,-ql,rgs,o1,k1,hf2]) | ((first | (with_reducible refine zO ?_ ?_) | (with_reducible refine zA ?_ ?_)) <;> intro qb <;> (have qp:=qb;try simp only [psq] at qp) <;> simp [-qt,-qd,-ql,rgs,o1,k1,hf2,qb])
  refine ⟨rfl,⟨X,by simp [k1,o0],V1.keep fun id hm=>by have:=hin id hm;(repeat rw [zI _ _ _ _ (by omega)]),fun id hm=>.inl hm⟩,fun j hj hjp hjX => ?_⟩
  repeat rw [zI _ _ _ _ (by omega)]
theorem m_arm {X:WI} {w:Wld} {p:Nat} {d what whom:Int} (ht:uL w.timers = true):AC ctx.P 177 [.ptr p 6,.int .i64 d,.int .i64 what,.int .i64 whom]
 (fun h _=>h p = some (.obj (vN X w)) ∧ WV h X w) (ChgQ p X (setT w (armT w.timers d what whom)) (.int .i64 (armI w.timers what whom))):=by
 obtain ⟨h1,h2,⟨h3,h4,h5⟩,h6,h7,h8⟩:=zQ7.1 ht
 have ew:IntKind.i64.wrap (w.timers.next + 1) = w.timers.next + 1:=zH (by omega)
 refine AC.o okC Tryz.func177 rfl fun h nx hfr hnx hpre => ?_
 obtain ⟨o1,V1⟩:=hpre
 have hp:p < nx:=hnx p (by rw [o1];simp)
 have hpX:=V1.obj o1
 have hin:=V1.lt hnx
 have t5:=V1.top 5 (by omega)
 have t6:=V1.top 6 (by omega)
 simp only [zH5] at t5 t6
 have o0:=o1
 simp only [vN] at o1
 have l5:=hin _ (WI.top_mem (X:=X) (k:=5) (by omega))
 have l6:=hin _ (WI.top_mem (X:=X) (k:=6) (by omega))
 have k1:∀ k,(p = nx + k) = False:=fun k=>by simp only [eq_iff_iff,iff_false];omega
 have k2:∀ k,(X.top 5 = nx + k) = False:=fun k=>by simp only [eq_iff_iff,iff_false];omega
 have k3:∀ k,(X.top 6 = nx + k) = False:=fun k=>by simp only [eq_iff_iff,iff_false];omega
 have k4:(p = X.top 5) = False:=by simp only [eq_iff_iff,iff_false];exact fun e=>hpX (e ▸ WI.top_mem (by omega))
 have k5:(p = X.top 6) = False:=by simp only [eq_iff_iff,iff_false];exact fun e=>hpX (e ▸ WI.top_mem (by omega))
 have k6:(X.top 5 = X.top 6) = False:=by simp only [eq_iff_iff,iff_false];exact fun e=>absurd (V1.top_inj (by omega) (by omega) e) (by omega)
 have k7:(X.top 5 = p) = False:=by simp only [eq_iff_iff,iff_false];exact fun e=>hpX (e ▸ WI.top_mem (by omega))
 have k8:(X.top 6 = p) = False:=by simp only [eq_iff_iff,iff_false];exact fun e=>hpX (e ▸ WI.top_mem (by omega))
 have k9:∀ k,(nx + k = p) = False:=fun k=>by simp only [eq_iff_iff,iff_false];omega
 by_cases hc:zO5 w.timers what whom = true
 ·have e1:armT w.timers d what whom = armS w.timers d what whom:=by simp [armT,hc]
  have e2:armI w.timers what whom = w.timers.next:=by simp [armI,hc]
  rw [e1,e2]
  simp only [zO5,Bool.and_eq_true,decide_eq_true_eq,bne_iff_ne,ne_eq] at hc
  obtain ⟨c1,c2,c3,c4⟩:=hc
  obtain ⟨r1,r2⟩:=arm_room ht c1
  have c1p:((w.timers.list.length:Int) == 64) = false:=by simp;omega
  have c2p:(w.timers.next == 1000000) = false:=by simpa using c2
  try simp [-qt,-qd,-ql,rgs,o1,t5,t6,c1p,c2p,c3,c4,ew,vJ,k1,k2,k3,k4,k5,k6]
  repeat' first | done | ((first | ((with_reducible show zU _ _ _ _ _ _);refine zB rfl fun _ => ?_) | ((with_reducible show zG _ _ _ 222 _ _);refine zD (vA) ?_) | ((with_reducible show vZ _ _ _ _ _ _ _ _);refine zQ rfl rfl (by decide) (by decide) (by first | (simp [-qt,-qd,-ql,rgs,o1,t5,t6,c1p,c2p,c3,c4,ew,vJ,k1,k2,k3,k4,k5,k6];done) | (simp [-qt,-qd,-ql,rgs,o1,t5,t6,c1p,c2p,c3,c4,ew,vJ,k1,k2,k3,k4,k5,k6];rfl)) (by first | (simp [-qt,-qd,-ql,rgs,o1,t5,t6,c1p,c2p,c3,c4,ew,vJ,k1,k2,k3,k4,k5,k6];done) | (simp [-qt,-qd,-ql,rgs,o1,t5,t6,c1p,c2p,c3,c4,ew,vJ,k1,k2,k3,k4,k5,k6];rfl)) (by first | (simp;done) | (simp;omega)) (by first | (simp only [zY,LIM] at *; simp;omega) | (simp only [zY];simp;omega)) (by simp [iv,bv]) ?_)) <;> simp [-qt,-qd,-ql,rgs,o1,t5,t6,c1p,c2p,c3,c4,ew,vJ,k1,k2,k3,k4,k5,k6]) | ((first | (with_reducible refine zE ?_ ?_) | (with_reducible refine zA ?_ ?_)) <;> intro qb <;> (have qp:=qb;try simp only [psq] at qp) <;> simp [-qt,-qd,-ql,rgs,o1,t5,t6,c1p,c2p,c3,c4,ew,vJ,k1,k2,k3,k4,k5,k6,qb])
  refine zI6 (f_put (p:=false) (a:=w.timers.heap) (d:=d) (s:=w.timers.next) (by omega) h5 r2) (fun f=>by simp;exact .ref _ _ _ _) (fun e he=>by simp at he;subst he;exact twg_cl _) (.cons (Bor.ref0 (by simp [t5,k1,k2,k3,k4,k5,k6,k7,k8]) (by simp) (by simp)) (.cons (.same _) (.cons (.same _) .nil))) ?_
  try simp [-qt,-qd,-ql,rgs,o1,k1,k2,k3,k4,k5,k6]
  repeat' first | done | ((first | ((with_reducible show zU _ _ _ _ _ _);refine zB rfl fun _ => ?_) | ((with_reducible show vZ _ _ _ _ _ _ _ _);refine zQ rfl rfl (by decide) (by decide) (by first | (simp [-qt,-qd,-ql,rgs,o1,k1,k2,k3,k4,k5,k6];done) | (simp [-qt,-qd,-ql,rgs,o1,k1,k2,k3,k4,k5,k6];rfl)) (by first | (simp [-qt,-qd,-ql,rgs,o1,k1,k2,k3,k4,k5,k6];done) | (simp [-qt,-qd,-ql,rgs,o1,k1,k2,k3,k4,k5,k6];rfl)) (by first | (simp;done) | (simp;omega)) (by first | (simp only [zY,LIM] at *; simp;omega) | (simp only [zY];simp;omega)) (by simp [iv,bv]) ?_)) <;> simp [-qt,-qd,-ql,rgs,o1,k1,k2,k3,k4,k5,k6]) | ((first | (with_reducible refine zE ?_ ?_) | (with_reducible refine zA ?_ ?_)) <;> intro qb <;> (have qp:=qb;try simp only [psq] at qp) <;> simp [-qt,-qd,-ql,rgs,o1,k1,k2,k3,k4,k5,k6,qb])
  refine ⟨rfl,⟨(X.setTop 6 (nx + 40)).setTop 5 (nx + 63),?_,V1.lay2 (by omega) (by omega) (by omega) (fun hm=>by have:=hin _ hm;omega) (fun hm=>by have:=hin _ hm;omega) (by omega) ?_ ?_ (fun k hk h6 h5 => ?_) rfl rfl (fun j hj h6 h5 => ?_),fun j hj => ?_⟩,fun j hj hjp hjX => ?_⟩
  ·rw [zL];simp [vN,WI.setTop,setT,mkW,armS]
  ·simp [zH5,setT,mkW,armS,vJ,k9]
  ·simp [zH5,setT,mkW,armS,k9]
  ·rcases lt15 hk with rfl | rfl | rfl | rfl | rfl | rfl | rfl | rfl | rfl | rfl | rfl | rfl | rfl | rfl | rfl <;> first | rfl | exact absurd rfl h6 | exact absurd rfl h5
  ·have:=hin j hj
   have hjp:j ≠ p:=fun e=>hpX (e ▸ hj)
   simp [hjp,h5,h6,show ∀ k,(j = nx + k) = False from fun k=>by simp only [eq_iff_iff,iff_false];omega]
  ·rcases WI.setTop_ids hj with q | q
   ·rcases WI.setTop_ids q with q | q
    ·exact .inl q
    ·right;omega
   ·right;omega
  ·have h5:j ≠ X.top 5:=fun e=>hjX (e ▸ WI.top_mem (by omega))
   have h6:j ≠ X.top 6:=fun e=>hjX (e ▸ WI.top_mem (by omega))
   simp [hjp,h5,h6,show ∀ k,(j = nx + k) = False from fun k=>by simp only [eq_iff_iff,iff_false];omega]
 ·have e1:armT w.timers d what whom = w.timers:=by simp [armT,hc]
  have e2:armI w.timers what whom = -1:=by simp [armI,hc]
  rw [e1,e2,setT_same]
  by_cases c1:w.timers.list.length = 64
  ·have c1p:((w.timers.list.length:Int) == 64) = true:=by simp;omega
   try simp [-qt,-qd,-ql,rgs,o1,c1p,k1,k2,k3,k4,k5,k6]
   repeat' first | done | ((first | ((with_reducible show zU _ _ _ _ _ _);refine zB rfl fun _ => ?_) | ((with_reducible show vZ _ _ _ _ _ _ _ _);refine zQ rfl rfl (by decide) (by decide) (by first | (simp [-qt,-qd,-ql,rgs,o1,c1p,k1,k2,k3,k4,k5,k6];done) | (simp [-qt,-qd,-ql,rgs,o1,c1p,k1,k2,k3,k4,k5,k6];rfl)) (by first | (simp [-qt,-qd,-ql,rgs,o1,c1p,k1,k2,k3,k4,k5,k6];done) | (simp [-qt,-qd,-ql,rgs,o1,c1p,k1,k2,k3,k4,k5,k6];rfl)) (by first | (simp;done) | (simp;omega)) (by first | (simp only [zY,LIM] at *; simp;omega) | (simp only [zY];simp;omega)) (by simp [iv,bv]) ?_)) <;> simp [-qt,-qd,-ql,rgs,o1,c1p,k1,k2,k3,k4,k5,k6]) | ((first | (with_reducible refine zE ?_ ?_) | (with_reducible refine zA ?_ ?_)) <;> intro qb <;> (have qp:=qb;try simp only [psq] at qp) <;> simp [-qt,-qd,-ql,rgs,o1,c1p,k1,k2,k3,k4,k5,k6,qb])
   exact ⟨rfl,⟨X,o0,V1,fun id h=>.inl h⟩,fun j _ _ _=>rfl⟩
  ·have c1p:((w.timers.list.length:Int) == 64) = false:=by simp;omega
   by_cases c2:w.timers.next = 1000000
   ·have c2p:(w.timers.next == 1000000) = true:=by simp [c2]
    try simp [-qt,-qd,-ql,rgs,o1,c1p,c2p,k1,k2,k3,k4,k5,k6]
    repeat' first | done | ((first | ((with_reducible show zU _ _ _ _ _ _);refine zB rfl fun _ => ?_) | ((with_reducible show vZ _ _ _ _ _ _ _ _);refine zQ rfl rfl (by decide) (by decide) (by first | (simp [-qt,-qd,-ql,rgs,o1,c1p,c2p,k1,k2,k3,k4,k5,k6];done) | (simp [-qt,-qd,-ql,rgs,o1,c1p,c2p,k1,k2,k3,k4,k5,k6];rfl)) (by first | (simp [-qt,-qd,-ql,rgs,o1,c1p,c2p,k1,k2,k3,k4,k5,k6];done) | (simp [-qt,-qd,-ql,rgs,o1,c1p,c2p,k1,k2,k3,k4,k5,k6];rfl)) (by first | (simp;done) | (simp;omega)) (by first | (simp only [zY,LIM] at *; simp;omega) | (simp only [zY];simp;omega)) (by simp [iv,bv]) ?_)) <;> simp [-qt,-qd,-ql,rgs,o1,c1p,c2p,k1,k2,k3,k4,k5,k6]) | ((first | (with_reducible refine zE ?_ ?_) | (with_reducible refine zA ?_ ?_)) <;> intro qb <;> (have qp:=qb;try simp only [psq] at qp) <;> simp [-qt,-qd,-ql,rgs,o1,c1p,c2p,k1,k2,k3,k4,k5,k6,qb])
    exact ⟨rfl,⟨X,o0,V1,fun id h=>.inl h⟩,fun j _ _ _=>rfl⟩
   ·have c2p:(w.timers.next == 1000000) = false:=by simpa using c2
    by_cases c3:inR what 0 2 = true
    ·have c4:inR whom 0 99 = false:=by
      cases hq:inR whom 0 99 with
      | false=>rfl
      | true=>exact absurd (by simp [zO5,c1,c2,c3,hq]) hc
     try simp [-qt,-qd,-ql,rgs,o1,c1p,c2p,c3,c4,k1,k2,k3,k4,k5,k6]
     repeat' first | done | ((first | ((with_reducible show zU _ _ _ _ _ _);refine zB rfl fun _ => ?_) | ((with_reducible show zG _ _ _ 222 _ _);refine zD (vA) ?_) | ((with_reducible show vZ _ _ _ _ _ _ _ _);refine zQ rfl rfl (by decide) (by decide) (by first | (simp [-qt,-qd,-ql,rgs,o1,c1p,c2p,c3,c4,k1,k2,k3,k4,k5,k6];done) | (simp [-qt,-qd,-ql,rgs,o1,c1p,c2p,c3,c4,k1,k2,k3,k4,k5,k6];rfl)) (by first | (simp [-qt,-qd,-ql,rgs,o1,c1p,c2p,c3,c4,k1,k2,k3,k4,k5,k6];done) | (simp [-qt,-qd,-ql,rgs,o1,c1p,c2p,c3,c4,k1,k2,k3,k4,k5,k6];rfl)) (by first | (simp;done) | (simp;omega)) (by first | (simp only [zY,LIM] at *; simp;omega) | (simp only [zY];simp;omega)) (by simp [iv,bv]) ?_)) <;> simp [-qt,-qd,-ql,rgs,o1,c1p,c2p,c3,c4,k1,k2,k3,k4,k5,k6]) | ((first | (with_reducible refine zE ?_ ?_) | (with_reducible refine zA ?_ ?_)) <;> intro qb <;> (have qp:=qb;try simp only [psq] at qp) <;> simp [-qt,-qd,-ql,rgs,o1,c1p,c2p,c3,c4,k1,k2,k3,k4,k5,k6,qb])
     exact ⟨rfl,⟨X,o0,V1,fun id h=>.inl h⟩,fun j _ _ _=>rfl⟩
    ·have c3f:inR what 0 2 = false:=by simpa using c3
     try simp [-qt,-qd,-ql,rgs,o1,c1p,c2p,c3f,k1,k2,k3,k4,k5,k6]
     repeat' first | done | ((first | ((with_reducible show zU _ _ _ _ _ _);refine zB rfl fun _ => ?_) | ((with_reducible show zG _ _ _ 222 _ _);refine zD (vA) ?_) | ((with_reducible show vZ _ _ _ _ _ _ _ _);refine zQ rfl rfl (by decide) (by decide) (by first | (simp [-qt,-qd,-ql,rgs,o1,c1p,c2p,c3f,k1,k2,k3,k4,k5,k6];done) | (simp [-qt,-qd,-ql,rgs,o1,c1p,c2p,c3f,k1,k2,k3,k4,k5,k6];rfl)) (by first | (simp [-qt,-qd,-ql,rgs,o1,c1p,c2p,c3f,k1,k2,k3,k4,k5,k6];done) | (simp [-qt,-qd,-ql,rgs,o1,c1p,c2p,c3f,k1,k2,k3,k4,k5,k6];rfl)) (by first | (simp;done) | (simp;omega)) (by first | (simp only [zY,LIM] at *; simp;omega) | (simp only [zY];simp;omega)) (by simp [iv,bv]) ?_)) <;> simp [-qt,-qd,-ql,rgs,o1,c1p,c2p,c3f,k1,k2,k3,k4,k5,k6]) | ((first | (with_reducible refine zE ?_ ?_) | (with_reducible refine zA ?_ ?_)) <;> intro qb <;> (have qp:=qb;try simp only [psq] at qp) <;> simp [-qt,-qd,-ql,rgs,o1,c1p,c2p,c3f,k1,k2,k3,k4,k5,k6,qb])
     exact ⟨rfl,⟨X,o0,V1,fun id h=>.inl h⟩,fun j _ _ _=>rfl⟩
theorem m_grow {X:WI} {w:Wld} {p:Nat} {kind up a b:Int} (hw:vG w = true):AC ctx.P 86 [.ptr p 0,.int .i64 kind,.int .i64 up,.int .i64 a,.int .i64 b]
 (fun h _=>h p = some (.obj (vN X w)) ∧ WV h X w) (ChgQ p X (zG3 w kind up a b) (.tup [.int .i64 (zP3 w kind up a b),.bool (zJ9 w kind up a b)])):=by
 have he:=wldOk_ev hw
 have ht:=zB2 he
 have hs:vC w.spread w.tree = true:=(zQ9 hw).2.2.2.2.1
 have htm:uL w.timers = true:=(zQ9 hw).2.2.2.2.2.2.1
 have hlt:=zB9 ht
 have hle:=events_len he
 have hwk:w.spread.work.length ≤ 240:=by simp only [vC,Bool.and_eq_true,decide_eq_true_eq] at hs;exact hs.2.1
 have htl:w.spread.told.length ≤ 60:=by simp only [vC,Bool.and_eq_true,beq_iff_eq] at hs;omega
 obtain ⟨x,hx⟩:∃ x,x = vF kind up a b:=⟨_,rfl⟩
 have hnf:=c_nodeFor (kind:=kind) (up:=up) (a:=a) (b:=b)
 rw [← hx] at hnf
 have hxk:x.kind = kind:=by rw [hx];unfold vF;split <;> first | rfl | (split <;> rfl)
 have hin0:=c_isNode (n:=x) (i:=w.tree.length) (by omega) (by simp only [LIM];omega)
 refine AC.o okC Tryz.func86 rfl fun h nx hfr hnx hpre => ?_
 obtain ⟨o1,V1⟩:=hpre
 have hp:p < nx:=hnx p (by rw [o1];simp)
 have hpX:=V1.obj o1
 have hin:=V1.lt hnx
 have t1:=V1.top 1 (by omega)
 have t3:=V1.top 3 (by omega)
 simp only [zH5] at t1 t3
 have o0:=o1
 simp only [vN] at o1
 have l1:=hin _ (WI.top_mem (X:=X) (k:=1) (by omega))
 have l3:=hin _ (WI.top_mem (X:=X) (k:=3) (by omega))
 have k1:∀ k,(p = nx + k) = False:=fun k=>by simp only [eq_iff_iff,iff_false];omega
 have k2:∀ k,(X.top 1 = nx + k) = False:=fun k=>by simp only [eq_iff_iff,iff_false];omega
 have k3:∀ k,(X.top 3 = nx + k) = False:=fun k=>by simp only [eq_iff_iff,iff_false];omega
 have k4:(p = X.top 1) = False:=by simp only [eq_iff_iff,iff_false];exact fun e=>hpX (e ▸ WI.top_mem (by omega))
 have k5:(p = X.top 3) = False:=by simp only [eq_iff_iff,iff_false];exact fun e=>hpX (e ▸ WI.top_mem (by omega))
 have k6:(X.top 1 = X.top 3) = False:=by simp only [eq_iff_iff,iff_false];exact fun e=>absurd (V1.top_inj (by omega) (by omega) e) (by omega)
 have k7:(X.top 3 = X.top 1) = False:=by simp only [eq_iff_iff,iff_false];exact fun e=>absurd (V1.top_inj (by omega) (by omega) e) (by omega)
 have k9:∀ k,(nx + k = p) = False:=fun k=>by simp only [eq_iff_iff,iff_false];omega
 have k10:∀ k,(nx + k = X.top 1) = False:=fun k=>by simp only [eq_iff_iff,iff_false];omega
 have k11:∀ k,(nx + k = X.top 3) = False:=fun k=>by simp only [eq_iff_iff,iff_false];omega
 by_cases hc:growC w kind up a b = true
 ·have hc':=hc
  simp only [growC,zE2,← hx,Bool.and_eq_true,decide_eq_true_eq] at hc'
  obtain ⟨c1,c2,c3⟩:=hc'
  have c2p:((w.tree.length:Int) == 60) = false:=by simp;omega
  have hW:zG3 w kind up a b = nodW (uS w x) x w.tree.length:=by simp [zG3,hc,hx]
  have hB:zJ9 w kind up a b = nodB (uS w x) x w.tree.length:=by simp [zJ9,hc,hx]
  have hI:zP3 w kind up a b = w.tree.length:=by simp [zP3,hc]
  have ht2:vV (w.tree ++ [x]) = true:=by rw [zK0,ht];simp [zE2,c2,c3]
  rw [hW,hB,hI]
  try simp [-qt,-qd,-ql,rgs,o1,t1,c1,c2p,c3,k1,k2,k3,k4,k5,k6]
  repeat' first | done | ((first | ((with_reducible show zU _ _ _ _ _ _);refine zB rfl fun _ => ?_) | (refine zD (hnf) ?_) | (refine zD (hin0) ?_) | ((with_reducible show vZ _ _ _ _ _ _ _ _);refine zQ rfl rfl (by decide) (by decide) (by first | (simp [-qt,-qd,-ql,rgs,o1,t1,c1,c2p,c3,k1,k2,k3,k4,k5,k6];done) | (simp [-qt,-qd,-ql,rgs,o1,t1,c1,c2p,c3,k1,k2,k3,k4,k5,k6];rfl)) (by first | (simp [-qt,-qd,-ql,rgs,o1,t1,c1,c2p,c3,k1,k2,k3,k4,k5,k6];done) | (simp [-qt,-qd,-ql,rgs,o1,t1,c1,c2p,c3,k1,k2,k3,k4,k5,k6];rfl)) (by first | (simp;done) | (simp;omega)) (by first | (simp only [zY,LIM] at *; simp;omega) | (simp only [zY];simp;omega)) (by simp [iv,bv]) ?_) | (with_reducible refine zF (i:=2) [(0,[],[]),(1,[],[]),(2,[],[]),(3,[],[]),(4,[],[]),(5,[],[]),(6,[],[]),(7,[],[]),(8,[],[]),(9,[],[]),(10,[],[]),(11,[],[]),(12,[],[]),(13,[],[]),(14,[],[]),(15,[],[]),(16,[],[]),(17,[],[]),(18,[],[]),(19,[],[])] (by kernel_rfl) ?_) | (with_reducible refine zF (i:=5) [(0,[],[]),(1,[],[]),(2,[],[]),(3,[],[]),(4,[],[]),(5,[],[7,14]),(6,[],[14]),(9,[],[]),(10,[],[]),(11,[],[]),(12,[],[]),(13,[],[7,14]),(7,[],[]),(8,[.tmp 62],[14]),(14,[],[]),(15,[],[]),(16,[],[]),(17,[],[]),(18,[],[]),(19,[],[]),(20,[],[]),(21,[],[]),(22,[],[])] (by kernel_rfl) ?_) | (with_reducible refine zF (i:=6) [(0,[],[]),(1,[],[]),(2,[],[]),(3,[],[13]),(4,[],[]),(5,[],[]),(6,[],[]),(7,[],[13]),(8,[],[]),(9,[],[13]),(10,[],[]),(11,[],[]),(12,[],[]),(13,[],[]),(14,[],[]),(15,[],[])] (by kernel_rfl) ?_) | (with_reducible refine zF (i:=11) [(0,[],[]),(1,[],[]),(2,[],[]),(3,[],[]),(4,[],[]),(5,[],[]),(6,[],[]),(7,[],[])] (by kernel_rfl) ?_) | (with_reducible refine zF (i:=13) [(0,[],[]),(1,[],[]),(2,[],[]),(3,[],[]),(4,[],[]),(5,[],[]),(6,[],[]),(7,[],[]),(8,[],[]),(9,[],[]),(10,[],[])] (by kernel_rfl) ?_)) <;> simp [-qt,-qd,-ql,rgs,o1,t1,c1,c2p,c3,k1,k2,k3,k4,k5,k6]) | ((first | (with_reducible refine zO ?_ ?_) | (with_reducible refine zE ?_ ?_) | (with_reducible refine zA ?_ ?_)) <;> intro qb <;> (have qp:=qb;try simp only [psq] at qp) <;> simp [-qt,-qd,-ql,rgs,o1,t1,c1,c2p,c3,k1,k2,k3,k4,k5,k6,qb])
  refine yJ (c_size_Node (p:=false) (xs:=w.tree)) (.int _ _) ?hb ?_
  case hb=>exact .cons (.ref0 (by simp [t1,k2]) (by simp) (by simp)) .nil
  try simp [-qt,-qd,-ql,rgs,o1,t1,t3,k1,k2,k3,k4,k5,k6,k7,k9,yC,bv,zP hnx]
  repeat' first | done | ((first | ((with_reducible show zU _ _ _ _ _ _);refine zB rfl fun _ => ?_) | ((with_reducible show vZ _ _ _ _ _ _ _ _);refine zQ rfl rfl (by decide) (by decide) (by first | (simp [-qt,-qd,-ql,rgs,o1,t1,t3,k1,k2,k3,k4,k5,k6,k7,k9,yC,bv,zP hnx];done) | (simp [-qt,-qd,-ql,rgs,o1,t1,t3,k1,k2,k3,k4,k5,k6,k7,k9,yC,bv,zP hnx];rfl)) (by first | (simp [-qt,-qd,-ql,rgs,o1,t1,t3,k1,k2,k3,k4,k5,k6,k7,k9,yC,bv,zP hnx];done) | (simp [-qt,-qd,-ql,rgs,o1,t1,t3,k1,k2,k3,k4,k5,k6,k7,k9,yC,bv,zP hnx];rfl)) (by first | (simp;done) | (simp;omega)) (by first | (simp only [zY,LIM] at *; simp;omega) | (simp only [zY];simp;omega)) (by simp [iv,bv]) ?_) | (with_reducible refine zF (i:=2) [(0,[],[]),(1,[],[]),(2,[],[]),(3,[],[]),(4,[],[]),(5,[],[]),(6,[],[]),(7,[],[]),(8,[],[]),(9,[],[]),(10,[],[]),(11,[],[]),(12,[],[]),(13,[],[]),(14,[],[]),(15,[],[]),(16,[],[]),(17,[],[]),(18,[],[]),(19,[],[])] (by kernel_rfl) ?_) | (with_reducible refine zF (i:=5) [(0,[],[]),(1,[],[]),(2,[],[]),(3,[],[]),(4,[],[]),(5,[],[7,14]),(6,[],[14]),(9,[],[]),(10,[],[]),(11,[],[]),(12,[],[]),(13,[],[7,14]),(7,[],[]),(8,[.tmp 62],[14]),(14,[],[]),(15,[],[]),(16,[],[]),(17,[],[]),(18,[],[]),(19,[],[]),(20,[],[]),(21,[],[]),(22,[],[])] (by kernel_rfl) ?_) | (with_reducible refine zF (i:=6) [(0,[],[]),(1,[],[]),(2,[],[]),(3,[],[13]),(4,[],[]),(5,[],[]),(6,[],[]),(7,[],[13]),(8,[],[]),(9,[],[13]),(10,[],[]),(11,[],[]),(12,[],[]),(13,[],[]),(14,[],[]),(15,[],[])] (by kernel_rfl) ?_) | (with_reducible refine zF (i:=11) [(0,[],[]),(1,[],[]),(2,[],[]),(3,[],[]),(4,[],[]),(5,[],[]),(6,[],[]),(7,[],[])] (by kernel_rfl) ?_) | (with_reducible refine zF (i:=13) [(0,[],[]),(1,[],[]),(2,[],[]),(3,[],[]),(4,[],[]),(5,[],[]),(6,[],[]),(7,[],[]),(8,[],[]),(9,[],[]),(10,[],[])] (by kernel_rfl) ?_)) <;> simp [-qt,-qd,-ql,rgs,o1,t1,t3,k1,k2,k3,k4,k5,k6,k7,k9,yC,bv,zP hnx]) | ((first | (with_reducible refine zO ?_ ?_) | (with_reducible refine zE ?_ ?_) | (with_reducible refine zA ?_ ?_)) <;> intro qb <;> (have qp:=qb;try simp only [psq] at qp) <;> simp [-qt,-qd,-ql,rgs,o1,t1,t3,k1,k2,k3,k4,k5,k6,k7,k9,yC,bv,zP hnx,qb])
  generalize hH:upd (upd _ p _) p _ = H2
  obtain ⟨X2,hX2⟩:∃ X2,X2 = (X.setTop 1 (nx + 47)).setTop 3 (nx + 54):=⟨_,rfl⟩
  have o2:H2 p = some (.obj (vN X2 (uS w x))):=by rw [← hH,zL,hX2];simp [vN,WI.setTop,uS,mkW]
  have V2:WV H2 X2 (uS w x):=by
   rw [hX2]
   refine V1.lay2 (by omega) (by omega) (by omega) (fun hm=>by have:=hin _ hm;omega) (fun hm=>by have:=hin _ hm;omega) (by omega) ?_ ?_ (fun k hk h6 h5 => ?_) rfl rfl (fun j hj h6 h5 => ?_)
   ·rw [← hH];simp [zH5,uS,mkW,yC,k9,k7,k10,k11]
   ·rw [← hH];simp [zH5,uS,mkW,bv,k9,k10,k11]
   ·rcases lt15 hk with rfl | rfl | rfl | rfl | rfl | rfl | rfl | rfl | rfl | rfl | rfl | rfl | rfl | rfl | rfl <;> first | rfl | exact absurd rfl h6 | exact absurd rfl h5
   ·have:=hin j hj
    have hjp:j ≠ p:=fun e=>hpX (e ▸ hj)
    rw [← hH]
    simp [hjp,h5,h6,show ∀ k,(j = nx + k) = False from fun k=>by simp only [eq_iff_iff,iff_false];omega]
  have z2:H2 (nx + 10) = some (.obj (yC x)):=by rw [← hH];simp [yC,k9,k10,k11]
  have K2:∀ j,j < nx → j ≠ p → j ∉ X.ids → H2 j = h j:=fun j hj hjp hjX=>by
   have h5:j ≠ X.top 1:=fun e=>hjX (e ▸ WI.top_mem (by omega))
   have h6:j ≠ X.top 3:=fun e=>hjX (e ▸ WI.top_mem (by omega))
   rw [← hH]
   simp [hjp,h5,h6,show ∀ k,(j = nx + k) = False from fun k=>by simp only [eq_iff_iff,iff_false];omega]
  have hid2:∀ j ∈ X2.ids,j ∈ X.ids ∨ nx ≤ j ∧ j < nx + 74:=fun j hj=>by
   rw [hX2] at hj
   rcases WI.setTop_ids hj with q | q
   ·rcases WI.setTop_ids q with q | q
    ·exact .inl q
    ·right;omega
   ·right;omega
  clear hH
  have e1:X2.top 1 = nx + 47:=by rw [hX2];rfl
  have e2:X2.top 2 = X.top 2:=by rw [hX2];rfl
  have u1:=V2.top 1 (by omega)
  have u2:=V2.top 2 (by omega)
  rw [e1] at u1
  rw [e2] at u2
  simp only [zH5] at u1 u2
  have o3:=o2
  simp only [vN] at o3
  have hn2:w.tree.length < (w.tree ++ [x]).length:=by simp
  refine yJ (c_firstOf (p:=false) (q:=false) (t:=w.tree ++ [x]) (l:=w.events) (n:=w.tree.length) ht2 (by omega) (by omega)) (tup2_cl (evt_cl _) (.bool _)) ?hb2 ?_
  case hb2=>exact .cons (.ref0 (by simpa [uS,mkW] using u1) (by simp) (by simp)) (.cons (.ref0 (by simpa [uS,mkW] using u2) (by simp) (by simp)) (.cons (.same _) .nil))
  have hpn:∀ k,(p = nx + k) = False:=k1
  have hX2p:p ∉ X2.ids:=V2.obj o2
  have hl2:∀ j ∈ X2.ids,j < nx + 74:=fun j hj=>by rcases hid2 j hj with r | r;(have:=hin j r;omega);omega
  have hwk2:(uS w x).spread.work.length ≤ 1048576:=show w.spread.work.length ≤ 1048576 by omega
  have nX2:∀ j,j < nx → j ∉ X.ids → j ∉ X2.ids:=fun j hj hjX hm=>by rcases hid2 j hm with r | r;(exact hjX r);omega
  have ids3:∀ {X3:WI} {a b:Nat},(∀ id ∈ X3.ids,id ∈ X2.ids ∨ a ≤ id ∧ id < b) → nx ≤ a → nx + 74 ≤ b → ∀ id ∈ X3.ids,id ∈ X.ids ∨ nx ≤ id ∧ id < b:=fun h3 ha hb id hm=>by
   rcases h3 id hm with r | r
   ·rcases hid2 id r with r | r
    ·exact .inl r
    ·right;omega
   ·right;omega
  by_cases hf:(uN (w.tree ++ [x]) w.events w.tree.length).isSome = true
  ·have hB:nodB (uS w x) x w.tree.length = zF5 (uS w x) w.tree.length:=by unfold nodB;exact if_pos hf
   have hW:nodW (uS w x) x w.tree.length = begW (uS w x) w.tree.length:=by unfold nodW;exact if_pos hf
   rw [hB,hW]
   try simp [-qt,-qd,-ql,rgs,hf,o3,z2,k1,k9,yS]
   repeat' first | done | ((first | ((with_reducible show zU _ _ _ _ _ _);refine zB rfl fun _ => ?_) | ((with_reducible show vZ _ _ _ _ _ _ _ _);refine zQ rfl rfl (by decide) (by decide) (by first | (simp [-qt,-qd,-ql,rgs,hf,o3,z2,k1,k9,yS];done) | (simp [-qt,-qd,-ql,rgs,hf,o3,z2,k1,k9,yS];rfl)) (by first | (simp [-qt,-qd,-ql,rgs,hf,o3,z2,k1,k9,yS];done) | (simp [-qt,-qd,-ql,rgs,hf,o3,z2,k1,k9,yS];rfl)) (by first | (simp;done) | (simp;omega)) (by first | (simp only [zY,LIM] at *; simp;omega) | (simp only [zY];simp;omega)) (by simp [iv,bv]) ?_) | (with_reducible refine zF (i:=2) [(0,[],[]),(1,[],[]),(2,[],[]),(3,[],[]),(4,[],[]),(5,[],[]),(6,[],[]),(7,[],[]),(8,[],[]),(9,[],[]),(10,[],[]),(11,[],[]),(12,[],[]),(13,[],[]),(14,[],[]),(15,[],[]),(16,[],[]),(17,[],[]),(18,[],[]),(19,[],[])] (by kernel_rfl) ?_) | (with_reducible refine zF (i:=5) [(0,[],[]),(1,[],[]),(2,[],[]),(3,[],[]),(4,[],[]),(5,[],[7,14]),(6,[],[14]),(9,[],[]),(10,[],[]),(11,[],[]),(12,[],[]),(13,[],[7,14]),(7,[],[]),(8,[.tmp 62],[14]),(14,[],[]),(15,[],[]),(16,[],[]),(17,[],[]),(18,[],[]),(19,[],[]),(20,[],[]),(21,[],[]),(22,[],[])] (by kernel_rfl) ?_) | (with_reducible refine zF (i:=6) [(0,[],[]),(1,[],[]),(2,[],[]),(3,[],[13]),(4,[],[]),(5,[],[]),(6,[],[]),(7,[],[13]),(8,[],[]),(9,[],[13]),(10,[],[]),(11,[],[]),(12,[],[]),(13,[],[]),(14,[],[]),(15,[],[])] (by kernel_rfl) ?_) | (with_reducible refine zF (i:=11) [(0,[],[]),(1,[],[]),(2,[],[]),(3,[],[]),(4,[],[]),(5,[],[]),(6,[],[]),(7,[],[])] (by kernel_rfl) ?_) | (with_reducible refine zF (i:=13) [(0,[],[]),(1,[],[]),(2,[],[]),(3,[],[]),(4,[],[]),(5,[],[]),(6,[],[]),(7,[],[]),(8,[],[]),(9,[],[]),(10,[],[])] (by kernel_rfl) ?_)) <;> simp [-qt,-qd,-ql,rgs,hf,o3,z2,k1,k9,yS]) | ((first | (with_reducible refine zO ?_ ?_) | (with_reducible refine zE ?_ ?_) | (with_reducible refine zA ?_ ?_)) <;> intro qb <;> (have qp:=qb;try simp only [psq] at qp) <;> simp [-qt,-qd,-ql,rgs,hf,o3,z2,k1,k9,yS,qb])
   refine yX (m_begin (X:=X2) (w:=uS w x) (p:=p) (n:=w.tree.length) hwk2) ⟨by simp [k1,k9,o2],V2.keep fun id hm=>by have:=hl2 id hm;dsimp only;repeat rw [zI _ _ _ _ (by omega)]⟩ ?_
   rintro r h1 n1 ⟨rfl,⟨X3,o4,V3,hid3⟩,hf3⟩ hle3 hfr3
   dsimp only at hid3 hf3 hle3
   try simp [-qt,-qd,-ql,rgs,k1]
   repeat' first | done | ((first | ((with_reducible show zU _ _ _ _ _ _);refine zB rfl fun _ => ?_) | ((with_reducible show vZ _ _ _ _ _ _ _ _);refine zQ rfl rfl (by decide) (by decide) (by first | (simp [-qt,-qd,-ql,rgs,k1];done) | (simp [-qt,-qd,-ql,rgs,k1];rfl)) (by first | (simp [-qt,-qd,-ql,rgs,k1];done) | (simp [-qt,-qd,-ql,rgs,k1];rfl)) (by first | (simp;done) | (simp;omega)) (by first | (simp only [zY,LIM] at *; simp;omega) | (simp only [zY];simp;omega)) (by simp [iv,bv]) ?_) | (with_reducible refine zF (i:=2) [(0,[],[]),(1,[],[]),(2,[],[]),(3,[],[]),(4,[],[]),(5,[],[]),(6,[],[]),(7,[],[]),(8,[],[]),(9,[],[]),(10,[],[]),(11,[],[]),(12,[],[]),(13,[],[]),(14,[],[]),(15,[],[]),(16,[],[]),(17,[],[]),(18,[],[]),(19,[],[])] (by kernel_rfl) ?_) | (with_reducible refine zF (i:=5) [(0,[],[]),(1,[],[]),(2,[],[]),(3,[],[]),(4,[],[]),(5,[],[7,14]),(6,[],[14]),(9,[],[]),(10,[],[]),(11,[],[]),(12,[],[]),(13,[],[7,14]),(7,[],[]),(8,[.tmp 62],[14]),(14,[],[]),(15,[],[]),(16,[],[]),(17,[],[]),(18,[],[]),(19,[],[]),(20,[],[]),(21,[],[]),(22,[],[])] (by kernel_rfl) ?_) | (with_reducible refine zF (i:=6) [(0,[],[]),(1,[],[]),(2,[],[]),(3,[],[13]),(4,[],[]),(5,[],[]),(6,[],[]),(7,[],[13]),(8,[],[]),(9,[],[13]),(10,[],[]),(11,[],[]),(12,[],[]),(13,[],[]),(14,[],[]),(15,[],[])] (by kernel_rfl) ?_) | (with_reducible refine zF (i:=11) [(0,[],[]),(1,[],[]),(2,[],[]),(3,[],[]),(4,[],[]),(5,[],[]),(6,[],[]),(7,[],[])] (by kernel_rfl) ?_) | (with_reducible refine zF (i:=13) [(0,[],[]),(1,[],[]),(2,[],[]),(3,[],[]),(4,[],[]),(5,[],[]),(6,[],[]),(7,[],[]),(8,[],[]),(9,[],[]),(10,[],[])] (by kernel_rfl) ?_)) <;> simp [-qt,-qd,-ql,rgs,k1]) | ((first | (with_reducible refine zO ?_ ?_) | (with_reducible refine zE ?_ ?_) | (with_reducible refine zA ?_ ?_)) <;> intro qb <;> (have qp:=qb;try simp only [psq] at qp) <;> simp [-qt,-qd,-ql,rgs,k1,qb])
   exact ⟨rfl,⟨X3,o4,V3,fun id hm=>ids3 hid3 (by omega) (by omega) id hm⟩,fun j hj hjp hjX=>by rw [hf3 j (by omega) hjp (nX2 j hj hjX)];(repeat rw [zI _ _ _ _ (by omega)]);exact K2 j hj hjp hjX⟩
  ·have hff:(uN (w.tree ++ [x]) w.events w.tree.length).isSome = false:=by simpa using hf
   have hns:¬ (uN (uS w x).tree (uS w x).events w.tree.length).isSome = true:=hf
   by_cases hk:kind = 2
   ·have hkb:(kind != 2) = false:=by simpa using hk
    by_cases hd:x.due = vX
    ·have hdb:(x.due == 9223372036854775807) = true:=by simpa [vX] using hd
     have hB:nodB (uS w x) x w.tree.length = true:=by unfold nodB;rw [if_neg hns,if_pos (.inr hd)]
     have hW:nodW (uS w x) x w.tree.length = uS w x:=by unfold nodW;rw [if_neg hns,if_pos (.inr hd)]
     rw [hB,hW]
     try simp [-qt,-qd,-ql,rgs,hff,hkb,hdb,o3,z2,k1,k9,yS,yC]
     repeat' first | done | ((first | ((with_reducible show zU _ _ _ _ _ _);refine zB rfl fun _ => ?_) | ((with_reducible show vZ _ _ _ _ _ _ _ _);refine zQ rfl rfl (by decide) (by decide) (by first | (simp [-qt,-qd,-ql,rgs,hff,hkb,hdb,o3,z2,k1,k9,yS,yC];done) | (simp [-qt,-qd,-ql,rgs,hff,hkb,hdb,o3,z2,k1,k9,yS,yC];rfl)) (by first | (simp [-qt,-qd,-ql,rgs,hff,hkb,hdb,o3,z2,k1,k9,yS,yC];done) | (simp [-qt,-qd,-ql,rgs,hff,hkb,hdb,o3,z2,k1,k9,yS,yC];rfl)) (by first | (simp;done) | (simp;omega)) (by first | (simp only [zY,LIM] at *; simp;omega) | (simp only [zY];simp;omega)) (by simp [iv,bv]) ?_) | (with_reducible refine zF (i:=2) [(0,[],[]),(1,[],[]),(2,[],[]),(3,[],[]),(4,[],[]),(5,[],[]),(6,[],[]),(7,[],[]),(8,[],[]),(9,[],[]),(10,[],[]),(11,[],[]),(12,[],[]),(13,[],[]),(14,[],[]),(15,[],[]),(16,[],[]),(17,[],[]),(18,[],[]),(19,[],[])] (by kernel_rfl) ?_) | (with_reducible refine zF (i:=5) [(0,[],[]),(1,[],[]),(2,[],[]),(3,[],[]),(4,[],[]),(5,[],[7,14]),(6,[],[14]),(9,[],[]),(10,[],[]),(11,[],[]),(12,[],[]),(13,[],[7,14]),(7,[],[]),(8,[.tmp 62],[14]),(14,[],[]),(15,[],[]),(16,[],[]),(17,[],[]),(18,[],[]),(19,[],[]),(20,[],[]),(21,[],[]),(22,[],[])] (by kernel_rfl) ?_) | (with_reducible refine zF (i:=6) [(0,[],[]),(1,[],[]),(2,[],[]),(3,[],[13]),(4,[],[]),(5,[],[]),(6,[],[]),(7,[],[13]),(8,[],[]),(9,[],[13]),(10,[],[]),(11,[],[]),(12,[],[]),(13,[],[]),(14,[],[]),(15,[],[])] (by kernel_rfl) ?_) | (with_reducible refine zF (i:=11) [(0,[],[]),(1,[],[]),(2,[],[]),(3,[],[]),(4,[],[]),(5,[],[]),(6,[],[]),(7,[],[])] (by kernel_rfl) ?_) | (with_reducible refine zF (i:=13) [(0,[],[]),(1,[],[]),(2,[],[]),(3,[],[]),(4,[],[]),(5,[],[]),(6,[],[]),(7,[],[]),(8,[],[]),(9,[],[]),(10,[],[])] (by kernel_rfl) ?_)) <;> simp [-qt,-qd,-ql,rgs,hff,hkb,hdb,o3,z2,k1,k9,yS,yC]) | ((first | (with_reducible refine zO ?_ ?_) | (with_reducible refine zE ?_ ?_) | (with_reducible refine zA ?_ ?_)) <;> intro qb <;> (have qp:=qb;try simp only [psq] at qp) <;> simp [-qt,-qd,-ql,rgs,hff,hkb,hdb,o3,z2,k1,k9,yS,yC,qb])
     exact ⟨rfl,⟨X2,by simp [k1,k9,o2],V2.keep fun id hm=>by have:=hl2 id hm;repeat rw [zI _ _ _ _ (by omega)],fun id hm=>by rcases hid2 id hm with r | r <;> first | exact .inl r | (right;omega)⟩,fun j hj hjp hjX=>by (repeat rw [zI _ _ _ _ (by omega)]);exact K2 j hj hjp hjX⟩
    ·have hdb:(x.due == 9223372036854775807) = false:=by simpa [vX] using hd
     have hnd:¬ (x.kind ≠ 2 ∨ x.due = vX):=fun q=>q.elim (fun q=>q (hxk.trans hk)) hd
     by_cases hdu:zM3 w.now x.due = true
     ·have hB:nodB (uS w x) x w.tree.length = zH3 (uS w x) (dueEv (uS w x) w.tree.length):=by unfold nodB;rw [if_neg hns,if_neg hnd,if_pos (show zM3 (uS w x).now x.due = true from hdu)]
      have hW:nodW (uS w x) x w.tree.length = cutW (uS w x) (dueEv (uS w x) w.tree.length):=by unfold nodW;rw [if_neg hns,if_neg hnd,if_pos (show zM3 (uS w x).now x.due = true from hdu)]
      rw [hB,hW]
      try simp [-qt,-qd,-ql,rgs,hff,hkb,hdb,hdu,o3,z2,k1,k9,yS,yC,show (uS w x).now = w.now from rfl]
      repeat' first | done | ((first | ((with_reducible show zU _ _ _ _ _ _);refine zB rfl fun _ => ?_) | ((with_reducible show zG _ _ _ 175 _ _);refine zD (c_IsDue) ?_) | ((with_reducible show vZ _ _ _ _ _ _ _ _);refine zQ rfl rfl (by decide) (by decide) (by first | (simp [-qt,-qd,-ql,rgs,hff,hkb,hdb,hdu,o3,z2,k1,k9,yS,yC,show (uS w x).now = w.now from rfl];done) | (simp [-qt,-qd,-ql,rgs,hff,hkb,hdb,hdu,o3,z2,k1,k9,yS,yC,show (uS w x).now = w.now from rfl];rfl)) (by first | (simp [-qt,-qd,-ql,rgs,hff,hkb,hdb,hdu,o3,z2,k1,k9,yS,yC,show (uS w x).now = w.now from rfl];done) | (simp [-qt,-qd,-ql,rgs,hff,hkb,hdb,hdu,o3,z2,k1,k9,yS,yC,show (uS w x).now = w.now from rfl];rfl)) (by first | (simp;done) | (simp;omega)) (by first | (simp only [zY,LIM] at *; simp;omega) | (simp only [zY];simp;omega)) (by simp [iv,bv]) ?_) | (with_reducible refine zF (i:=2) [(0,[],[]),(1,[],[]),(2,[],[]),(3,[],[]),(4,[],[]),(5,[],[]),(6,[],[]),(7,[],[]),(8,[],[]),(9,[],[]),(10,[],[]),(11,[],[]),(12,[],[]),(13,[],[]),(14,[],[]),(15,[],[]),(16,[],[]),(17,[],[]),(18,[],[]),(19,[],[])] (by kernel_rfl) ?_) | (with_reducible refine zF (i:=5) [(0,[],[]),(1,[],[]),(2,[],[]),(3,[],[]),(4,[],[]),(5,[],[7,14]),(6,[],[14]),(9,[],[]),(10,[],[]),(11,[],[]),(12,[],[]),(13,[],[7,14]),(7,[],[]),(8,[.tmp 62],[14]),(14,[],[]),(15,[],[]),(16,[],[]),(17,[],[]),(18,[],[]),(19,[],[]),(20,[],[]),(21,[],[]),(22,[],[])] (by kernel_rfl) ?_) | (with_reducible refine zF (i:=6) [(0,[],[]),(1,[],[]),(2,[],[]),(3,[],[13]),(4,[],[]),(5,[],[]),(6,[],[]),(7,[],[13]),(8,[],[]),(9,[],[13]),(10,[],[]),(11,[],[]),(12,[],[]),(13,[],[]),(14,[],[]),(15,[],[])] (by kernel_rfl) ?_) | (with_reducible refine zF (i:=11) [(0,[],[]),(1,[],[]),(2,[],[]),(3,[],[]),(4,[],[]),(5,[],[]),(6,[],[]),(7,[],[])] (by kernel_rfl) ?_) | (with_reducible refine zF (i:=13) [(0,[],[]),(1,[],[]),(2,[],[]),(3,[],[]),(4,[],[]),(5,[],[]),(6,[],[]),(7,[],[]),(8,[],[]),(9,[],[]),(10,[],[])] (by kernel_rfl) ?_)) <;> simp [-qt,-qd,-ql,rgs,hff,hkb,hdb,hdu,o3,z2,k1,k9,yS,yC,show (uS w x).now = w.now from rfl]) | ((first | (with_reducible refine zO ?_ ?_) | (with_reducible refine zE ?_ ?_) | (with_reducible refine zA ?_ ?_)) <;> intro qb <;> (have qp:=qb;try simp only [psq] at qp) <;> simp [-qt,-qd,-ql,rgs,hff,hkb,hdb,hdu,o3,z2,k1,k9,yS,yC,show (uS w x).now = w.now from rfl,qb])
      refine yX (m_cancel (X:=X2) (w:=uS w x) (p:=p) (n:=w.tree.length) (er:=2) (ca:=0) ht2 hwk2 (show w.events.length ≤ 1048576 by omega)) ⟨by simp [k1,k9,o2],V2.keep fun id hm=>by have:=hl2 id hm;dsimp only;repeat rw [zI _ _ _ _ (by omega)]⟩ ?_
      rintro r h1 n1 ⟨rfl,⟨X3,o4,V3,hid3⟩,hf3⟩ hle3 hfr3
      dsimp only at hid3 hf3 hle3
      try simp [-qt,-qd,-ql,rgs,k1]
      repeat' first | done | ((first | ((with_reducible show zU _ _ _ _ _ _);refine zB rfl fun _ => ?_) | ((with_reducible show vZ _ _ _ _ _ _ _ _);refine zQ rfl rfl (by decide) (by decide) (by first | (simp [-qt,-qd,-ql,rgs,k1];done) | (simp [-qt,-qd,-ql,rgs,k1];rfl)) (by first | (simp [-qt,-qd,-ql,rgs,k1];done) | (simp [-qt,-qd,-ql,rgs,k1];rfl)) (by first | (simp;done) | (simp;omega)) (by first | (simp only [zY,LIM] at *; simp;omega) | (simp only [zY];simp;omega)) (by simp [iv,bv]) ?_) | (with_reducible refine zF (i:=2) [(0,[],[]),(1,[],[]),(2,[],[]),(3,[],[]),(4,[],[]),(5,[],[]),(6,[],[]),(7,[],[]),(8,[],[]),(9,[],[]),(10,[],[]),(11,[],[]),(12,[],[]),(13,[],[]),(14,[],[]),(15,[],[]),(16,[],[]),(17,[],[]),(18,[],[]),(19,[],[])] (by kernel_rfl) ?_) | (with_reducible refine zF (i:=5) [(0,[],[]),(1,[],[]),(2,[],[]),(3,[],[]),(4,[],[]),(5,[],[7,14]),(6,[],[14]),(9,[],[]),(10,[],[]),(11,[],[]),(12,[],[]),(13,[],[7,14]),(7,[],[]),(8,[.tmp 62],[14]),(14,[],[]),(15,[],[]),(16,[],[]),(17,[],[]),(18,[],[]),(19,[],[]),(20,[],[]),(21,[],[]),(22,[],[])] (by kernel_rfl) ?_) | (with_reducible refine zF (i:=6) [(0,[],[]),(1,[],[]),(2,[],[]),(3,[],[13]),(4,[],[]),(5,[],[]),(6,[],[]),(7,[],[13]),(8,[],[]),(9,[],[13]),(10,[],[]),(11,[],[]),(12,[],[]),(13,[],[]),(14,[],[]),(15,[],[])] (by kernel_rfl) ?_) | (with_reducible refine zF (i:=11) [(0,[],[]),(1,[],[]),(2,[],[]),(3,[],[]),(4,[],[]),(5,[],[]),(6,[],[]),(7,[],[])] (by kernel_rfl) ?_) | (with_reducible refine zF (i:=13) [(0,[],[]),(1,[],[]),(2,[],[]),(3,[],[]),(4,[],[]),(5,[],[]),(6,[],[]),(7,[],[]),(8,[],[]),(9,[],[]),(10,[],[])] (by kernel_rfl) ?_)) <;> simp [-qt,-qd,-ql,rgs,k1]) | ((first | (with_reducible refine zO ?_ ?_) | (with_reducible refine zE ?_ ?_) | (with_reducible refine zA ?_ ?_)) <;> intro qb <;> (have qp:=qb;try simp only [psq] at qp) <;> simp [-qt,-qd,-ql,rgs,k1,qb])
      exact ⟨rfl,⟨X3,o4,V3,fun id hm=>ids3 hid3 (by omega) (by omega) id hm⟩,fun j hj hjp hjX=>by rw [hf3 j (by omega) hjp (nX2 j hj hjX)];(repeat rw [zI _ _ _ _ (by omega)]);exact K2 j hj hjp hjX⟩
     ·have hdf:zM3 w.now x.due = false:=by simpa using hdu
      have hnn:0 ≤ w.timers.next:=(zQ7.1 htm).1.1
      have hA:decide (0 ≤ armI w.timers 0 w.tree.length) = zO5 w.timers 0 w.tree.length:=by
       unfold armI
       cases zO5 w.timers 0 w.tree.length <;> simp [hnn]
      have hB:nodB (uS w x) x w.tree.length = zO5 w.timers 0 w.tree.length:=by unfold nodB;rw [if_neg hns,if_neg hnd,if_neg (show ¬ zM3 (uS w x).now x.due = true from hdu)];rfl
      have hW:nodW (uS w x) x w.tree.length = setT (uS w x) (armT (uS w x).timers x.due 0 w.tree.length):=by unfold nodW;rw [if_neg hns,if_neg hnd,if_neg (show ¬ zM3 (uS w x).now x.due = true from hdu)]
      rw [hB,hW]
      try simp [-qt,-qd,-ql,rgs,hff,hkb,hdb,hdf,o3,z2,k1,k9,yS,yC,show (uS w x).now = w.now from rfl]
      repeat' first | done | ((first | ((with_reducible show zU _ _ _ _ _ _);refine zB rfl fun _ => ?_) | ((with_reducible show zG _ _ _ 175 _ _);refine zD (c_IsDue) ?_) | ((with_reducible show vZ _ _ _ _ _ _ _ _);refine zQ rfl rfl (by decide) (by decide) (by first | (simp [-qt,-qd,-ql,rgs,hff,hkb,hdb,hdf,o3,z2,k1,k9,yS,yC,show (uS w x).now = w.now from rfl];done) | (simp [-qt,-qd,-ql,rgs,hff,hkb,hdb,hdf,o3,z2,k1,k9,yS,yC,show (uS w x).now = w.now from rfl];rfl)) (by first | (simp [-qt,-qd,-ql,rgs,hff,hkb,hdb,hdf,o3,z2,k1,k9,yS,yC,show (uS w x).now = w.now from rfl];done) | (simp [-qt,-qd,-ql,rgs,hff,hkb,hdb,hdf,o3,z2,k1,k9,yS,yC,show (uS w x).now = w.now from rfl];rfl)) (by first | (simp;done) | (simp;omega)) (by first | (simp only [zY,LIM] at *; simp;omega) | (simp only [zY];simp;omega)) (by simp [iv,bv]) ?_) | (with_reducible refine zF (i:=2) [(0,[],[]),(1,[],[]),(2,[],[]),(3,[],[]),(4,[],[]),(5,[],[]),(6,[],[]),(7,[],[]),(8,[],[]),(9,[],[]),(10,[],[]),(11,[],[]),(12,[],[]),(13,[],[]),(14,[],[]),(15,[],[]),(16,[],[]),(17,[],[]),(18,[],[]),(19,[],[])] (by kernel_rfl) ?_) | (with_reducible refine zF (i:=5) [(0,[],[]),(1,[],[]),(2,[],[]),(3,[],[]),(4,[],[]),(5,[],[7,14]),(6,[],[14]),(9,[],[]),(10,[],[]),(11,[],[]),(12,[],[]),(13,[],[7,14]),(7,[],[]),(8,[.tmp 62],[14]),(14,[],[]),(15,[],[]),(16,[],[]),(17,[],[]),(18,[],[]),(19,[],[]),(20,[],[]),(21,[],[]),(22,[],[])] (by kernel_rfl) ?_) | (with_reducible refine zF (i:=6) [(0,[],[]),(1,[],[]),(2,[],[]),(3,[],[13]),(4,[],[]),(5,[],[]),(6,[],[]),(7,[],[13]),(8,[],[]),(9,[],[13]),(10,[],[]),(11,[],[]),(12,[],[]),(13,[],[]),(14,[],[]),(15,[],[])] (by kernel_rfl) ?_) | (with_reducible refine zF (i:=11) [(0,[],[]),(1,[],[]),(2,[],[]),(3,[],[]),(4,[],[]),(5,[],[]),(6,[],[]),(7,[],[])] (by kernel_rfl) ?_) | (with_reducible refine zF (i:=13) [(0,[],[]),(1,[],[]),(2,[],[]),(3,[],[]),(4,[],[]),(5,[],[]),(6,[],[]),(7,[],[]),(8,[],[]),(9,[],[]),(10,[],[])] (by kernel_rfl) ?_)) <;> simp [-qt,-qd,-ql,rgs,hff,hkb,hdb,hdf,o3,z2,k1,k9,yS,yC,show (uS w x).now = w.now from rfl]) | ((first | (with_reducible refine zO ?_ ?_) | (with_reducible refine zE ?_ ?_) | (with_reducible refine zA ?_ ?_)) <;> intro qb <;> (have qp:=qb;try simp only [psq] at qp) <;> simp [-qt,-qd,-ql,rgs,hff,hkb,hdb,hdf,o3,z2,k1,k9,yS,yC,show (uS w x).now = w.now from rfl,qb])
      refine yX (m_arm (X:=X2) (w:=uS w x) (p:=p) (d:=x.due) (what:=0) (whom:=w.tree.length) htm) ⟨by simp [k1,k9,o2],V2.keep fun id hm=>by have:=hl2 id hm;dsimp only;repeat rw [zI _ _ _ _ (by omega)]⟩ ?_
      rintro r h1 n1 ⟨rfl,⟨X3,o4,V3,hid3⟩,hf3⟩ hle3 hfr3
      dsimp only at hid3 hf3 hle3
      try simp [-qt,-qd,-ql,rgs,k1,hA,show (uS w x).timers = w.timers from rfl]
      repeat' first | done | ((first | ((with_reducible show zU _ _ _ _ _ _);refine zB rfl fun _ => ?_) | ((with_reducible show vZ _ _ _ _ _ _ _ _);refine zQ rfl rfl (by decide) (by decide) (by first | (simp [-qt,-qd,-ql,rgs,k1,hA,show (uS w x).timers = w.timers from rfl];done) | (simp [-qt,-qd,-ql,rgs,k1,hA,show (uS w x).timers = w.timers from rfl];rfl)) (by first | (simp [-qt,-qd,-ql,rgs,k1,hA,show (uS w x).timers = w.timers from rfl];done) | (simp [-qt,-qd,-ql,rgs,k1,hA,show (uS w x).timers = w.timers from rfl];rfl)) (by first | (simp;done) | (simp;omega)) (by first | (simp only [zY,LIM] at *; simp;omega) | (simp only [zY];simp;omega)) (by simp [iv,bv]) ?_) | (with_reducible refine zF (i:=2) [(0,[],[]),(1,[],[]),(2,[],[]),(3,[],[]),(4,[],[]),(5,[],[]),(6,[],[]),(7,[],[]),(8,[],[]),(9,[],[]),(10,[],[]),(11,[],[]),(12,[],[]),(13,[],[]),(14,[],[]),(15,[],[]),(16,[],[]),(17,[],[]),(18,[],[]),(19,[],[])] (by kernel_rfl) ?_) | (with_reducible refine zF (i:=5) [(0,[],[]),(1,[],[]),(2,[],[]),(3,[],[]),(4,[],[]),(5,[],[7,14]),(6,[],[14]),(9,[],[]),(10,[],[]),(11,[],[]),(12,[],[]),(13,[],[7,14]),(7,[],[]),(8,[.tmp 62],[14]),(14,[],[]),(15,[],[]),(16,[],[]),(17,[],[]),(18,[],[]),(19,[],[]),(20,[],[]),(21,[],[]),(22,[],[])] (by kernel_rfl) ?_) | (with_reducible refine zF (i:=6) [(0,[],[]),(1,[],[]),(2,[],[]),(3,[],[13]),(4,[],[]),(5,[],[]),(6,[],[]),(7,[],[13]),(8,[],[]),(9,[],[13]),(10,[],[]),(11,[],[]),(12,[],[]),(13,[],[]),(14,[],[]),(15,[],[])] (by kernel_rfl) ?_) | (with_reducible refine zF (i:=11) [(0,[],[]),(1,[],[]),(2,[],[]),(3,[],[]),(4,[],[]),(5,[],[]),(6,[],[]),(7,[],[])] (by kernel_rfl) ?_) | (with_reducible refine zF (i:=13) [(0,[],[]),(1,[],[]),(2,[],[]),(3,[],[]),(4,[],[]),(5,[],[]),(6,[],[]),(7,[],[]),(8,[],[]),(9,[],[]),(10,[],[])] (by kernel_rfl) ?_)) <;> simp [-qt,-qd,-ql,rgs,k1,hA,show (uS w x).timers = w.timers from rfl]) | ((first | (with_reducible refine zO ?_ ?_) | (with_reducible refine zE ?_ ?_) | (with_reducible refine zA ?_ ?_)) <;> intro qb <;> (have qp:=qb;try simp only [psq] at qp) <;> simp [-qt,-qd,-ql,rgs,k1,hA,show (uS w x).timers = w.timers from rfl,qb])
      exact ⟨rfl,⟨X3,o4,V3,fun id hm=>ids3 hid3 (by omega) (by omega) id hm⟩,fun j hj hjp hjX=>by rw [hf3 j (by omega) hjp (nX2 j hj hjX)];(repeat rw [zI _ _ _ _ (by omega)]);exact K2 j hj hjp hjX⟩
   ·have hkb:(kind != 2) = true:=by simpa using hk
    have hB:nodB (uS w x) x w.tree.length = true:=by unfold nodB;rw [if_neg hns,if_pos (.inl (fun q=>hk (hxk.symm.trans q)))]
    have hW:nodW (uS w x) x w.tree.length = uS w x:=by unfold nodW;rw [if_neg hns,if_pos (.inl (fun q=>hk (hxk.symm.trans q)))]
    rw [hB,hW]
    try simp [-qt,-qd,-ql,rgs,hff,hkb,o3,z2,k1,k9,yS,yC]
    repeat' first | done | ((first | ((with_reducible show zU _ _ _ _ _ _);refine zB rfl fun _ => ?_) | ((with_reducible show vZ _ _ _ _ _ _ _ _);refine zQ rfl rfl (by decide) (by decide) (by first | (simp [-qt,-qd,-ql,rgs,hff,hkb,o3,z2,k1,k9,yS,yC];done) | (simp [-qt,-qd,-ql,rgs,hff,hkb,o3,z2,k1,k9,yS,yC];rfl)) (by first | (simp [-qt,-qd,-ql,rgs,hff,hkb,o3,z2,k1,k9,yS,yC];done) | (simp [-qt,-qd,-ql,rgs,hff,hkb,o3,z2,k1,k9,yS,yC];rfl)) (by first | (simp;done) | (simp;omega)) (by first | (simp only [zY,LIM] at *; simp;omega) | (simp only [zY];simp;omega)) (by simp [iv,bv]) ?_) | (with_reducible refine zF (i:=2) [(0,[],[]),(1,[],[]),(2,[],[]),(3,[],[]),(4,[],[]),(5,[],[]),(6,[],[]),(7,[],[]),(8,[],[]),(9,[],[]),(10,[],[]),(11,[],[]),(12,[],[]),(13,[],[]),(14,[],[]),(15,[],[]),(16,[],[]),(17,[],[]),(18,[],[]),(19,[],[])] (by kernel_rfl) ?_) | (with_reducible refine zF (i:=5) [(0,[],[]),(1,[],[]),(2,[],[]),(3,[],[]),(4,[],[]),(5,[],[7,14]),(6,[],[14]),(9,[],[]),(10,[],[]),(11,[],[]),(12,[],[]),(13,[],[7,14]),(7,[],[]),(8,[.tmp 62],[14]),(14,[],[]),(15,[],[]),(16,[],[]),(17,[],[]),(18,[],[]),(19,[],[]),(20,[],[]),(21,[],[]),(22,[],[])] (by kernel_rfl) ?_) | (with_reducible refine zF (i:=6) [(0,[],[]),(1,[],[]),(2,[],[]),(3,[],[13]),(4,[],[]),(5,[],[]),(6,[],[]),(7,[],[13]),(8,[],[]),(9,[],[13]),(10,[],[]),(11,[],[]),(12,[],[]),(13,[],[]),(14,[],[]),(15,[],[])] (by kernel_rfl) ?_) | (with_reducible refine zF (i:=11) [(0,[],[]),(1,[],[]),(2,[],[]),(3,[],[]),(4,[],[]),(5,[],[]),(6,[],[]),(7,[],[])] (by kernel_rfl) ?_) | (with_reducible refine zF (i:=13) [(0,[],[]),(1,[],[]),(2,[],[]),(3,[],[]),(4,[],[]),(5,[],[]),(6,[],[]),(7,[],[]),(8,[],[]),(9,[],[]),(10,[],[])] (by kernel_rfl) ?_)) <;> simp [-qt,-qd,-ql,rgs,hff,hkb,o3,z2,k1,k9,yS,yC]) | ((first | (with_reducible refine zO ?_ ?_) | (with_reducible refine zE ?_ ?_) | (with_reducible refine zA ?_ ?_)) <;> intro qb <;> (have qp:=qb;try simp only [psq] at qp) <;> simp [-qt,-qd,-ql,rgs,hff,hkb,o3,z2,k1,k9,yS,yC,qb])
    exact ⟨rfl,⟨X2,by simp [k1,k9,o2],V2.keep fun id hm=>by have:=hl2 id hm;repeat rw [zI _ _ _ _ (by omega)],fun id hm=>by rcases hid2 id hm with r | r <;> first | exact .inl r | (right;omega)⟩,fun j hj hjp hjX=>by (repeat rw [zI _ _ _ _ (by omega)]);exact K2 j hj hjp hjX⟩
 ·have hW:zG3 w kind up a b = w:=by simp [zG3,hc]
  have hB:zJ9 w kind up a b = false:=by simp [zJ9,hc]
  have hI:zP3 w kind up a b = -1:=by simp [zP3,hc]
  rw [hW,hB,hI]
  by_cases c1:zD1 kind a b = true
  ·by_cases c2:w.tree.length = 60
   ·have c2p:((w.tree.length:Int) == 60) = true:=by simp;omega
    try simp [-qt,-qd,-ql,rgs,o1,c1,c2p,k1,k2,k3]
    repeat' first | done | ((first | ((with_reducible show zU _ _ _ _ _ _);refine zB rfl fun _ => ?_) | (refine zD (hnf) ?_) | ((with_reducible show vZ _ _ _ _ _ _ _ _);refine zQ rfl rfl (by decide) (by decide) (by first | (simp [-qt,-qd,-ql,rgs,o1,c1,c2p,k1,k2,k3];done) | (simp [-qt,-qd,-ql,rgs,o1,c1,c2p,k1,k2,k3];rfl)) (by first | (simp [-qt,-qd,-ql,rgs,o1,c1,c2p,k1,k2,k3];done) | (simp [-qt,-qd,-ql,rgs,o1,c1,c2p,k1,k2,k3];rfl)) (by first | (simp;done) | (simp;omega)) (by first | (simp only [zY,LIM] at *; simp;omega) | (simp only [zY];simp;omega)) (by simp [iv,bv]) ?_) | (with_reducible refine zF (i:=2) [(0,[],[]),(1,[],[]),(2,[],[]),(3,[],[]),(4,[],[]),(5,[],[]),(6,[],[]),(7,[],[]),(8,[],[]),(9,[],[]),(10,[],[]),(11,[],[]),(12,[],[]),(13,[],[]),(14,[],[]),(15,[],[]),(16,[],[]),(17,[],[]),(18,[],[]),(19,[],[])] (by kernel_rfl) ?_) | (with_reducible refine zF (i:=5) [(0,[],[]),(1,[],[]),(2,[],[]),(3,[],[]),(4,[],[]),(5,[],[7,14]),(6,[],[14]),(9,[],[]),(10,[],[]),(11,[],[]),(12,[],[]),(13,[],[7,14]),(7,[],[]),(8,[.tmp 62],[14]),(14,[],[]),(15,[],[]),(16,[],[]),(17,[],[]),(18,[],[]),(19,[],[]),(20,[],[]),(21,[],[]),(22,[],[])] (by kernel_rfl) ?_) | (with_reducible refine zF (i:=6) [(0,[],[]),(1,[],[]),(2,[],[]),(3,[],[13]),(4,[],[]),(5,[],[]),(6,[],[]),(7,[],[13]),(8,[],[]),(9,[],[13]),(10,[],[]),(11,[],[]),(12,[],[]),(13,[],[]),(14,[],[]),(15,[],[])] (by kernel_rfl) ?_) | (with_reducible refine zF (i:=11) [(0,[],[]),(1,[],[]),(2,[],[]),(3,[],[]),(4,[],[]),(5,[],[]),(6,[],[]),(7,[],[])] (by kernel_rfl) ?_) | (with_reducible refine zF (i:=13) [(0,[],[]),(1,[],[]),(2,[],[]),(3,[],[]),(4,[],[]),(5,[],[]),(6,[],[]),(7,[],[]),(8,[],[]),(9,[],[]),(10,[],[])] (by kernel_rfl) ?_)) <;> simp [-qt,-qd,-ql,rgs,o1,c1,c2p,k1,k2,k3]) | ((first | (with_reducible refine zO ?_ ?_) | (with_reducible refine zE ?_ ?_) | (with_reducible refine zA ?_ ?_)) <;> intro qb <;> (have qp:=qb;try simp only [psq] at qp) <;> simp [-qt,-qd,-ql,rgs,o1,c1,c2p,k1,k2,k3,qb])
    exact ⟨rfl,⟨X,by simp [k1,o0],V1.keep fun id hm=>by have:=hin id hm;(repeat rw [zI _ _ _ _ (by omega)]),fun id hm=>.inl hm⟩,fun j hj _ _=>by repeat rw [zI _ _ _ _ (by omega)]⟩
   ·have c2p:((w.tree.length:Int) == 60) = false:=by simp;omega
    have c3:zD6 x w.tree.length = false:=by
     cases hq:zD6 x w.tree.length with
     | false=>rfl
     | true=>exact absurd (by simp [growC,zE2,c1,c2,← hx,hq]) hc
    try simp [-qt,-qd,-ql,rgs,o1,c1,c2p,c3,k1,k2,k3]
    repeat' first | done | ((first | ((with_reducible show zU _ _ _ _ _ _);refine zB rfl fun _ => ?_) | (refine zD (hnf) ?_) | (refine zD (hin0) ?_) | ((with_reducible show vZ _ _ _ _ _ _ _ _);refine zQ rfl rfl (by decide) (by decide) (by first | (simp [-qt,-qd,-ql,rgs,o1,c1,c2p,c3,k1,k2,k3];done) | (simp [-qt,-qd,-ql,rgs,o1,c1,c2p,c3,k1,k2,k3];rfl)) (by first | (simp [-qt,-qd,-ql,rgs,o1,c1,c2p,c3,k1,k2,k3];done) | (simp [-qt,-qd,-ql,rgs,o1,c1,c2p,c3,k1,k2,k3];rfl)) (by first | (simp;done) | (simp;omega)) (by first | (simp only [zY,LIM] at *; simp;omega) | (simp only [zY];simp;omega)) (by simp [iv,bv]) ?_) | (with_reducible refine zF (i:=2) [(0,[],[]),(1,[],[]),(2,[],[]),(3,[],[]),(4,[],[]),(5,[],[]),(6,[],[]),(7,[],[]),(8,[],[]),(9,[],[]),(10,[],[]),(11,[],[]),(12,[],[]),(13,[],[]),(14,[],[]),(15,[],[]),(16,[],[]),(17,[],[]),(18,[],[]),(19,[],[])] (by kernel_rfl) ?_) | (with_reducible refine zF (i:=5) [(0,[],[]),(1,[],[]),(2,[],[]),(3,[],[]),(4,[],[]),(5,[],[7,14]),(6,[],[14]),(9,[],[]),(10,[],[]),(11,[],[]),(12,[],[]),(13,[],[7,14]),(7,[],[]),(8,[.tmp 62],[14]),(14,[],[]),(15,[],[]),(16,[],[]),(17,[],[]),(18,[],[]),(19,[],[]),(20,[],[]),(21,[],[]),(22,[],[])] (by kernel_rfl) ?_) | (with_reducible refine zF (i:=6) [(0,[],[]),(1,[],[]),(2,[],[]),(3,[],[13]),(4,[],[]),(5,[],[]),(6,[],[]),(7,[],[13]),(8,[],[]),(9,[],[13]),(10,[],[]),(11,[],[]),(12,[],[]),(13,[],[]),(14,[],[]),(15,[],[])] (by kernel_rfl) ?_) | (with_reducible refine zF (i:=11) [(0,[],[]),(1,[],[]),(2,[],[]),(3,[],[]),(4,[],[]),(5,[],[]),(6,[],[]),(7,[],[])] (by kernel_rfl) ?_) | (with_reducible refine zF (i:=13) [(0,[],[]),(1,[],[]),(2,[],[]),(3,[],[]),(4,[],[]),(5,[],[]),(6,[],[]),(7,[],[]),(8,[],[]),(9,[],[]),(10,[],[])] (by kernel_rfl) ?_)) <;> simp [-qt,-qd,-ql,rgs,o1,c1,c2p,c3,k1,k2,k3]) | ((first | (with_reducible refine zO ?_ ?_) | (with_reducible refine zE ?_ ?_) | (with_reducible refine zA ?_ ?_)) <;> intro qb <;> (have qp:=qb;try simp only [psq] at qp) <;> simp [-qt,-qd,-ql,rgs,o1,c1,c2p,c3,k1,k2,k3,qb])
    exact ⟨rfl,⟨X,by simp [k1,o0],V1.keep fun id hm=>by have:=hin id hm;(repeat rw [zI _ _ _ _ (by omega)]),fun id hm=>.inl hm⟩,fun j hj _ _=>by repeat rw [zI _ _ _ _ (by omega)]⟩
  ·have c1f:zD1 kind a b = false:=by simpa using c1
   try simp [-qt,-qd,-ql,rgs,o1,c1f,k1,k2,k3]
   repeat' first | done | ((first | ((with_reducible show zU _ _ _ _ _ _);refine zB rfl fun _ => ?_) | (refine zD (hnf) ?_) | ((with_reducible show vZ _ _ _ _ _ _ _ _);refine zQ rfl rfl (by decide) (by decide) (by first | (simp [-qt,-qd,-ql,rgs,o1,c1f,k1,k2,k3];done) | (simp [-qt,-qd,-ql,rgs,o1,c1f,k1,k2,k3];rfl)) (by first | (simp [-qt,-qd,-ql,rgs,o1,c1f,k1,k2,k3];done) | (simp [-qt,-qd,-ql,rgs,o1,c1f,k1,k2,k3];rfl)) (by first | (simp;done) | (simp;omega)) (by first | (simp only [zY,LIM] at *; simp;omega) | (simp only [zY];simp;omega)) (by simp [iv,bv]) ?_) | (with_reducible refine zF (i:=2) [(0,[],[]),(1,[],[]),(2,[],[]),(3,[],[]),(4,[],[]),(5,[],[]),(6,[],[]),(7,[],[]),(8,[],[]),(9,[],[]),(10,[],[]),(11,[],[]),(12,[],[]),(13,[],[]),(14,[],[]),(15,[],[]),(16,[],[]),(17,[],[]),(18,[],[]),(19,[],[])] (by kernel_rfl) ?_) | (with_reducible refine zF (i:=5) [(0,[],[]),(1,[],[]),(2,[],[]),(3,[],[]),(4,[],[]),(5,[],[7,14]),(6,[],[14]),(9,[],[]),(10,[],[]),(11,[],[]),(12,[],[]),(13,[],[7,14]),(7,[],[]),(8,[.tmp 62],[14]),(14,[],[]),(15,[],[]),(16,[],[]),(17,[],[]),(18,[],[]),(19,[],[]),(20,[],[]),(21,[],[]),(22,[],[])] (by kernel_rfl) ?_) | (with_reducible refine zF (i:=6) [(0,[],[]),(1,[],[]),(2,[],[]),(3,[],[13]),(4,[],[]),(5,[],[]),(6,[],[]),(7,[],[13]),(8,[],[]),(9,[],[13]),(10,[],[]),(11,[],[]),(12,[],[]),(13,[],[]),(14,[],[]),(15,[],[])] (by kernel_rfl) ?_) | (with_reducible refine zF (i:=11) [(0,[],[]),(1,[],[]),(2,[],[]),(3,[],[]),(4,[],[]),(5,[],[]),(6,[],[]),(7,[],[])] (by kernel_rfl) ?_) | (with_reducible refine zF (i:=13) [(0,[],[]),(1,[],[]),(2,[],[]),(3,[],[]),(4,[],[]),(5,[],[]),(6,[],[]),(7,[],[]),(8,[],[]),(9,[],[]),(10,[],[])] (by kernel_rfl) ?_)) <;> simp [-qt,-qd,-ql,rgs,o1,c1f,k1,k2,k3]) | ((first | (with_reducible refine zO ?_ ?_) | (with_reducible refine zE ?_ ?_) | (with_reducible refine zA ?_ ?_)) <;> intro qb <;> (have qp:=qb;try simp only [psq] at qp) <;> simp [-qt,-qd,-ql,rgs,o1,c1f,k1,k2,k3,qb])
   exact ⟨rfl,⟨X,by simp [k1,o0],V1.keep fun id hm=>by have:=hin id hm;(repeat rw [zI _ _ _ _ (by omega)]),fun id hm=>.inl hm⟩,fun j hj _ _=>by repeat rw [zI _ _ _ _ (by omega)]⟩
end Go.AE.Tryz
end
section
/- Contracts of the program's request to create a group. -/
set_option maxRecDepth 8000
set_option maxHeartbeats 4000000
namespace Go.AE.Tryz
open Go.Proofs
open List renaming map_take → qt,map_drop → qd,map_tail → ql
theorem d_Group {w:Wld} {up limit:Int} {q1 q2:Nat} (hw:vG w = true) :
 DoOk ctx.P 87 [(q1,[.int .i64 up],[.int .i64 up]),(q2,[.int .i64 limit],[.int .i64 limit])] w (zL2 w up limit) (zQ6 w up):=by
 intro p X
 have hgr:=m_grow (X:=X) (p:=p) (kind:=1) (up:=up) (a:=0) (b:=0) hw
 have hgl:(zG3 w 1 up 0 0).groups.length ≤ 8:=by rw [(zN2 w 1 up 0 0).2.1];have h':=hw;simp only [vG,Bool.and_eq_true,decide_eq_true_eq] at h';exact h'.2.2.2.2.2.2.2.2.2.2.2.2.1
 have e1:zL2 w up limit = addG (zG3 w 1 up 0 0) (zK4 (zP3 w 1 up 0 0) limit):=rfl
 have e2:zQ6 w up = zJ9 w 1 up 0 0:=rfl
 rw [e1,e2]
 refine AC.rowNil ?_
 generalize zG3 w 1 up 0 0 = v at *
 generalize zJ9 w 1 up 0 0 = gb at *
 generalize zP3 w 1 up 0 0 = gi at *
 refine AC.o okC Tryz.func87 rfl fun h nx hfr hnx hpre => ?_
 obtain ⟨o1,V1,hq⟩:=hpre
 obtain ⟨a1,b1⟩:=hq _ (List.mem_cons_self ..)
 obtain ⟨a2,b2⟩:=hq _ (List.mem_cons_of_mem _ (List.mem_cons_self ..))
 dsimp only at a1 a2 b1 b2
 have hp:p < nx:=hnx p (by rw [o1];simp)
 have i1:q1 < nx:=hnx q1 (by rw [a1];simp)
 have i2:q2 < nx:=hnx q2 (by rw [a2];simp)
 have hin:=V1.lt hnx
 have x1:=V1.obj a1
 have x2:=V1.obj a2
 try simp [-qt,-qd,-ql,rgs,a1,a2]
 repeat' first | done | ((first | ((with_reducible show vZ _ _ _ _ _ _ _ _);refine zQ rfl rfl (by decide) (by decide) (by first | (simp [-qt,-qd,-ql,rgs,a1,a2];done) | (simp [-qt,-qd,-ql,rgs,a1,a2];rfl)) (by first | (simp [-qt,-qd,-ql,rgs,a1,a2];done) | (simp [-qt,-qd,-ql,rgs,a1,a2];rfl)) (by first | (simp;done) | (simp;omega)) (by first | (simp only [zY,LIM] at *; simp;omega) | (simp only [zY];simp;omega)) (by simp [iv,bv]) ?_) | (with_reducible refine zF (i:=2) [(0,[],[]),(1,[],[]),(2,[],[]),(3,[],[]),(4,[],[8]),(5,[],[]),(6,[],[]),(7,[],[]),(8,[],[]),(9,[],[]),(10,[],[]),(11,[],[]),(12,[],[])] (by kernel_rfl) ?_)) <;> simp [-qt,-qd,-ql,rgs,a1,a2])
 refine yX hgr ⟨o1,V1⟩ ?_
 rintro r h1' n1 ⟨rfl,⟨X1,o2,V2,hid⟩,hf1⟩ hle1 hfr1
 dsimp only at hid hf1 hle1
 have r1:=hf1 q1 (by omega) b1 x1
 have r2:=hf1 q2 (by omega) b2 x2
 rw [a1] at r1
 rw [a2] at r2
 have hin1:∀ j ∈ X1.ids,j < n1:=fun j hj=>by rcases hid j hj with r | r;(have:=hin j r;omega);omega
 have t11:=V2.top 11 (by omega)
 simp only [zH5] at t11
 have hpX:=V2.obj o2
 have o3:=o2
 simp only [vN] at o3
 have m11:=hin1 _ (WI.top_mem (X:=X1) (k:=11) (by omega))
 have k1:∀ k,(p = n1 + k) = False:=fun k=>by simp only [eq_iff_iff,iff_false];omega
 have k2:∀ k,(X1.top 11 = n1 + k) = False:=fun k=>by simp only [eq_iff_iff,iff_false];omega
 have k3:(p = X1.top 11) = False:=by simp only [eq_iff_iff,iff_false];exact fun e=>hpX (e ▸ WI.top_mem (by omega))
 have k4:∀ k,(q2 = n1 + k) = False:=fun k=>by simp only [eq_iff_iff,iff_false];omega
 try simp [-qt,-qd,-ql,rgs,r2,o3,t11,k1,k2,k3,k4]
 repeat' first | done | ((first | ((with_reducible show vZ _ _ _ _ _ _ _ _);refine zQ rfl rfl (by decide) (by decide) (by first | (simp [-qt,-qd,-ql,rgs,r2,o3,t11,k1,k2,k3,k4];done) | (simp [-qt,-qd,-ql,rgs,r2,o3,t11,k1,k2,k3,k4];rfl)) (by first | (simp [-qt,-qd,-ql,rgs,r2,o3,t11,k1,k2,k3,k4];done) | (simp [-qt,-qd,-ql,rgs,r2,o3,t11,k1,k2,k3,k4];rfl)) (by first | (simp;done) | (simp;omega)) (by first | (simp only [zY,LIM] at *; simp;omega) | (simp only [zY];simp;omega)) (by simp [iv,bv]) ?_) | (with_reducible refine zF (i:=2) [(0,[],[]),(1,[],[]),(2,[],[]),(3,[],[]),(4,[],[8]),(5,[],[]),(6,[],[]),(7,[],[]),(8,[],[]),(9,[],[]),(10,[],[]),(11,[],[]),(12,[],[])] (by kernel_rfl) ?_)) <;> simp [-qt,-qd,-ql,rgs,r2,o3,t11,k1,k2,k3,k4])
 have hzl:(List.zipWith uB v.groups X1.gr).length = v.groups.length:=by simp [V2.gl]
 refine app_mid (ws:=List.zipWith uB v.groups X1.gr) (ys:=[[AV.int .i64 gi,AV.int .i64 limit,AV.int .i64 0,AV.nil,AV.int .i64 0]]) rfl rfl (by decide) (by decide) ?r1 ?r2 ?r3 ?r4 ?r5 ?_
 case r1=>simp [t11,k2]
 case r2=>simp
 case r3=>rw [hzl];omega
 case r4=>simp only [zY];simp;omega
 case r5=>simp
 have hr:List.take v.groups.length (List.drop 0 (List.zipWith uB v.groups X1.gr)) ++ [[AV.int .i64 gi,AV.int .i64 limit,AV.int .i64 0,AV.nil,AV.int .i64 0]] ++ List.drop (0 + v.groups.length + [[AV.int .i64 gi,AV.int .i64 limit,AV.int .i64 0,AV.nil,AV.int .i64 0]].length) (List.zipWith uB v.groups X1.gr) = List.zipWith uB v.groups X1.gr ++ [[AV.int .i64 gi,AV.int .i64 limit,AV.int .i64 0,AV.nil,AV.int .i64 0]]:=by
  rw [List.drop_zero,List.take_of_length_le (by omega),List.drop_eq_nil_of_le (by rw [hzl];simp),List.append_nil]
 rw [hr]
 try simp [-qt,-qd,-ql,rgs,o3,k1,k2,k3,k4]
 repeat' first | done | ((first | ((with_reducible show vZ _ _ _ _ _ _ _ _);refine zQ rfl rfl (by decide) (by decide) (by first | (simp [-qt,-qd,-ql,rgs,o3,k1,k2,k3,k4];done) | (simp [-qt,-qd,-ql,rgs,o3,k1,k2,k3,k4];rfl)) (by first | (simp [-qt,-qd,-ql,rgs,o3,k1,k2,k3,k4];done) | (simp [-qt,-qd,-ql,rgs,o3,k1,k2,k3,k4];rfl)) (by first | (simp;done) | (simp;omega)) (by first | (simp only [zY,LIM] at *; simp;omega) | (simp only [zY];simp;omega)) (by simp [iv,bv]) ?_) | (with_reducible refine zF (i:=2) [(0,[],[]),(1,[],[]),(2,[],[]),(3,[],[]),(4,[],[8]),(5,[],[]),(6,[],[]),(7,[],[]),(8,[],[]),(9,[],[]),(10,[],[]),(11,[],[]),(12,[],[])] (by kernel_rfl) ?_)) <;> simp [-qt,-qd,-ql,rgs,o3,k1,k2,k3,k4])
 have y1:=V2.obj r1
 have y2:=V2.obj r2
 refine .inr ⟨n1 + 9,5,_,v.groups.length,[AV.int .i64 gi,AV.int .i64 limit,AV.int .i64 0,AV.nil,AV.int .i64 0],3,1,(zI _ _ _ _ (by omega)).trans (zL ..),by rw [List.getElem?_append_right (by omega),hzl];simp,rfl,by omega,rfl,fun _=>⟨X1.addGr (n1 + 9) (n1 + 15),?_,V2.addGroup (G:=zK4 gi limit) (fun hm=>by have:=hin1 _ hm;omega) (fun hm=>by have:=hin1 _ hm;omega) (by omega) ?_ ?_ (fun j hj hne => ?_),fun j hj => ?_⟩,fun q hm => ?_,fun j hj hjp hjX hjq => ?_⟩
 ·rw [zI _ _ _ _ (by omega),zI _ _ _ _ (by omega),zL];simp [vN,WI.addGr,addG]
 ·rw [zL,List.set_append_right _ _ (by omega),hzl];simp [uB,zK4]
 ·rw [zI _ _ _ _ (by omega),zL];rfl
 ·have:=hin1 j hj
  rw [zI _ _ _ _ (by omega),zI _ _ _ _ (by omega),zI _ _ _ _ (fun (e:j = p)=>hpX (e ▸ hj)),zI _ _ _ _ (by omega),zI _ _ _ _ hne,zI _ _ _ _ (by omega)]
 ·rcases WI.addGr_ids hj with r | r | r
  ·rcases hid j r with r | r
   ·exact .inl r
   ·right;omega
  ·right;omega
  ·right;omega
 ·simp only [List.mem_cons,List.not_mem_nil,or_false] at hm
  rcases hm with rfl | rfl <;> dsimp only
  ·rw [zI _ _ _ _ (by omega),zI _ _ _ _ (by omega),zI _ _ _ _ b1,zI _ _ _ _ (by omega),zI _ _ _ _ (fun e=>y1 (by rw [e];exact WI.top_mem (by omega))),zI _ _ _ _ (by omega)];exact r1
  ·rw [zI _ _ _ _ (by omega),zI _ _ _ _ (by omega),zI _ _ _ _ b2,zI _ _ _ _ (by omega),zI _ _ _ _ (fun e=>y2 (by rw [e];exact WI.top_mem (by omega))),zI _ _ _ _ (by omega)];exact r2
 ·have h11:j ≠ X1.top 11:=fun e=>by
   rcases hid (X1.top 11) (WI.top_mem (by omega)) with r | r
   ·exact hjX (e ▸ r)
   ·omega
  rw [zI _ _ _ _ (by omega),zI _ _ _ _ (by omega),zI _ _ _ _ hjp,zI _ _ _ _ (by omega),zI _ _ _ _ h11,zI _ _ _ _ (by omega)]
  exact hf1 j (by omega) hjp hjX
theorem w_GroupIn {F:Nat → Bool} {w:Wld} {up limit:Int} (hs:zC9 w ≤ 1048576):WC ctx.P 18 [.agg (wldV F w),.int .i64 up,.int .i64 limit]
 (fun X=>.tup [.agg (vN X (zB5 w up limit)),.int .i64 (zE9 w up limit)]) (zB5 w up limit):=by
 refine WC.of ?_
 have hgl:(zL2 w up limit).groups.length = w.groups.length + 1:=by simp [zL2,addG,(zN2 w 1 up 0 0).2.1]
 unfold zB5 zE9
 have hdo:vG w = true → ∀ q1 q2,DoOk ctx.P 87 [(q1,[.int .i64 up],[.int .i64 up]),(q2,[.int .i64 limit],[.int .i64 limit])] w (zL2 w up limit) (zQ6 w up):=fun hw q1 q2=>d_Group hw
 generalize zL2 w up limit = w' at *
 generalize zQ6 w up = gb at *
 refine AC.o okC Tryz.func18 rfl fun h nx hfr hnx hpre => ?_
 try simp [-qt,-qd,-ql,rgs,zA0,wldV_len,wldV_take]
 repeat' first | done | ((first | (with_reducible refine zF (i:=4) [(0,[],[]),(1,[],[]),(2,[],[]),(3,[.tmp 8],[]),(4,[],[]),(5,[],[]),(6,[],[])] (by kernel_rfl) ?_)) <;> simp [-qt,-qd,-ql,rgs,zA0,wldV_len,wldV_take]) | ((first | (with_reducible refine zA ?_ ?_)) <;> intro qb <;> (have qp:=qb;try simp only [psq] at qp) <;> simp [-qt,-qd,-ql,rgs,zA0,wldV_len,wldV_take,qb])
 refine yX (w_asked (F:=F) (qs:=[(nx + 1,[.int .i64 up],[.int .i64 up]),(nx + 2,[.int .i64 limit],[.int .i64 limit])]) hs (fun hw=>hdo hw _ _)) ?_ ?_
 ·intro q hm
  simp only [List.mem_cons,List.not_mem_nil,or_false] at hm
  rcases hm with rfl | rfl <;> dsimp only <;> repeat (first | exact zL .. | rw [zI _ _ _ _ (by omega)])
 ·rintro r h1 n1 ⟨⟨X,rfl,V1,hid1⟩,hq1,hf1⟩ hle1 hfr1
  dsimp only at hid1 hf1 hle1
  have K1:=fun j (hj:j < nx + 12) (a1:j ≠ nx + 1) (a2:j ≠ nx + 2)=>hf1 j (by omega) (fun q hm=>by
   simp only [List.mem_cons,List.not_mem_nil,or_false] at hm
   rcases hm with rfl | rfl <;> assumption)
  have z1:=K1 (nx + 3) (by omega) (by omega) (by omega)
  simp at z1
  by_cases hb:askB w w' gb = true
  ·have hW:askW w w' gb = w':=by
    simp only [askB,Bool.and_eq_true] at hb
    simp [askW,hb.1,hb.2.1,hb.2.2]
   rw [if_pos hb]
   rw [hW] at V1 ⊢
   rw [hb]
   have hgs:w.groups.length ≤ 1048576:=by simp only [zC9] at hs;omega
   have ew:IntKind.i64.wrap (((w.groups.length + 1:Nat):Int) - 1) = (w.groups.length:Int):=by rw [zH (by omega)];omega
   try simp [-qt,-qd,-ql,rgs,z1,vN]
   repeat' first | done | ((first | (with_reducible refine zF (i:=4) [(0,[],[]),(1,[],[]),(2,[],[]),(3,[.tmp 8],[]),(4,[],[]),(5,[],[]),(6,[],[])] (by kernel_rfl) ?_)) <;> simp [-qt,-qd,-ql,rgs,z1,vN]) | ((first | (with_reducible refine zA ?_ ?_)) <;> intro qb <;> (have qp:=qb;try simp only [psq] at qp) <;> simp [-qt,-qd,-ql,rgs,z1,vN,qb])
   refine yJ (zL3 (p:=FF 12) (pg:=FF 13) (xs:=w'.groups)) (.int _ _) ?hb2 ?_
   case hb2=>exact .cons ((V1.keep fun id hid=>by have:=hid1 id hid;dsimp only;repeat rw [zI _ _ _ _ (by omega)]).bors.get 13 _ _ rfl rfl) .nil
   have ew2:IntKind.i64.wrap (w.groups.length:Int) = (w.groups.length:Int):=zH (by omega)
   try simp [-qt,-qd,-ql,rgs,z1,vN,hgl,ew]
   repeat' first | done | ((first | (with_reducible refine zF (i:=4) [(0,[],[]),(1,[],[]),(2,[],[]),(3,[.tmp 8],[]),(4,[],[]),(5,[],[]),(6,[],[])] (by kernel_rfl) ?_)) <;> simp [-qt,-qd,-ql,rgs,z1,vN,hgl,ew]) | ((first | (with_reducible refine zA ?_ ?_)) <;> intro qb <;> (have qp:=qb;try simp only [psq] at qp) <;> simp [-qt,-qd,-ql,rgs,z1,vN,hgl,ew,qb])
   refine ⟨fun j hj => ?_,X,by simp [vN,hgl,ew2],V1.keep fun id hid => ?_,fun id hid=>by have:=hid1 id hid;omega⟩
   ·repeat rw [zI _ _ _ _ (by omega)]
    rw [K1 j (by omega) (by omega) (by omega)]
    repeat rw [zI _ _ _ _ (by omega)]
   ·have:=hid1 id hid
    repeat rw [zI _ _ _ _ (by omega)]
  ·have hb2:askB w w' gb = false:=by simpa using hb
   rw [if_neg hb,hb2]
   try simp [-qt,-qd,-ql,rgs,z1,zR X _,yI,yB]
   repeat' first | done | ((first | (with_reducible refine zF (i:=4) [(0,[],[]),(1,[],[]),(2,[],[]),(3,[.tmp 8],[]),(4,[],[]),(5,[],[]),(6,[],[])] (by kernel_rfl) ?_)) <;> simp [-qt,-qd,-ql,rgs,z1,zR X _,yI,yB]) | ((first | (with_reducible refine zA ?_ ?_)) <;> intro qb <;> (have qp:=qb;try simp only [psq] at qp) <;> simp [-qt,-qd,-ql,rgs,z1,zR X _,yI,yB,qb])
   refine ⟨fun j hj => ?_,X,rfl,V1.keep fun id hid => ?_,fun id hid=>by have:=hid1 id hid;omega⟩
   ·repeat rw [zI _ _ _ _ (by omega)]
    rw [K1 j (by omega) (by omega) (by omega)]
    repeat rw [zI _ _ _ _ (by omega)]
   ·have:=hid1 id hid
    repeat rw [zI _ _ _ _ (by omega)]
end Go.AE.Tryz
end
section
/- Contracts of the reference's changes of heaps. -/
set_option maxRecDepth 8000
set_option maxHeartbeats 2000000
namespace Go.AE.Tryz
open Go.Proofs
open List renaming map_take → qt,map_drop → qd,map_tail → ql
end Go.AE.Tryz
end
