/- Contracts of the seat's functions: what each answers, for all arguments. -/
import Derived.Test.YtllikpilleekaaaGreatB3
import Derived.Test.YtllikpilleekaaaGreatB2
import Derived.Test.YtllikpilleekaaaGreatA3
import Derived.Test.YtllikpilleekaaaGreatA4
set_option linter.unusedVariables false
set_option linter.unusedSimpArgs false
set_option linter.deprecated false
section
/- Contracts of the program's changes of heaps, as new rows. -/
set_option maxRecDepth 8000
set_option maxHeartbeats 2000000
namespace Go.AE.Tryz
open Go.Proofs
open List renaming map_take → qt,map_drop → qd,map_tail → ql
theorem f_growTwig {n:Nat} (h0:0 < n) (hm:n ≤ zW):FC ctx.P 353 [.nil,.int .i64 n] (.ref 0 3 0 0) [.row 3 (List.replicate n twZ)]:=by
 have hw:IntKind.i64.wrap (n:Int) = n:=zI (by simp only [zW] at hm;omega)
 have hw0:IntKind.i64.wrap 0 = 0:=rfl
 have q1:((n:Int) < 0) = False:=by simp only [eq_iff_iff,iff_false];omega
 have q2:(0 < n) = True:=by simp only [eq_iff_iff,iff_true];omega
 refine FC.o okC Tryz.func353 rfl ((.one _ (.one _ (.ref _ _ _ _ (by simp))))) ((fun e he=>by simp at he;subst he;exact twZ_fz _)) fun h nx hnx => ?_
 try simp [-qt,-qd,-ql,rgs,zI5,hw0,hw,q1,q2]
 repeat' first | done | ((first | ((with_reducible show zT _ _ _ _ _ _);refine zB rfl fun _ => ?_) | ((with_reducible show yC _ _ _ _ _ _ _ _);refine vF rfl omA omA ?_) | ((with_reducible show yC _ _ _ _ _ _ _ _);refine yS rfl omA omA ?_) | ((with_reducible show yC _ _ _ _ _ _ _ _);refine vA rfl omA omA omA ?_) | (((with_reducible show capX _ _ _ _ _ _);refine cap_nil rfl ?_)) | (((with_reducible show yC _ _ _ _ .nil _ _ _);refine slice_nil rfl rfl rfl ?_)) | (((with_reducible show zerS _ _ _ _ _ _ _ _ _);refine zer_nil rfl (by decide) (by decide) rfl rfl h0 hm ?_)) | (((with_reducible show yC _ _ _ _ (.ref _ _ _ _) _ _ _);refine slice_ref (l:=0) (h:=0) rfl rfl (by simp [zJ5]) (by omega) (by omega) ?_)) | ((with_reducible show vS _ _ _ _ _ _ _ _);refine zP rfl rfl (by decide) (by decide) (by first | (simp [-qt,-qd,-ql,rgs,zI5,hw0,hw,q1,q2];done) | (simp [-qt,-qd,-ql,rgs,zI5,hw0,hw,q1,q2];rfl)) (by first | (simp [-qt,-qd,-ql,rgs,zI5,hw0,hw,q1,q2];done) | (simp [-qt,-qd,-ql,rgs,zI5,hw0,hw,q1,q2];rfl)) (by first | (simp;done) | (simp;omega)) (by first | (simp only [zW,LIM] at *; simp;omega) | (simp only [zW];simp;omega)) (by simp [iv,bv]) ?_)) <;> simp [-qt,-qd,-ql,rgs,zI5,hw0,hw,q1,q2]) | ((first | (with_reducible refine zA ?_ ?_)) <;> intro qb <;> (have qp:=qb;try simp only [psq] at qp) <;> simp [-qt,-qd,-ql,rgs,zI5,hw0,hw,q1,q2,qb])
 exact finF1 (i:=nx + 18) zK (by omega) (by simp [twZ]) (by simp)
theorem f_concatTwig {p:Bool} {qs:List (Bool × List Twg)} (h0:0 < (cq qs qs.length).length) (hm:(cq qs qs.length).length ≤ 1048576) (hq:qs.length ≤ 1000):FC ctx.P 351 [.view p 1 (qs.map twV)] (.ref 0 3 0 ((cq qs qs.length).map yD).length) [.row 3 ((cq qs qs.length).map yD)]:=by
 have hlim:qs.length ≤ LIM:=by simp only [LIM];omega
 have hM:(cq qs qs.length).length ≤ zW:=by simp only [zW];omega
 refine FC.o1 okC Tryz.func351 rfl (zR yV _) fun h nx hnx => ?_
 try simp [-qt,-qd,-ql,rgs]
 repeat' first | done | ((first | ((with_reducible show zT _ _ _ _ _ _);refine zB rfl fun _ => ?_) | ((with_reducible show zH _ _ _ _ _ _ _);refine zC rfl omA omA ?_) | ((with_reducible show vS _ _ _ _ _ _ _ _);refine zP rfl rfl (by decide) (by decide) (by first | (simp [-qt,-qd,-ql,rgs];done) | (simp [-qt,-qd,-ql,rgs];rfl)) (by first | (simp [-qt,-qd,-ql,rgs];done) | (simp [-qt,-qd,-ql,rgs];rfl)) (by first | (simp;done) | (simp;omega)) (by first | (simp only [zW,LIM] at *; simp;omega) | (simp only [zW];simp;omega)) (by simp [iv,bv]) ?_)) <;> simp [-qt,-qd,-ql,rgs]) | ((first | (with_reducible refine zA ?_ ?_)) <;> intro qb <;> (have qp:=qb;try simp only [psq] at qp) <;> simp [-qt,-qd,-ql,rgs,qb])
 refine zY [3,5,11,12,13,14,15,16,17,18,19,20,21,22] (qs.length) (fun (i:Nat) a=>[(11,.int .i64 i),(3,.int .i64 ((cq qs i).length:Nat))]) (fun i_ a_ h_ _=>(fun i (_:Unit) _=>True) i_ a_ h_) (()) (by simp) ?_ zU (Nat.le_refl _) ?_
 ·trivial
 ·intro i a tm h' n' hle hJ hE hn' next hnx
  try dsimp only at hJ
  have hK:KeepB nx h' h:=KeepB.sub hE zK (by omega)
  simp [-qt,-qd,-ql]
  by_cases hlt:i < qs.length
  ·have hcl:=cq_lt hlt
   have hcs:=cq_succ hlt
   have hw:IntKind.i64.wrap ((((cq qs i).length:Nat):Int) + (((gt qs (i:Int)).2.length:Nat):Int)) = (((cq qs (i + 1)).length:Nat):Int):=by rw [zI (by omega),hcs,List.length_append];omega
   have hn:((((cq qs (i + 1)).length:Nat):Int) < 0) = False:=by simp only [eq_iff_iff,iff_false];omega
   try simp [-qt,-qd,-ql,rgs,twV,hlt,hw,hn]
   repeat' first | done | ((first | ((with_reducible show zT _ _ _ _ _ _);refine zB rfl fun _ => ?_) | ((with_reducible show zH _ _ _ _ _ _ _);refine zC rfl omA omA ?_) | ((with_reducible show vS _ _ _ _ _ _ _ _);refine zP rfl rfl (by decide) (by decide) (by first | (simp [-qt,-qd,-ql,rgs,twV,hlt,hw,hn];done) | (simp [-qt,-qd,-ql,rgs,twV,hlt,hw,hn];rfl)) (by first | (simp [-qt,-qd,-ql,rgs,twV,hlt,hw,hn];done) | (simp [-qt,-qd,-ql,rgs,twV,hlt,hw,hn];rfl)) (by first | (simp;done) | (simp;omega)) (by first | (simp only [zW,LIM] at *; simp;omega) | (simp only [zW];simp;omega)) (by simp [iv,bv]) ?_)) <;> simp [-qt,-qd,-ql,rgs,twV,hlt,hw,hn]) | ((first | (with_reducible refine zA ?_ ?_)) <;> intro qb <;> (have qp:=qb;try simp only [psq] at qp) <;> simp [-qt,-qd,-ql,rgs,twV,hlt,hw,hn,qb])
   refine hnx.go () ?_ ?_ ?_ ?_ ?_ ?_
   ·omega
   ·simp [zM hlt hlim]
   ·simp
   ·exact zK
   ·first | omega | (simp;omega)
   trivial
  ·have he:i = qs.length:=by omega
   subst he
   try simp [-qt,-qd,-ql,rgs,hlt]
   repeat' first | done | ((first | ((with_reducible show zT _ _ _ _ _ _);refine zB rfl fun _ => ?_) | ((with_reducible show zH _ _ _ _ _ _ _);refine zC rfl omA omA ?_) | ((with_reducible show zG _ _ _ 353 _ _);refine yB (f_growTwig h0 hM) ?_) | ((with_reducible show vS _ _ _ _ _ _ _ _);refine zP rfl rfl (by decide) (by decide) (by first | (simp [-qt,-qd,-ql,rgs,hlt];done) | (simp [-qt,-qd,-ql,rgs,hlt];rfl)) (by first | (simp [-qt,-qd,-ql,rgs,hlt];done) | (simp [-qt,-qd,-ql,rgs,hlt];rfl)) (by first | (simp;done) | (simp;omega)) (by first | (simp only [zW,LIM] at *; simp;omega) | (simp only [zW];simp;omega)) (by simp [iv,bv]) ?_)) <;> simp [-qt,-qd,-ql,rgs,hlt]) | ((first | (with_reducible refine zA ?_ ?_)) <;> intro qb <;> (have qp:=qb;try simp only [psq] at qp) <;> simp [-qt,-qd,-ql,rgs,hlt,qb])
   refine zY (h0:=h) (nx0:=nx) [6,8,27,28,29,30,31,32,33,34] (qs.length) (fun (i:Nat) a=>[(27,.int .i64 i),(6,.ref a 3 0 (cq qs i).length)]) (fun i (a:Nat) h' n'=>h' a = some (.row 3 ((cq qs i).map yD ++ List.replicate ((cq qs qs.length).length - (cq qs i).length) twZ)) ∧ nx ≤ a ∧ a < n') (n' + 4) (by simp) ?_ zK (by omega) ?_
   ·exact ⟨by simp,by omega,by omega⟩
   ·intro j a tm2 h2 n2 hle2 hJ2 hE2 hn2 next2 hnx2
    obtain ⟨g1,g2,g3⟩:=hJ2
    have k1:∀ k,(a = n2 + k) = False:=fun k=>by simp only [eq_iff_iff,iff_false];omega
    simp [-qt,-qd,-ql]
    by_cases hlt2:j < qs.length
    ·have hcl:=cq_lt hlt2
     have hcs:=cq_succ hlt2
     try simp [-qt,-qd,-ql,rgs,twV,hlt2,k1]
     repeat' first | done | ((first | ((with_reducible show zT _ _ _ _ _ _);refine zB rfl fun _ => ?_) | ((with_reducible show zH _ _ _ _ _ _ _);refine zC rfl omA omA ?_) | ((with_reducible show vS _ _ _ _ _ _ _ _);refine zP rfl rfl (by decide) (by decide) (by first | (simp [-qt,-qd,-ql,rgs,twV,hlt2,k1];done) | (simp [-qt,-qd,-ql,rgs,twV,hlt2,k1];rfl)) (by first | (simp [-qt,-qd,-ql,rgs,twV,hlt2,k1];done) | (simp [-qt,-qd,-ql,rgs,twV,hlt2,k1];rfl)) (by first | (simp;done) | (simp;omega)) (by first | (simp only [zW,LIM] at *; simp;omega) | (simp only [zW];simp;omega)) (by simp [iv,bv]) ?_)) <;> simp [-qt,-qd,-ql,rgs,twV,hlt2,k1]) | ((first | (with_reducible refine zA ?_ ?_)) <;> intro qb <;> (have qp:=qb;try simp only [psq] at qp) <;> simp [-qt,-qd,-ql,rgs,twV,hlt2,k1,qb])
     refine app_mid (ws:=(cq qs j).map yD ++ List.replicate ((cq qs qs.length).length - (cq qs j).length) twZ) (ys:=(gt qs (j:Int)).2.map yD) rfl rfl (by decide) (by decide) ?r1 ?r2 ?r3 ?r4 ?r5 ?_
     case r1=>exact g1
     case r2=>simp
     case r3=>simp
     case r4=>simp only [zW];simp;omega
     case r5=>simp [yD]
     rw [cq_row hlt2 rfl]
     try simp [-qt,-qd,-ql,rgs]
     repeat' first | done | ((first | ((with_reducible show zT _ _ _ _ _ _);refine zB rfl fun _ => ?_) | ((with_reducible show zH _ _ _ _ _ _ _);refine zC rfl omA omA ?_) | ((with_reducible show vS _ _ _ _ _ _ _ _);refine zP rfl rfl (by decide) (by decide) (by first | (simp [-qt,-qd,-ql,rgs];done) | (simp [-qt,-qd,-ql,rgs];rfl)) (by first | (simp [-qt,-qd,-ql,rgs];done) | (simp [-qt,-qd,-ql,rgs];rfl)) (by first | (simp;done) | (simp;omega)) (by first | (simp only [zW,LIM] at *; simp;omega) | (simp only [zW];simp;omega)) (by simp [iv,bv]) ?_)) <;> simp [-qt,-qd,-ql,rgs]) | ((first | (with_reducible refine zA ?_ ?_)) <;> intro qb <;> (have qp:=qb;try simp only [psq] at qp) <;> simp [-qt,-qd,-ql,rgs,qb])
     refine hnx2.go (n2 + 6) ?_ ?_ ?_ ?_ ?_ ?_
     ·omega
     ·simp [zM hlt2 hlim,hcs]
     ·simp
     ·exact zK
     ·first | omega | (simp;omega)
     exact ⟨by simp,by omega,by omega⟩
    ·have he:j = qs.length:=by omega
     subst he
     try simp [-qt,-qd,-ql,rgs,hlt2,k1]
     repeat' first | done | ((first | ((with_reducible show zT _ _ _ _ _ _);refine zB rfl fun _ => ?_) | ((with_reducible show zH _ _ _ _ _ _ _);refine zC rfl omA omA ?_) | ((with_reducible show vS _ _ _ _ _ _ _ _);refine zP rfl rfl (by decide) (by decide) (by first | (simp [-qt,-qd,-ql,rgs,hlt2,k1];done) | (simp [-qt,-qd,-ql,rgs,hlt2,k1];rfl)) (by first | (simp [-qt,-qd,-ql,rgs,hlt2,k1];done) | (simp [-qt,-qd,-ql,rgs,hlt2,k1];rfl)) (by first | (simp;done) | (simp;omega)) (by first | (simp only [zW,LIM] at *; simp;omega) | (simp only [zW];simp;omega)) (by simp [iv,bv]) ?_)) <;> simp [-qt,-qd,-ql,rgs,hlt2,k1]) | ((first | (with_reducible refine zA ?_ ?_)) <;> intro qb <;> (have qp:=qb;try simp only [psq] at qp) <;> simp [-qt,-qd,-ql,rgs,hlt2,k1,qb])
     exact yY (i:=a) zK (by first | omega | (simp;omega)) g2 (by simp [g1]) rfl (by simp)
theorem f_joined {p q:Bool} {x:Twg} {l r:List Twg} (hl:isH l) (hr:isH r) (hm:l.length + r.length ≤ 1000):FC ctx.P 345 [.agg (yD x),.view p 3 (l.map yD),.view q 3 (r.map yD)] (.ref 0 3 0 ((zE5 x l r).map yD).length) [.row 3 ((zE5 x l r).map yD)]:=by
 refine FC.o1 okC Tryz.func345 rfl (zR yV _) fun h nx hnx => ?_
 by_cases hk:rk0 l < rk0 r
 ·have hk2:((rk0 l:Int) < (rk0 r:Int)) = True:=by simp only [eq_iff_iff,iff_true];omega
  have hj:zE5 x l r = ⟨x.due,x.seq,r.length⟩ :: (r ++ l):=by simp [zE5,hk]
  try simp [-qt,-qd,-ql,rgs,yD,hk2]
  repeat' first | done | ((first | ((with_reducible show zG _ _ _ 348 _ _);refine zD (c_rank (zR1 hl)) ?_) | ((with_reducible show zG _ _ _ 348 _ _);refine zD (c_rank (zR1 hr)) ?_) | ((with_reducible show zG _ _ _ 347 _ _);refine zD (zI7) ?_)) <;> simp [-qt,-qd,-ql,rgs,yD,hk2]) | ((first | (with_reducible refine zA ?_ ?_)) <;> intro qb <;> (have qp:=qb;try simp only [psq] at qp) <;> simp [-qt,-qd,-ql,rgs,yD,hk2,qb])
  refine zL7 (f_concatTwig (p:=false) (qs:=[(false,[⟨x.due,x.seq,(r.length:Int)⟩]),(q,r),(p,l)]) (by simp [cq]) (by simp [cq];omega) (by simp)) (fun f=>by simp;exact .ref _ _ _ _) (fun e he=>by simp at he;subst he;exact twg_cl _) (.cons (Bor.row3 (by simp;rfl) (Bor.ref0 (by simp;rfl) rfl rfl) (.same _) (.same _)) .nil) ?_
  try simp [-qt,-qd,-ql,rgs]
  repeat' first | done | ((first | (with_reducible refine zA ?_ ?_)) <;> intro qb <;> (have qp:=qb;try simp only [psq] at qp) <;> simp [-qt,-qd,-ql,rgs,qb])
  rw [cq3n]
  exact yY (i:=nx + 22) zK (by first | omega | (simp;done) | (simp;omega)) (by omega) (by simp [hj]) rfl (by simp [hj])
 ·have hk2:((rk0 l:Int) < (rk0 r:Int)) = False:=by simp only [eq_iff_iff,iff_false];omega
  have hj:zE5 x l r = ⟨x.due,x.seq,l.length⟩ :: (l ++ r):=by simp [zE5,hk]
  try simp [-qt,-qd,-ql,rgs,yD,hk2]
  repeat' first | done | ((first | ((with_reducible show zG _ _ _ 348 _ _);refine zD (c_rank (zR1 hl)) ?_) | ((with_reducible show zG _ _ _ 348 _ _);refine zD (c_rank (zR1 hr)) ?_) | ((with_reducible show zG _ _ _ 347 _ _);refine zD (zI7) ?_)) <;> simp [-qt,-qd,-ql,rgs,yD,hk2]) | ((first | (with_reducible refine zA ?_ ?_)) <;> intro qb <;> (have qp:=qb;try simp only [psq] at qp) <;> simp [-qt,-qd,-ql,rgs,yD,hk2,qb])
  refine zL7 (f_concatTwig (p:=false) (qs:=[(false,[⟨x.due,x.seq,(l.length:Int)⟩]),(p,l),(q,r)]) (by simp [cq]) (by simp [cq];omega) (by simp)) (fun f=>by simp;exact .ref _ _ _ _) (fun e he=>by simp at he;subst he;exact twg_cl _) (.cons (Bor.row3 (by simp;rfl) (Bor.ref0 (by simp;rfl) rfl rfl) (.same _) (.same _)) .nil) ?_
  try simp [-qt,-qd,-ql,rgs]
  repeat' first | done | ((first | (with_reducible refine zA ?_ ?_)) <;> intro qb <;> (have qp:=qb;try simp only [psq] at qp) <;> simp [-qt,-qd,-ql,rgs,qb])
  rw [cq3n]
  exact yY (i:=nx + 18) zK (by first | omega | (simp;done) | (simp;omega)) (by omega) (by simp [hj]) rfl (by simp [hj])
theorem f_mergeN:∀ (n:Nat) (p q:Bool) (a b:List Twg),a.length + b.length ≤ n → n ≤ 1000 → isH a → isH b → apart a b → FC ctx.P 313 [.view p 3 (a.map yD),.view q 3 (b.map yD)] (.ref 0 3 0 ((zO1 n a b).map yD).length) [.row 3 ((zO1 n a b).map yD)]:=by
 intro n
 induction n with
 | zero =>
   intro p q a b hn hm ha hb hd
   obtain rfl:a = []:=List.eq_nil_of_length_eq_zero (by omega)
   obtain rfl:b = []:=List.eq_nil_of_length_eq_zero (by simpa using hn)
   rw [mrgN_l]
   have hc:=zJ4 (p:=q) (xs:=[]) (by simp [zW])
   refine FC.o1 okC Tryz.func313 rfl (zR yV _) fun h nx hnx => ?_
   try simp [-qt,-qd,-ql,rgs]
   repeat' first | done | ((first | ((with_reducible show zT _ _ _ _ _ _);refine zB rfl fun _ => ?_) | ((with_reducible show zH _ _ _ _ _ _ _);refine zC rfl omA omA ?_) | (refine yB (hc) ?_) | (with_reducible refine zF (i:=5) [(0,[],[]),(1,[],[]),(2,[],[]),(3,[],[]),(4,[],[]),(5,[],[]),(6,[],[]),(7,[],[])] (by kernel_rfl) ?_) | (with_reducible refine zF (i:=8) [(0,[],[]),(1,[],[]),(2,[],[]),(3,[],[]),(4,[],[]),(5,[],[]),(6,[.tmp 33],[]),(7,[],[]),(8,[],[])] (by kernel_rfl) ?_)) <;> simp [-qt,-qd,-ql,rgs]) | ((first | (with_reducible refine zA ?_ ?_)) <;> intro qb <;> (have qp:=qb;try simp only [psq] at qp) <;> simp [-qt,-qd,-ql,rgs,qb])
   exact yY (i:=nx + 7) zK (by first | omega | (simp;done) | (simp;omega)) (by omega) (by simp) rfl (by simp)
 | succ n ih =>
   intro p q a b hn hm ha hb hd
   by_cases ha0:a.length = 0
   ·obtain rfl:a = []:=List.eq_nil_of_length_eq_zero ha0
    have hc:=zJ4 (p:=q) (xs:=b) (by simp only [zW];omega)
    rw [mrgN_l]
    refine FC.o1 okC Tryz.func313 rfl (zR yV _) fun h nx hnx => ?_
    try simp [-qt,-qd,-ql,rgs]
    repeat' first | done | ((first | ((with_reducible show zT _ _ _ _ _ _);refine zB rfl fun _ => ?_) | ((with_reducible show zH _ _ _ _ _ _ _);refine zC rfl omA omA ?_) | (refine yB (hc) ?_) | (with_reducible refine zF (i:=5) [(0,[],[]),(1,[],[]),(2,[],[]),(3,[],[]),(4,[],[]),(5,[],[]),(6,[],[]),(7,[],[])] (by kernel_rfl) ?_) | (with_reducible refine zF (i:=8) [(0,[],[]),(1,[],[]),(2,[],[]),(3,[],[]),(4,[],[]),(5,[],[]),(6,[.tmp 33],[]),(7,[],[]),(8,[],[])] (by kernel_rfl) ?_)) <;> simp [-qt,-qd,-ql,rgs]) | ((first | (with_reducible refine zA ?_ ?_)) <;> intro qb <;> (have qp:=qb;try simp only [psq] at qp) <;> simp [-qt,-qd,-ql,rgs,qb])
    exact yY (i:=nx + 7) zK (by first | omega | (simp;done) | (simp;omega)) (by omega) (by simp) rfl (by simp)
   have hx0:((a.length:Int) == 0) = false:=by simp;intro e;exact ha0 (by simp [e])
   by_cases hb0:b.length = 0
   ·obtain rfl:b = []:=List.eq_nil_of_length_eq_zero hb0
    have hc:=zJ4 (p:=p) (xs:=a) (by simp only [zW];omega)
    rw [mrgN_r]
    refine FC.o1 okC Tryz.func313 rfl (zR yV _) fun h nx hnx => ?_
    try simp [-qt,-qd,-ql,rgs,hx0]
    repeat' first | done | ((first | ((with_reducible show zT _ _ _ _ _ _);refine zB rfl fun _ => ?_) | ((with_reducible show zH _ _ _ _ _ _ _);refine zC rfl omA omA ?_) | (refine yB (hc) ?_) | (with_reducible refine zF (i:=5) [(0,[],[]),(1,[],[]),(2,[],[]),(3,[],[]),(4,[],[]),(5,[],[]),(6,[],[]),(7,[],[])] (by kernel_rfl) ?_) | (with_reducible refine zF (i:=8) [(0,[],[]),(1,[],[]),(2,[],[]),(3,[],[]),(4,[],[]),(5,[],[]),(6,[.tmp 33],[]),(7,[],[]),(8,[],[])] (by kernel_rfl) ?_)) <;> simp [-qt,-qd,-ql,rgs,hx0]) | ((first | (with_reducible refine zA ?_ ?_)) <;> intro qb <;> (have qp:=qb;try simp only [psq] at qp) <;> simp [-qt,-qd,-ql,rgs,hx0,qb])
    exact yY (i:=nx + 10) zK (by first | omega | (simp;done) | (simp;omega)) (by omega) (by simp) rfl (by simp)
   have hy0:((b.length:Int) == 0) = false:=by simp;intro e;exact hb0 (by simp [e])
   have ha0:0 < a.length:=by omega
   have hb0:0 < b.length:=by omega
   by_cases hyx:lt2 (gt b 0) (gt a 0)
   ·have hcmp:(uQ (gt b 0) (gt a 0) < 0) = True:=by simp only [eq_iff_iff,iff_true];exact cmp_lt.2 hyx
    have pp:=zJ6 hb hb0
    have hl1:=mrgN_len n (b.drop ((gt b 0).lefts.toNat + 1)) a (by omega) pp.2.2.2.1 ha
    rw [mrgN_b ha0 hb0 hyx]
    have hq2:=ih q p (b.drop ((gt b 0).lefts.toNat + 1)) a (by omega) (by omega) pp.2.2.2.1 ha (zE1 (zK7 hd) _)
    have hq3:=mrgN_isH (n:=n) (by omega) pp.2.2.2.1 ha (zE1 (zK7 hd) _)
    refine FC.o1 okC Tryz.func313 rfl (zR yV _) fun h nx hnx => ?_
    try simp [-qt,-qd,-ql,rgs,hx0,hy0,hcmp]
    repeat' first | done | ((first | ((with_reducible show zT _ _ _ _ _ _);refine zB rfl fun _ => ?_) | ((with_reducible show zH _ _ _ _ _ _ _);refine zC rfl omA omA ?_) | ((with_reducible show zG _ _ _ 343 _ _);refine zD (c_compare) ?_) | ((with_reducible show zG _ _ _ 344 _ _);refine zD (zL5 hb0 pp.1 pp.2.1) ?_) | (refine yB (hq2) ?_) | (with_reducible refine zF (i:=5) [(0,[],[]),(1,[],[]),(2,[],[]),(3,[],[]),(4,[],[]),(5,[],[]),(6,[],[]),(7,[],[])] (by kernel_rfl) ?_) | (with_reducible refine zF (i:=8) [(0,[],[]),(1,[],[]),(2,[],[]),(3,[],[]),(4,[],[]),(5,[],[]),(6,[.tmp 33],[]),(7,[],[]),(8,[],[])] (by kernel_rfl) ?_)) <;> simp [-qt,-qd,-ql,rgs,hx0,hy0,hcmp]) | ((first | (with_reducible refine zA ?_ ?_)) <;> intro qb <;> (have qp:=qb;try simp only [psq] at qp) <;> simp [-qt,-qd,-ql,rgs,hx0,hy0,hcmp,qb])
    refine zL7 (f_joined (p:=q) (q:=false) pp.2.2.1 hq3 (by omega)) (fun f=>by simp;exact .ref _ _ _ _) (fun e he=>by simp at he;subst he;exact twg_cl _) (.cons (.same _) (.cons (.same _) (.cons (Bor.ref0 (by first | (simp;done) | (simp;rfl)) rfl (by simp)) .nil))) ?_
    try simp [-qt,-qd,-ql,rgs]
    repeat' first | done | ((first | ((with_reducible show zT _ _ _ _ _ _);refine zB rfl fun _ => ?_) | ((with_reducible show zH _ _ _ _ _ _ _);refine zC rfl omA omA ?_) | (with_reducible refine zF (i:=5) [(0,[],[]),(1,[],[]),(2,[],[]),(3,[],[]),(4,[],[]),(5,[],[]),(6,[],[]),(7,[],[])] (by kernel_rfl) ?_) | (with_reducible refine zF (i:=8) [(0,[],[]),(1,[],[]),(2,[],[]),(3,[],[]),(4,[],[]),(5,[],[]),(6,[.tmp 33],[]),(7,[],[]),(8,[],[])] (by kernel_rfl) ?_)) <;> simp [-qt,-qd,-ql,rgs]) | ((first | (with_reducible refine zA ?_ ?_)) <;> intro qb <;> (have qp:=qb;try simp only [psq] at qp) <;> simp [-qt,-qd,-ql,rgs,qb])
    exact yY zK (by first | omega | (simp;done) | (simp;omega)) (by omega) (by simp) rfl (by simp)
   ·have hcmp:(uQ (gt b 0) (gt a 0) < 0) = False:=by simp only [eq_iff_iff,iff_false];exact fun h=>hyx (cmp_lt.1 h)
    have pp:=zJ6 ha ha0
    have hl1:=mrgN_len n (a.drop ((gt a 0).lefts.toNat + 1)) b (by omega) pp.2.2.2.1 hb
    rw [mrgN_a ha0 hb0 hyx]
    have hq2:=ih p q (a.drop ((gt a 0).lefts.toNat + 1)) b (by omega) (by omega) pp.2.2.2.1 hb (zE1 hd _)
    have hq3:=mrgN_isH (n:=n) (by omega) pp.2.2.2.1 hb (zE1 hd _)
    refine FC.o1 okC Tryz.func313 rfl (zR yV _) fun h nx hnx => ?_
    try simp [-qt,-qd,-ql,rgs,hx0,hy0,hcmp]
    repeat' first | done | ((first | ((with_reducible show zT _ _ _ _ _ _);refine zB rfl fun _ => ?_) | ((with_reducible show zH _ _ _ _ _ _ _);refine zC rfl omA omA ?_) | ((with_reducible show zG _ _ _ 343 _ _);refine zD (c_compare) ?_) | ((with_reducible show zG _ _ _ 344 _ _);refine zD (zL5 ha0 pp.1 pp.2.1) ?_) | (refine yB (hq2) ?_) | (with_reducible refine zF (i:=5) [(0,[],[]),(1,[],[]),(2,[],[]),(3,[],[]),(4,[],[]),(5,[],[]),(6,[],[]),(7,[],[])] (by kernel_rfl) ?_) | (with_reducible refine zF (i:=8) [(0,[],[]),(1,[],[]),(2,[],[]),(3,[],[]),(4,[],[]),(5,[],[]),(6,[.tmp 33],[]),(7,[],[]),(8,[],[])] (by kernel_rfl) ?_)) <;> simp [-qt,-qd,-ql,rgs,hx0,hy0,hcmp]) | ((first | (with_reducible refine zA ?_ ?_)) <;> intro qb <;> (have qp:=qb;try simp only [psq] at qp) <;> simp [-qt,-qd,-ql,rgs,hx0,hy0,hcmp,qb])
    refine zL7 (f_joined (p:=p) (q:=false) pp.2.2.1 hq3 (by omega)) (fun f=>by simp;exact .ref _ _ _ _) (fun e he=>by simp at he;subst he;exact twg_cl _) (.cons (.same _) (.cons (.same _) (.cons (Bor.ref0 (by first | (simp;done) | (simp;rfl)) rfl (by simp)) .nil))) ?_
    try simp [-qt,-qd,-ql,rgs]
    repeat' first | done | ((first | ((with_reducible show zT _ _ _ _ _ _);refine zB rfl fun _ => ?_) | ((with_reducible show zH _ _ _ _ _ _ _);refine zC rfl omA omA ?_) | (with_reducible refine zF (i:=5) [(0,[],[]),(1,[],[]),(2,[],[]),(3,[],[]),(4,[],[]),(5,[],[]),(6,[],[]),(7,[],[])] (by kernel_rfl) ?_) | (with_reducible refine zF (i:=8) [(0,[],[]),(1,[],[]),(2,[],[]),(3,[],[]),(4,[],[]),(5,[],[]),(6,[.tmp 33],[]),(7,[],[]),(8,[],[])] (by kernel_rfl) ?_)) <;> simp [-qt,-qd,-ql,rgs]) | ((first | (with_reducible refine zA ?_ ?_)) <;> intro qb <;> (have qp:=qb;try simp only [psq] at qp) <;> simp [-qt,-qd,-ql,rgs,qb])
    exact yY zK (by first | omega | (simp;done) | (simp;omega)) (by omega) (by simp) rfl (by simp)
theorem f_merge {p q:Bool} {a b:List Twg} (hl:a.length + b.length ≤ 1000) (ha:isH a) (hb:isH b) (hd:apart a b):FC ctx.P 313 [.view p 3 (a.map yD),.view q 3 (b.map yD)] (.ref 0 3 0 ((mrg a b).map yD).length) [.row 3 ((mrg a b).map yD)] :=
 f_mergeN _ p q a b (Nat.le_refl _) hl ha hb hd
theorem f_withoutN:∀ (n:Nat) (p:Bool) (a:List Twg) (s:Int),a.length ≤ n → n ≤ 900 → isH a → once a → (∃ x ∈ a,x.seq = s) → FC ctx.P 322 [.view p 3 (a.map yD),.int .i64 s] (.ref 0 3 0 ((woN n a s).map yD).length) [.row 3 ((woN n a s).map yD)]:=by
 intro n
 induction n with
 | zero =>
   intro p a s hn hm ha ho hx
   obtain rfl:a = []:=List.eq_nil_of_length_eq_zero (by omega)
   obtain ⟨x,hx,_⟩:=hx
   simp at hx
 | succ n ih =>
   intro p a s hn hm ha ho hx
   have ha0:0 < a.length:=by
    obtain ⟨x,hx,_⟩:=hx
    exact List.length_pos_of_mem hx
   have pp:=zJ6 ha ha0
   obtain ⟨o1,o2,o3,o4⟩:=once_part ho ha0 (k:=(gt a 0).lefts.toNat)
   by_cases h1:(gt a 0).seq = s
   ·rw [woN_1 ha0 h1]
    have h1b:((gt a 0).seq == s) = true:=by simpa using h1
    refine FC.o1 okC Tryz.func322 rfl (zR yV _) fun h nx hnx => ?_
    try simp [-qt,-qd,-ql,rgs,yD,h1b]
    repeat' first | done | ((first | ((with_reducible show zH _ _ _ _ _ _ _);refine zC rfl omA omA ?_) | ((with_reducible show zG _ _ _ 344 _ _);refine zD (zL5 ha0 pp.1 pp.2.1) ?_) | ((with_reducible show zG _ _ _ 313 _ _);refine yB (f_merge (by omega) pp.2.2.1 pp.2.2.2.1 o3) ?_)) <;> simp [-qt,-qd,-ql,rgs,yD,h1b]) | ((first | (with_reducible refine zA ?_ ?_)) <;> intro qb <;> (have qp:=qb;try simp only [psq] at qp) <;> simp [-qt,-qd,-ql,rgs,yD,h1b,qb])
    exact yY zK (by first | omega | (simp;done) | (simp;omega)) (by omega) (by simp) rfl (by simp)
   ·have h1b:((gt a 0).seq == s) = false:=by simpa using h1
    by_cases h2:∃ x ∈ a.tail.take (gt a 0).lefts.toNat,x.seq = s
    ·rw [woN_2 ha0 h1 h2]
     have h2b:(0 ≤ zI0 (a.tail.take (gt a 0).lefts.toNat) s) = True:=by simp only [eq_iff_iff,iff_true];exact seqAt_pos.2 h2
     obtain ⟨w1,w2⟩:=woN_sub (n:=n) (by omega) pp.2.2.1 o1 h2
     refine FC.o1 okC Tryz.func322 rfl (zR yV _) fun h nx hnx => ?_
     try simp [-qt,-qd,-ql,rgs,yD,h1b,h2b]
     repeat' first | done | ((first | ((with_reducible show zH _ _ _ _ _ _ _);refine zC rfl omA omA ?_) | ((with_reducible show zG _ _ _ 344 _ _);refine zD (zL5 ha0 pp.1 pp.2.1) ?_) | ((with_reducible show zG _ _ _ 330 _ _);refine zD (c_seqAt) ?_) | (refine yB (ih p _ s (by omega) (by omega) pp.2.2.1 o1 h2) ?_)) <;> simp [-qt,-qd,-ql,rgs,yD,h1b,h2b]) | ((first | (with_reducible refine zA ?_ ?_)) <;> intro qb <;> (have qp:=qb;try simp only [psq] at qp) <;> simp [-qt,-qd,-ql,rgs,yD,h1b,h2b,qb])
     refine zL7 (f_joined (p:=false) (q:=p) w1 pp.2.2.2.1 (by have:=pp.2.2.2.2;omega)) (fun f=>by simp;exact .ref _ _ _ _) (fun e he=>by simp at he;subst he;exact twg_cl _) (.cons (.same _) (.cons (Bor.ref0 (by first | (simp;done) | (simp;rfl)) rfl (by simp)) (.cons (.same _) .nil))) ?_
     try simp [-qt,-qd,-ql,rgs]
     repeat' first | done | ((first | ((with_reducible show zH _ _ _ _ _ _ _);refine zC rfl omA omA ?_)) <;> simp [-qt,-qd,-ql,rgs]) | ((first | (with_reducible refine zA ?_ ?_)) <;> intro qb <;> (have qp:=qb;try simp only [psq] at qp) <;> simp [-qt,-qd,-ql,rgs,qb])
     exact yY zK (by first | omega | (simp;done) | (simp;omega)) (by omega) (by simp) rfl (by simp)
    ·have h3:=once_in ha0 h1 h2 hx
     rw [woN_3 ha0 h1 h2]
     have h2b:(0 ≤ zI0 (a.tail.take (gt a 0).lefts.toNat) s) = False:=by simp only [eq_iff_iff,iff_false];exact fun h=>h2 (seqAt_pos.1 h)
     obtain ⟨w1,w2⟩:=woN_sub (n:=n) (by omega) pp.2.2.2.1 o2 h3
     refine FC.o1 okC Tryz.func322 rfl (zR yV _) fun h nx hnx => ?_
     try simp [-qt,-qd,-ql,rgs,yD,h1b,h2b]
     repeat' first | done | ((first | ((with_reducible show zH _ _ _ _ _ _ _);refine zC rfl omA omA ?_) | ((with_reducible show zG _ _ _ 344 _ _);refine zD (zL5 ha0 pp.1 pp.2.1) ?_) | ((with_reducible show zG _ _ _ 330 _ _);refine zD (c_seqAt) ?_) | (refine yB (ih p _ s (by omega) (by omega) pp.2.2.2.1 o2 h3) ?_)) <;> simp [-qt,-qd,-ql,rgs,yD,h1b,h2b]) | ((first | (with_reducible refine zA ?_ ?_)) <;> intro qb <;> (have qp:=qb;try simp only [psq] at qp) <;> simp [-qt,-qd,-ql,rgs,yD,h1b,h2b,qb])
     refine zL7 (f_joined (p:=p) (q:=false) pp.2.2.1 w1 (by have:=pp.2.2.2.2;omega)) (fun f=>by simp;exact .ref _ _ _ _) (fun e he=>by simp at he;subst he;exact twg_cl _) (.cons (.same _) (.cons (.same _) (.cons (Bor.ref0 (by first | (simp;done) | (simp;rfl)) rfl (by simp)) .nil))) ?_
     try simp [-qt,-qd,-ql,rgs]
     repeat' first | done | ((first | ((with_reducible show zH _ _ _ _ _ _ _);refine zC rfl omA omA ?_)) <;> simp [-qt,-qd,-ql,rgs]) | ((first | (with_reducible refine zA ?_ ?_)) <;> intro qb <;> (have qp:=qb;try simp only [psq] at qp) <;> simp [-qt,-qd,-ql,rgs,qb])
     exact yY zK (by first | omega | (simp;done) | (simp;omega)) (by omega) (by simp) rfl (by simp)
theorem f_without {p:Bool} {a:List Twg} {s:Int} (hm:a.length ≤ 900) (ha:isH a) (ho:once a) (hx:∃ x ∈ a,x.seq = s):FC ctx.P 322 [.view p 3 (a.map yD),.int .i64 s] (.ref 0 3 0 ((wo a s).map yD).length) [.row 3 ((wo a s).map yD)] :=
 f_withoutN _ p a s (Nat.le_refl _) hm ha ho hx
end Go.AE.Tryz
end
section
/- Contracts of the program's changes of timers. -/
set_option maxRecDepth 8000
set_option maxHeartbeats 4000000
namespace Go.AE.Tryz
open Go.Proofs
open List renaming map_take → qt,map_drop → qd,map_tail → ql
theorem m_stop {X:WI} {w:Wld} {p:Nat} {s:Int} (ht:vR w.timers = true):AC ctx.P 250 [.ptr p 6,.int .i64 s]
 (fun h _=>h p = some (.obj (uL X w)) ∧ WV h X w) (TmsQ p X { w with timers:=uE w.timers s } (zG7 w.timers s)):=by
 obtain ⟨-,t2,t3,-,-,-⟩:=zC7.1 ht
 refine AC.o okC Tryz.func250 rfl fun h nx hfr hnx hpre => ?_
 obtain ⟨o1,V1⟩:=hpre
 have hp:p < nx:=hnx p (by rw [o1];simp)
 have hpX:=V1.obj o1
 have hin:=V1.lt hnx
 have t5:=V1.top 5 (by omega)
 have t6:=V1.top 6 (by omega)
 simp only [zM5] at t5 t6
 have o0:=o1
 simp only [uL] at o1
 have hl:=zB4 w.timers.list s
 have l5:=hin _ (WI.top_mem (X:=X) (k:=5) (by omega))
 have l6:=hin _ (WI.top_mem (X:=X) (k:=6) (by omega))
 have k1:∀ k,(p = nx + k) = False:=fun k=>by simp only [eq_iff_iff,iff_false];omega
 have k2:∀ k,(X.top 5 = nx + k) = False:=fun k=>by simp only [eq_iff_iff,iff_false];omega
 have k3:∀ k,(X.top 6 = nx + k) = False:=fun k=>by simp only [eq_iff_iff,iff_false];omega
 have k4:(p = X.top 5) = False:=by simp only [eq_iff_iff,iff_false];exact fun e=>hpX (e ▸ WI.top_mem (by omega))
 have k5:(p = X.top 6) = False:=by simp only [eq_iff_iff,iff_false];exact fun e=>hpX (e ▸ WI.top_mem (by omega))
 have k6:(X.top 5 = X.top 6) = False:=by simp only [eq_iff_iff,iff_false];exact fun e=>absurd (V1.top_inj (by omega) (by omega) e) (by omega)
 try simp [-qt,-qd,-ql,rgs,o1]
 repeat' first | done | ((first | ((with_reducible show zH _ _ _ _ _ _ _);refine zC rfl omA omA ?_)) <;> simp [-qt,-qd,-ql,rgs,o1]) | ((first | (with_reducible refine zE ?_ ?_) | (with_reducible refine zA ?_ ?_)) <;> intro qb <;> (have qp:=qb;try simp only [psq] at qp) <;> simp [-qt,-qd,-ql,rgs,o1,qb])
 refine yT (c_tmsAt (F:=FF) (t:=w.timers) (s:=s)) (.int _ _) ?hb ?_
 case hb=>exact .cons (.agg1 (.cons (.ref0 t5 (by simp) (by simp)) (.cons (.ref0 t6 (by simp) (by simp)) (.cons (.same _) .nil)))) (.cons (.same _) .nil)
 by_cases h0:0 ≤ yM w.timers.list s
 ·have hn:(yM w.timers.list s < 0) = False:=by simp only [eq_iff_iff,iff_false];omega
  have hsb:zG7 w.timers s = (gt w.timers.list (yM w.timers.list s)).armed:=by simp [zG7,h0]
  have hg:(w.timers.list.map zX)[(yM w.timers.list s).toNat]? = some (zX (gt w.timers.list (yM w.timers.list s))):=by rw [List.getElem?_map,zF6 h0 hl];rfl
  by_cases hb:zG7 w.timers s = true
  ·have ha:(gt w.timers.list (yM w.timers.list s)).armed = true:=by rw [← hsb];exact hb
   rw [hb]
   try simp [-qt,-qd,-ql,rgs,o1,t6,hn,ha,k1,k2,k3,k4,k5,k6]
   repeat' first | done | ((first | ((with_reducible show zH _ _ _ _ _ _ _);refine zC rfl omA omA ?_) | (((with_reducible show zH _ _ _ _ (.ref _ _ _ _) _ _);refine yK rfl (by omega) (by omega) ?_)) | (((with_reducible show zQ8 _ _ _ _ _ _ _ _);refine zC5 hg ?_))) <;> simp [-qt,-qd,-ql,rgs,o1,t6,hn,ha,k1,k2,k3,k4,k5,k6]) | ((first | (with_reducible refine zE ?_ ?_) | (with_reducible refine zA ?_ ?_)) <;> intro qb <;> (have qp:=qb;try simp only [psq] at qp) <;> simp [-qt,-qd,-ql,rgs,o1,t6,hn,ha,k1,k2,k3,k4,k5,k6,qb])
   refine storeE_at (sz:=5) (xs:=w.timers.list.map zX) (cells:=zX (gt w.timers.list (yM w.timers.list s))) (by simp [t6]) (by simp) rfl (by decide) hg ?_
   rw [show splice (zX (gt w.timers.list (yM w.timers.list s))) 4 [.bool false] = zX (offT (gt w.timers.list (yM w.timers.list s))) from rfl]
   have hsl:(w.timers.list.map zX).set (yM w.timers.list s).toNat (zX (offT (gt w.timers.list (yM w.timers.list s)))) = (uE w.timers s).list.map zX:=by rw [← List.map_set];simp [uE,hb]
   have hsh:(uE w.timers s).heap = wo w.timers.heap s:=by simp [uE,hb]
   have hsn:(uE w.timers s).next = w.timers.next:=stopT_next
   have hsll:(uE w.timers s).list.length = w.timers.list.length:=stopT_len
   rw [hsl]
   try simp [-qt,-qd,-ql,rgs,o1,k1,k2,k3,k4,k5,k6]
   repeat' first | done | ((first | ((with_reducible show zH _ _ _ _ _ _ _);refine zC rfl omA omA ?_)) <;> simp [-qt,-qd,-ql,rgs,o1,k1,k2,k3,k4,k5,k6]) | ((first | (with_reducible refine zE ?_ ?_) | (with_reducible refine zA ?_ ?_)) <;> intro qb <;> (have qp:=qb;try simp only [psq] at qp) <;> simp [-qt,-qd,-ql,rgs,o1,k1,k2,k3,k4,k5,k6,qb])
   refine zL7 (f_without (p:=false) (a:=w.timers.heap) (s:=s) (by omega) t3.2.2 t3.2.1 ((heap_has ht s).2 hb)) (fun f=>by simp;exact .ref _ _ _ _) (fun e he=>by simp at he;subst he;exact twg_cl _) (.cons (Bor.ref0 (by simp [t5,k6]) (by simp) (by simp)) (.cons (.same _) .nil)) ?_
   try simp [-qt,-qd,-ql,rgs,o1,k1,k2,k3,k4,k5,k6]
   repeat' first | done | ((first | ((with_reducible show zH _ _ _ _ _ _ _);refine zC rfl omA omA ?_)) <;> simp [-qt,-qd,-ql,rgs,o1,k1,k2,k3,k4,k5,k6]) | ((first | (with_reducible refine zE ?_ ?_) | (with_reducible refine zA ?_ ?_)) <;> intro qb <;> (have qp:=qb;try simp only [psq] at qp) <;> simp [-qt,-qd,-ql,rgs,o1,k1,k2,k3,k4,k5,k6,qb])
   have hp6:X.top 6 ≠ p:=fun e=>hpX (e ▸ WI.top_mem (by omega))
   refine ⟨rfl,⟨X.setTop 5 (nx + 38),?_,V1.newTop [6] (by omega) (fun hm=>by have:=hin _ hm;omega) ?_ (by simp) (fun k hk => ?_) (fun k hk hS hne => ?_) rfl rfl (fun j hj hS hne => ?_),fun j hj => ?_⟩,fun j hj hjp hjX => ?_⟩
   ·rw [zL];simp [uL,WI.setTop,hsh,hsn,hsll]
   ·rw [zJ _ _ _ _ (by omega),zL];simp [zM5,hsh]
   ·simp only [List.mem_cons,List.not_mem_nil,or_false] at hk;subst hk
    rw [zJ _ _ _ _ hp6,zJ _ _ _ _ (by omega),zL];rfl
   ·rcases lt15 hk with rfl | rfl | rfl | rfl | rfl | rfl | rfl | rfl | rfl | rfl | rfl | rfl | rfl | rfl | rfl <;> first | rfl | exact absurd (by decide) hS | exact absurd rfl hne
   ·have:=hin j hj
    rw [zJ _ _ _ _ (fun (e:j = p)=>hpX (e ▸ hj)),zJ _ _ _ _ (by omega),zJ _ _ _ _ (hS 6 (by simp))]
   ·rcases WI.setTop_ids hj with q | q
    ·exact .inl q
    ·right;omega
   ·rw [zJ _ _ _ _ hjp,zJ _ _ _ _ (by omega),zJ _ _ _ _ (fun (e:j = X.top 6)=>hjX (e ▸ WI.top_mem (by omega)))]
  ·have hb2:zG7 w.timers s = false:=by simpa using hb
   have ha:(gt w.timers.list (yM w.timers.list s)).armed = false:=by rw [← hsb];exact hb2
   rw [hb2,stopT_not hb]
   try simp [-qt,-qd,-ql,rgs,o1,t6,hn,ha,k1,k2,k3,k4,k5,k6]
   repeat' first | done | ((first | ((with_reducible show zH _ _ _ _ _ _ _);refine zC rfl omA omA ?_) | (((with_reducible show zH _ _ _ _ (.ref _ _ _ _) _ _);refine yK rfl (by omega) (by omega) ?_)) | (((with_reducible show zQ8 _ _ _ _ _ _ _ _);refine zC5 hg ?_))) <;> simp [-qt,-qd,-ql,rgs,o1,t6,hn,ha,k1,k2,k3,k4,k5,k6]) | ((first | (with_reducible refine zE ?_ ?_) | (with_reducible refine zA ?_ ?_)) <;> intro qb <;> (have qp:=qb;try simp only [psq] at qp) <;> simp [-qt,-qd,-ql,rgs,o1,t6,hn,ha,k1,k2,k3,k4,k5,k6,qb])
   exact ⟨rfl,⟨X,o0,V1,fun id h=>.inl h⟩,fun j _ _ _=>rfl⟩
 ·have hn:(yM w.timers.list s < 0) = True:=by simp only [eq_iff_iff,iff_true];omega
  have hb:¬ zG7 w.timers s = true:=by simp [zG7];omega
  have hb2:zG7 w.timers s = false:=by simpa using hb
  rw [hb2,stopT_not hb]
  try simp [-qt,-qd,-ql,rgs,o1,hn]
  repeat' first | done | ((first | ((with_reducible show zH _ _ _ _ _ _ _);refine zC rfl omA omA ?_)) <;> simp [-qt,-qd,-ql,rgs,o1,hn]) | ((first | (with_reducible refine zE ?_ ?_) | (with_reducible refine zA ?_ ?_)) <;> intro qb <;> (have qp:=qb;try simp only [psq] at qp) <;> simp [-qt,-qd,-ql,rgs,o1,hn,qb])
  exact ⟨rfl,⟨X,o0,V1,fun id h=>.inl h⟩,fun j _ _ _=>rfl⟩
end Go.AE.Tryz
end
section
/- Contracts of the program's request to create a node. -/
set_option maxRecDepth 8000
set_option maxHeartbeats 4000000
namespace Go.AE.Tryz
open Go.Proofs
open List renaming map_take → qt,map_drop → qd,map_tail → ql
theorem m_begin {X:WI} {w:Wld} {p:Nat} {n:Int} (h4:w.spread.work.length ≤ 1048576):AC ctx.P 133 [.ptr p 4,.int .i64 n]
 (fun h _=>h p = some (.obj (uL X w)) ∧ WV h X w) (TmsQ p X (begW w n) (zJ3 w n)):=by
 refine AC.o okC Tryz.func133 rfl fun h nx hfr hnx hpre => ?_
 obtain ⟨o1,V1⟩:=hpre
 have hp:p < nx:=hnx p (by rw [o1];simp)
 have hpX:=V1.obj o1
 have hin:=V1.lt hnx
 have t3:=V1.top 3 (by omega)
 have t4:=V1.top 4 (by omega)
 simp only [zM5] at t3 t4
 have o0:=o1
 simp only [uL] at o1
 have l4:=hin _ (WI.top_mem (X:=X) (k:=4) (by omega))
 have k1:∀ k,(p = nx + k) = False:=fun k=>by simp only [eq_iff_iff,iff_false];omega
 have k2:∀ k,(X.top 4 = nx + k) = False:=fun k=>by simp only [eq_iff_iff,iff_false];omega
 have k4:(p = X.top 4) = False:=by simp only [eq_iff_iff,iff_false];exact fun e=>hpX (e ▸ WI.top_mem (by omega))
 try simp [-qt,-qd,-ql,rgs,o1]
 repeat' first | done | ((first | ((with_reducible show zT _ _ _ _ _ _);refine zB rfl fun _ => ?_) | ((with_reducible show vS _ _ _ _ _ _ _ _);refine zP rfl rfl (by decide) (by decide) (by first | (simp [-qt,-qd,-ql,rgs,o1];done) | (simp [-qt,-qd,-ql,rgs,o1];rfl)) (by first | (simp [-qt,-qd,-ql,rgs,o1];done) | (simp [-qt,-qd,-ql,rgs,o1];rfl)) (by first | (simp;done) | (simp;omega)) (by first | (simp only [zW,LIM] at *; simp;omega) | (simp only [zW];simp;omega)) (by simp [iv,bv]) ?_)) <;> simp [-qt,-qd,-ql,rgs,o1]) | ((first | (with_reducible refine zE ?_ ?_) | (with_reducible refine zA ?_ ?_)) <;> intro qb <;> (have qp:=qb;try simp only [psq] at qp) <;> simp [-qt,-qd,-ql,rgs,o1,qb])
 refine yT (c_isIn_bool (p:=false) (n:=n) (xs:=w.spread.told)) (.bool _) ?hb ?_
 case hb=>exact .cons (.same _) (.cons (.ref0 (by simpa using t3) (by simp) (by simp)) .nil)
 by_cases hi:vX n w.spread.told = true
 ·by_cases hw:w.spread.work.length = 240
  ·have hc:zJ3 w n = false:=by simp [zJ3,zE7,hw]
   have e:begW w n = w:=by simp [begW,hc]
   rw [hc,e]
   try simp [-qt,-qd,-ql,rgs,o1,hi,hw]
   repeat' first | done | ((first | ((with_reducible show zT _ _ _ _ _ _);refine zB rfl fun _ => ?_) | ((with_reducible show vS _ _ _ _ _ _ _ _);refine zP rfl rfl (by decide) (by decide) (by first | (simp [-qt,-qd,-ql,rgs,o1,hi,hw];done) | (simp [-qt,-qd,-ql,rgs,o1,hi,hw];rfl)) (by first | (simp [-qt,-qd,-ql,rgs,o1,hi,hw];done) | (simp [-qt,-qd,-ql,rgs,o1,hi,hw];rfl)) (by first | (simp;done) | (simp;omega)) (by first | (simp only [zW,LIM] at *; simp;omega) | (simp only [zW];simp;omega)) (by simp [iv,bv]) ?_)) <;> simp [-qt,-qd,-ql,rgs,o1,hi,hw]) | ((first | (with_reducible refine zE ?_ ?_) | (with_reducible refine zA ?_ ?_)) <;> intro qb <;> (have qp:=qb;try simp only [psq] at qp) <;> simp [-qt,-qd,-ql,rgs,o1,hi,hw,qb])
   exact ⟨rfl,⟨X,o0,V1,fun id h=>.inl h⟩,fun j _ _ _=>rfl⟩
  ·have hc:zJ3 w n = true:=by simp [zJ3,zE7,hi,hw]
   have e:begW w n = begS w n:=by simp [begW,hc]
   have hw2:((w.spread.work.length:Int) == 240) = false:=by simp;omega
   rw [hc,e]
   try simp [-qt,-qd,-ql,rgs,o1,t4,hi,hw,hw2,iv,k1,k2,k4]
   repeat' first | done | ((first | ((with_reducible show zT _ _ _ _ _ _);refine zB rfl fun _ => ?_) | ((with_reducible show vS _ _ _ _ _ _ _ _);refine zP rfl rfl (by decide) (by decide) (by first | (simp [-qt,-qd,-ql,rgs,o1,t4,hi,hw,hw2,iv,k1,k2,k4];done) | (simp [-qt,-qd,-ql,rgs,o1,t4,hi,hw,hw2,iv,k1,k2,k4];rfl)) (by first | (simp [-qt,-qd,-ql,rgs,o1,t4,hi,hw,hw2,iv,k1,k2,k4];done) | (simp [-qt,-qd,-ql,rgs,o1,t4,hi,hw,hw2,iv,k1,k2,k4];rfl)) (by first | (simp;done) | (simp;omega)) (by first | (simp only [zW,LIM] at *; simp;omega) | (simp only [zW];simp;omega)) (by simp [iv,bv]) ?_)) <;> simp [-qt,-qd,-ql,rgs,o1,t4,hi,hw,hw2,iv,k1,k2,k4]) | ((first | (with_reducible refine zE ?_ ?_) | (with_reducible refine zA ?_ ?_)) <;> intro qb <;> (have qp:=qb;try simp only [psq] at qp) <;> simp [-qt,-qd,-ql,rgs,o1,t4,hi,hw,hw2,iv,k1,k2,k4,qb])
   refine ⟨rfl,⟨X.setTop 4 (nx + 23),?_,V1.newTop [] (by omega) (fun hm=>by have:=hin _ hm;omega) ?_ (by simp) (by simp) (fun k hk _ hne => ?_) rfl rfl (fun j hj _ hne => ?_),fun j hj => ?_⟩,fun j hj hjp hjX => ?_⟩
   ·rw [zL];simp [uL,WI.setTop,begS,mkW]
   ·rw [zJ _ _ _ _ (by omega),zL];simp [zM5,begS,mkW,iv]
   ·rcases lt15 hk with rfl | rfl | rfl | rfl | rfl | rfl | rfl | rfl | rfl | rfl | rfl | rfl | rfl | rfl | rfl <;> first | rfl | exact absurd rfl hne
   ·have:=hin j hj
    rw [zJ _ _ _ _ (fun (e:j = p)=>hpX (e ▸ hj)),zJ _ _ _ _ (by omega),zJ _ _ _ _ hne,zJ _ _ _ _ (by omega)]
   ·rcases WI.setTop_ids hj with q | q
    ·exact .inl q
    ·right;omega
   ·rw [zJ _ _ _ _ hjp,zJ _ _ _ _ (by omega),zJ _ _ _ _ (fun (e:j = X.top 4)=>hjX (e ▸ WI.top_mem (by omega))),zJ _ _ _ _ (by omega)]
 ·have hi2:vX n w.spread.told = false:=by simpa using hi
  have hc:zJ3 w n = false:=by simp [zJ3,zE7,hi2]
  have e:begW w n = w:=by simp [begW,hc]
  rw [hc,e]
  try simp [-qt,-qd,-ql,rgs,o1,hi2]
  repeat' first | done | ((first | ((with_reducible show zT _ _ _ _ _ _);refine zB rfl fun _ => ?_) | ((with_reducible show vS _ _ _ _ _ _ _ _);refine zP rfl rfl (by decide) (by decide) (by first | (simp [-qt,-qd,-ql,rgs,o1,hi2];done) | (simp [-qt,-qd,-ql,rgs,o1,hi2];rfl)) (by first | (simp [-qt,-qd,-ql,rgs,o1,hi2];done) | (simp [-qt,-qd,-ql,rgs,o1,hi2];rfl)) (by first | (simp;done) | (simp;omega)) (by first | (simp only [zW,LIM] at *; simp;omega) | (simp only [zW];simp;omega)) (by simp [iv,bv]) ?_)) <;> simp [-qt,-qd,-ql,rgs,o1,hi2]) | ((first | (with_reducible refine zE ?_ ?_) | (with_reducible refine zA ?_ ?_)) <;> intro qb <;> (have qp:=qb;try simp only [psq] at qp) <;> simp [-qt,-qd,-ql,rgs,o1,hi2,qb])
  exact ⟨rfl,⟨X,o0,V1,fun id h=>.inl h⟩,fun j _ _ _=>rfl⟩
theorem m_cancel {X:WI} {w:Wld} {p:Nat} {n er ca:Int} (ht:zB1 w.tree = true) (h4:w.spread.work.length ≤ 1048576) (h2:w.events.length ≤ 1048576):AC ctx.P 135 [.ptr p 0,.int .i64 n,.int .i64 er,.int .i64 ca]
 (fun h _=>h p = some (.obj (uL X w)) ∧ WV h X w) (TmsQ p X (cutW w ⟨n,er,ca,w.now⟩) (zM7 w ⟨n,er,ca,w.now⟩)):=by
 refine AC.o okC Tryz.func135 rfl fun h nx hfr hnx hpre => ?_
 obtain ⟨o1,V1⟩:=hpre
 have hp:p < nx:=hnx p (by rw [o1];simp)
 have hpX:=V1.obj o1
 have hin:=V1.lt hnx
 have t1:=V1.top 1 (by omega)
 have t2:=V1.top 2 (by omega)
 simp only [zM5] at t1 t2
 have o0:=o1
 simp only [uL] at o1
 have l2:=hin _ (WI.top_mem (X:=X) (k:=2) (by omega))
 have k1:∀ k,(p = nx + k) = False:=fun k=>by simp only [eq_iff_iff,iff_false];omega
 have l1:=hin _ (WI.top_mem (X:=X) (k:=1) (by omega))
 have k2:∀ k,(X.top 1 = nx + k) = False:=fun k=>by simp only [eq_iff_iff,iff_false];omega
 have k3:∀ k,(X.top 2 = nx + k) = False:=fun k=>by simp only [eq_iff_iff,iff_false];omega
 try simp [-qt,-qd,-ql,rgs,o1,k1,yW]
 repeat' first | done | ((first | ((with_reducible show vS _ _ _ _ _ _ _ _);refine zP rfl rfl (by decide) (by decide) (by first | (simp [-qt,-qd,-ql,rgs,o1,k1,yW];done) | (simp [-qt,-qd,-ql,rgs,o1,k1,yW];rfl)) (by first | (simp [-qt,-qd,-ql,rgs,o1,k1,yW];done) | (simp [-qt,-qd,-ql,rgs,o1,k1,yW];rfl)) (by first | (simp;done) | (simp;omega)) (by first | (simp only [zW,LIM] at *; simp;omega) | (simp only [zW];simp;omega)) (by simp [iv,bv]) ?_) | (with_reducible refine zF (i:=2) [(0,[],[]),(1,[],[]),(2,[],[]),(3,[],[]),(4,[],[]),(5,[],[]),(6,[],[]),(7,[],[]),(8,[],[]),(9,[],[]),(10,[],[]),(11,[],[]),(12,[],[]),(13,[],[]),(14,[],[]),(15,[],[]),(16,[],[]),(17,[],[]),(18,[],[])] (by kernel_rfl) ?_) | (with_reducible refine zF (i:=4) [(0,[],[]),(1,[],[]),(2,[],[]),(3,[],[]),(4,[],[6]),(5,[],[]),(6,[],[]),(7,[],[]),(8,[],[]),(9,[],[]),(10,[],[])] (by kernel_rfl) ?_)) <;> simp [-qt,-qd,-ql,rgs,o1,k1,yW]) | ((first | (with_reducible refine zQ ?_ ?_) | (with_reducible refine zA ?_ ?_)) <;> intro qb <;> (have qp:=qb;try simp only [psq] at qp) <;> simp [-qt,-qd,-ql,rgs,o1,k1,yW,qb])
 refine yT (c_fits (p:=false) (q:=false) (t:=w.tree) (l:=w.events) (e:=⟨n,er,ca,w.now⟩) ht) (.bool _) ?hb ?_
 case hb=>exact .cons (.same _) (.cons (.ref0 (by simp [t1,k2]) (by simp) (by simp)) (.cons (.ref0 (by simp [t2,k3]) (by simp) (by simp)) .nil))
 obtain ⟨e,hee⟩:∃ e:Evt,e = ⟨n,er,ca,w.now⟩:=⟨_,rfl⟩
 have hbg:=m_begin (X:=X) (w:=w) (p:=p) (n:=n) h4
 by_cases hf:fits w.tree w.events ⟨n,er,ca,w.now⟩ = true
 ·try simp [-qt,-qd,-ql,rgs,o1,k1,hf]
  repeat' first | done | ((first | ((with_reducible show vS _ _ _ _ _ _ _ _);refine zP rfl rfl (by decide) (by decide) (by first | (simp [-qt,-qd,-ql,rgs,o1,k1,hf];done) | (simp [-qt,-qd,-ql,rgs,o1,k1,hf];rfl)) (by first | (simp [-qt,-qd,-ql,rgs,o1,k1,hf];done) | (simp [-qt,-qd,-ql,rgs,o1,k1,hf];rfl)) (by first | (simp;done) | (simp;omega)) (by first | (simp only [zW,LIM] at *; simp;omega) | (simp only [zW];simp;omega)) (by simp [iv,bv]) ?_) | (with_reducible refine zF (i:=2) [(0,[],[]),(1,[],[]),(2,[],[]),(3,[],[]),(4,[],[]),(5,[],[]),(6,[],[]),(7,[],[]),(8,[],[]),(9,[],[]),(10,[],[]),(11,[],[]),(12,[],[]),(13,[],[]),(14,[],[]),(15,[],[]),(16,[],[]),(17,[],[]),(18,[],[])] (by kernel_rfl) ?_) | (with_reducible refine zF (i:=4) [(0,[],[]),(1,[],[]),(2,[],[]),(3,[],[]),(4,[],[6]),(5,[],[]),(6,[],[]),(7,[],[]),(8,[],[]),(9,[],[]),(10,[],[])] (by kernel_rfl) ?_)) <;> simp [-qt,-qd,-ql,rgs,o1,k1,hf]) | ((first | (with_reducible refine zQ ?_ ?_) | (with_reducible refine zA ?_ ?_)) <;> intro qb <;> (have qp:=qb;try simp only [psq] at qp) <;> simp [-qt,-qd,-ql,rgs,o1,k1,hf,qb])
  refine vC hbg ⟨by simp [k1,o0],V1.keep fun id hm=>by have:=hin id hm;dsimp only;repeat rw [zJ _ _ _ _ (by omega)]⟩ ?_
  rintro r h1 n1 ⟨rfl,⟨X1,o2,V2,hid⟩,hf1⟩ hle1 hfr1
  dsimp only at hid hf1 hle1
  have hev:=hf1 (nx + 9) (by omega) (by omega) (fun hm=>by have:=hin _ hm;omega)
  simp at hev
  by_cases hb:zJ3 w n = true
  ·have hc:zM7 w ⟨n,er,ca,w.now⟩ = true:=by simp [zM7,hf,hb]
   have hW:cutW w ⟨n,er,ca,w.now⟩ = cutS w ⟨n,er,ca,w.now⟩:=by simp [cutW,hc]
   have hW2:begW w n = begS w n:=by simp [begW,hb]
   rw [hc,hW]
   rw [hb]
   rw [hW2] at o2 V2
   have s2:=V2.top 2 (by omega)
   simp only [zM5] at s2
   have p2:=V2.obj o2
   have in2:∀ j ∈ X1.ids,j < n1:=fun j hj=>by rcases hid j hj with r | r;(have:=hin j r;omega);omega
   have m2:=in2 _ (WI.top_mem (X:=X1) (k:=2) (by omega))
   have o3:=o2
   simp only [uL] at o3
   have j1:∀ k,(p = n1 + k) = False:=fun k=>by simp only [eq_iff_iff,iff_false];omega
   have j2:∀ k,(X1.top 2 = n1 + k) = False:=fun k=>by simp only [eq_iff_iff,iff_false];omega
   have j3:(p = X1.top 2) = False:=by simp only [eq_iff_iff,iff_false];exact fun e=>p2 (e ▸ WI.top_mem (by omega))
   have j4:∀ k,(nx + 9 = n1 + k) = False:=fun k=>by simp only [eq_iff_iff,iff_false];omega
   try simp [-qt,-qd,-ql,rgs,o3,s2,hev,begS,mkW,yW,j1,j2,j3,j4]
   repeat' first | done | ((first | ((with_reducible show vS _ _ _ _ _ _ _ _);refine zP rfl rfl (by decide) (by decide) (by first | (simp [-qt,-qd,-ql,rgs,o3,s2,hev,begS,mkW,yW,j1,j2,j3,j4];done) | (simp [-qt,-qd,-ql,rgs,o3,s2,hev,begS,mkW,yW,j1,j2,j3,j4];rfl)) (by first | (simp [-qt,-qd,-ql,rgs,o3,s2,hev,begS,mkW,yW,j1,j2,j3,j4];done) | (simp [-qt,-qd,-ql,rgs,o3,s2,hev,begS,mkW,yW,j1,j2,j3,j4];rfl)) (by first | (simp;done) | (simp;omega)) (by first | (simp only [zW,LIM] at *; simp;omega) | (simp only [zW];simp;omega)) (by simp [iv,bv]) ?_) | (with_reducible refine zF (i:=2) [(0,[],[]),(1,[],[]),(2,[],[]),(3,[],[]),(4,[],[]),(5,[],[]),(6,[],[]),(7,[],[]),(8,[],[]),(9,[],[]),(10,[],[]),(11,[],[]),(12,[],[]),(13,[],[]),(14,[],[]),(15,[],[]),(16,[],[]),(17,[],[]),(18,[],[])] (by kernel_rfl) ?_) | (with_reducible refine zF (i:=4) [(0,[],[]),(1,[],[]),(2,[],[]),(3,[],[]),(4,[],[6]),(5,[],[]),(6,[],[]),(7,[],[]),(8,[],[]),(9,[],[]),(10,[],[])] (by kernel_rfl) ?_)) <;> simp [-qt,-qd,-ql,rgs,o3,s2,hev,begS,mkW,yW,j1,j2,j3,j4]) | ((first | (with_reducible refine zQ ?_ ?_) | (with_reducible refine zA ?_ ?_)) <;> intro qb <;> (have qp:=qb;try simp only [psq] at qp) <;> simp [-qt,-qd,-ql,rgs,o3,s2,hev,begS,mkW,yW,j1,j2,j3,j4,qb])
   refine ⟨rfl,⟨X1.setTop 2 (n1 + 7),?_,V2.newTop [] (by omega) (fun hm=>by have:=in2 _ hm;omega) ?_ (by simp) (by simp) (fun k hk _ hne => ?_) rfl rfl (fun j hj _ hne => ?_),fun j hj => ?_⟩,fun j hj hjp hjX => ?_⟩
   ·rw [zL];simp [uL,WI.setTop,cutS,begS,mkW]
   ·rw [zJ _ _ _ _ (by omega),zL];simp [zM5,cutS,mkW,yW]
   ·rcases lt15 hk with rfl | rfl | rfl | rfl | rfl | rfl | rfl | rfl | rfl | rfl | rfl | rfl | rfl | rfl | rfl <;> first | rfl | exact absurd rfl hne
   ·have:=in2 j hj
    rw [zJ _ _ _ _ (fun (e:j = p)=>p2 (e ▸ hj)),zJ _ _ _ _ (by omega),zJ _ _ _ _ hne,zJ _ _ _ _ (by omega)]
   ·rcases WI.setTop_ids hj with q | q
    ·rcases hid j q with r | r
     ·exact .inl r
     ·right;omega
    ·right;omega
   ·have hne:j ≠ X1.top 2:=fun e=>by
     rcases hid (X1.top 2) (WI.top_mem (by omega)) with r | r
     ·exact hjX (e ▸ r)
     ·omega
    rw [zJ _ _ _ _ hjp,zJ _ _ _ _ (by omega),zJ _ _ _ _ hne,zJ _ _ _ _ (by omega),hf1 j (by omega) hjp hjX]
    repeat rw [zJ _ _ _ _ (by omega)]
  ·have hb2:zJ3 w n = false:=by simpa using hb
   have hc:zM7 w ⟨n,er,ca,w.now⟩ = false:=by simp [zM7,hb2]
   have hW:cutW w ⟨n,er,ca,w.now⟩ = w:=by simp [cutW,hc]
   have hW2:begW w n = w:=by simp [begW,hb2]
   rw [hc,hW]
   rw [hb2]
   rw [hW2] at o2 V2
   try simp [-qt,-qd,-ql,rgs]
   repeat' first | done | ((first | ((with_reducible show vS _ _ _ _ _ _ _ _);refine zP rfl rfl (by decide) (by decide) (by first | (simp [-qt,-qd,-ql,rgs];done) | (simp [-qt,-qd,-ql,rgs];rfl)) (by first | (simp [-qt,-qd,-ql,rgs];done) | (simp [-qt,-qd,-ql,rgs];rfl)) (by first | (simp;done) | (simp;omega)) (by first | (simp only [zW,LIM] at *; simp;omega) | (simp only [zW];simp;omega)) (by simp [iv,bv]) ?_) | (with_reducible refine zF (i:=2) [(0,[],[]),(1,[],[]),(2,[],[]),(3,[],[]),(4,[],[]),(5,[],[]),(6,[],[]),(7,[],[]),(8,[],[]),(9,[],[]),(10,[],[]),(11,[],[]),(12,[],[]),(13,[],[]),(14,[],[]),(15,[],[]),(16,[],[]),(17,[],[]),(18,[],[])] (by kernel_rfl) ?_) | (with_reducible refine zF (i:=4) [(0,[],[]),(1,[],[]),(2,[],[]),(3,[],[]),(4,[],[6]),(5,[],[]),(6,[],[]),(7,[],[]),(8,[],[]),(9,[],[]),(10,[],[])] (by kernel_rfl) ?_)) <;> simp [-qt,-qd,-ql,rgs]) | ((first | (with_reducible refine zQ ?_ ?_) | (with_reducible refine zA ?_ ?_)) <;> intro qb <;> (have qp:=qb;try simp only [psq] at qp) <;> simp [-qt,-qd,-ql,rgs,qb])
   refine ⟨rfl,⟨X1,o2,V2,fun id hm=>by rcases hid id hm with r | r <;> first | exact .inl r | (right;omega)⟩,fun j hj hjp hjX => ?_⟩
   rw [hf1 j (by omega) hjp hjX]
   repeat rw [zJ _ _ _ _ (by omega)]
 ·have hf2:fits w.tree w.events ⟨n,er,ca,w.now⟩ = false:=by simpa using hf
  have hc:zM7 w ⟨n,er,ca,w.now⟩ = false:=by simp [zM7,hf2]
  have hW:cutW w ⟨n,er,ca,w.now⟩ = w:=by simp [cutW,hc]
  rw [hc,hW]
  try simp [-qt,-qd,-ql,rgs,o1,k1,hf2]
  repeat' first | done | ((first | ((with_reducible show vS _ _ _ _ _ _ _ _);refine zP rfl rfl (by decide) (by decide) (by first | (simp [-qt,-qd,-ql,rgs,o1,k1,hf2];done) | (simp [-qt,-qd,-ql,rgs,o1,k1,hf2];rfl)) (by first | (simp [-qt,-qd,-ql,rgs,o1,k1,hf2];done) | (simp [-qt,-qd,-ql,rgs,o1,k1,hf2];rfl)) (by first | (simp;done) | (simp;omega)) (by first | (simp only [zW,LIM] at *; simp;omega) | (simp only [zW];simp;omega)) (by simp [iv,bv]) ?_) | (with_reducible refine zF (i:=2) [(0,[],[]),(1,[],[]),(2,[],[]),(3,[],[]),(4,[],[]),(5,[],[]),(6,[],[]),(7,[],[]),(8,[],[]),(9,[],[]),(10,[],[]),(11,[],[]),(12,[],[]),(13,[],[]),(14,[],[]),(15,[],[]),(16,[],[]),(17,[],[]),(18,[],[])] (by kernel_rfl) ?_) | (with_reducible refine zF (i:=4) [(0,[],[]),(1,[],[]),(2,[],[]),(3,[],[]),(4,[],[6]),(5,[],[]),(6,[],[]),(7,[],[]),(8,[],[]),(9,[],[]),(10,[],[])] (by kernel_rfl) ?_)) <;> simp [-qt,-qd,-ql,rgs,o1,k1,hf2]) | ((first | (with_reducible refine zQ ?_ ?_) | (with_reducible refine zA ?_ ?_)) <;> intro qb <;> (have qp:=qb;try simp only [psq] at qp) <;> simp [-qt,-qd,-ql,rgs,o1,k1,hf2,qb])
  refine ⟨rfl,⟨X,by simp [k1,o0],V1.keep fun id hm=>by have:=hin id hm;(repeat rw [zJ _ _ _ _ (by omega)]),fun id hm=>.inl hm⟩,fun j hj hjp hjX => ?_⟩
  repeat rw [zJ _ _ _ _ (by omega)]
end Go.AE.Tryz
end
section
/- Contracts of the program's request to let the first timer ring. -/
set_option maxRecDepth 8000
set_option maxHeartbeats 4000000
namespace Go.AE.Tryz
open Go.Proofs
open List renaming map_take → qt,map_drop → qd,map_tail → ql
theorem m_DeleteTmr {id i:Nat} {xs:List Tmr} (hi:i < xs.length) (hl:xs.length ≤ 1048576):AC ctx.P 251 [.ref id 5 0 xs.length,.int .i64 i,.int .i64 ((i:Int) + 1)]
 (fun h _=>h id = some (.row 5 (xs.map zX)))
 (fun h nx r h' nx' => ∃ jd,r = .ref jd 5 0 (xs.eraseIdx i).length ∧ nx ≤ jd ∧ jd < nx' ∧ h' jd = some (.row 5 ((xs.eraseIdx i).map zX)) ∧ ∀ j,j < nx → j ≠ id → h' j = h j):=by
 refine AC.o okC Tryz.func251 rfl fun h nx hfr hnx hpre => ?_
 have i1:id < nx:=hnx id (by rw [hpre];simp)
 try simp [-qt,-qd,-ql,rgs,hpre]
 repeat' first | done | ((first | ((with_reducible show zT _ _ _ _ _ _);refine zB rfl fun _ => ?_) | ((with_reducible show yC _ _ _ _ _ _ _ _);refine vF rfl omA omA ?_) | ((with_reducible show yC _ _ _ _ _ _ _ _);refine yS rfl omA omA ?_) | ((with_reducible show yC _ _ _ _ _ _ _ _);refine vA rfl omA omA omA ?_) | ((with_reducible show yI _ _ _ _ _ _ _ _ _ _ _);refine vD rfl omA omA ?_) | ((with_reducible show yI _ _ _ _ _ _ _ _ _ _ _);refine yP rfl omA omA ?_) | ((with_reducible show yI _ _ _ _ _ _ _ _ _ _ _);refine yX rfl omA omA omA ?_) | ((with_reducible show vS _ _ _ _ _ _ _ _);refine zP rfl rfl (by decide) (by decide) (by first | (simp [-qt,-qd,-ql,rgs,hpre];done) | (simp [-qt,-qd,-ql,rgs,hpre];rfl)) (by first | (simp [-qt,-qd,-ql,rgs,hpre];done) | (simp [-qt,-qd,-ql,rgs,hpre];rfl)) (by first | (simp;done) | (simp;omega)) (by first | (simp only [zW,LIM] at *; simp;omega) | (simp only [zW];simp;omega)) (by simp [iv,bv]) ?_) | (with_reducible refine zF (i:=5) [(0,[],[]),(1,[],[]),(2,[],[]),(3,[],[]),(4,[],[]),(5,[],[]),(6,[],[]),(7,[],[])] (by kernel_rfl) ?_)) <;> simp [-qt,-qd,-ql,rgs,hpre]) | ((first | (with_reducible refine zA ?_ ?_)) <;> intro qb <;> (have qp:=qb;try simp only [psq] at qp) <;> simp [-qt,-qd,-ql,rgs,hpre,qb])
 refine run_slice3 ⟨_,xs.length,i,i + 1,_,(xs.length:Int),rfl,rfl,zM6 (by simp [zJ5]) (by simp [zJ5];omega) (by omega),rfl,by omega,by simp;omega,by simp,?_⟩
 have hne:((i:Int) == (i:Int) + 1) = false:=by simp;omega
 try simp [-qt,-qd,-ql,rgs,hpre,hne]
 repeat' first | done | ((first | ((with_reducible show zT _ _ _ _ _ _);refine zB rfl fun _ => ?_) | ((with_reducible show yC _ _ _ _ _ _ _ _);refine vF rfl omA omA ?_) | ((with_reducible show yC _ _ _ _ _ _ _ _);refine yS rfl omA omA ?_) | ((with_reducible show yC _ _ _ _ _ _ _ _);refine vA rfl omA omA omA ?_) | ((with_reducible show yI _ _ _ _ _ _ _ _ _ _ _);refine vD rfl omA omA ?_) | ((with_reducible show yI _ _ _ _ _ _ _ _ _ _ _);refine yP rfl omA omA ?_) | ((with_reducible show yI _ _ _ _ _ _ _ _ _ _ _);refine yX rfl omA omA omA ?_) | ((with_reducible show vS _ _ _ _ _ _ _ _);refine zP rfl rfl (by decide) (by decide) (by first | (simp [-qt,-qd,-ql,rgs,hpre,hne];done) | (simp [-qt,-qd,-ql,rgs,hpre,hne];rfl)) (by first | (simp [-qt,-qd,-ql,rgs,hpre,hne];done) | (simp [-qt,-qd,-ql,rgs,hpre,hne];rfl)) (by first | (simp;done) | (simp;omega)) (by first | (simp only [zW,LIM] at *; simp;omega) | (simp only [zW];simp;omega)) (by simp [iv,bv]) ?_) | (with_reducible refine zF (i:=5) [(0,[],[]),(1,[],[]),(2,[],[]),(3,[],[]),(4,[],[]),(5,[],[]),(6,[],[]),(7,[],[])] (by kernel_rfl) ?_)) <;> simp [-qt,-qd,-ql,rgs,hpre,hne]) | ((first | (with_reducible refine zA ?_ ?_)) <;> intro qb <;> (have qp:=qb;try simp only [psq] at qp) <;> simp [-qt,-qd,-ql,rgs,hpre,hne,qb])
 refine zO4 (l:=0) (h:=i) rfl (by simp [zJ5]) (by simp [zJ5]) (by omega) (by omega) ?_
 try simp [-qt,-qd,-ql,rgs,hpre]
 repeat' first | done | ((first | ((with_reducible show zT _ _ _ _ _ _);refine zB rfl fun _ => ?_) | ((with_reducible show yC _ _ _ _ _ _ _ _);refine vF rfl omA omA ?_) | ((with_reducible show yC _ _ _ _ _ _ _ _);refine yS rfl omA omA ?_) | ((with_reducible show yC _ _ _ _ _ _ _ _);refine vA rfl omA omA omA ?_) | ((with_reducible show yI _ _ _ _ _ _ _ _ _ _ _);refine vD rfl omA omA ?_) | ((with_reducible show yI _ _ _ _ _ _ _ _ _ _ _);refine yP rfl omA omA ?_) | ((with_reducible show yI _ _ _ _ _ _ _ _ _ _ _);refine yX rfl omA omA omA ?_) | ((with_reducible show vS _ _ _ _ _ _ _ _);refine zP rfl rfl (by decide) (by decide) (by first | (simp [-qt,-qd,-ql,rgs,hpre];done) | (simp [-qt,-qd,-ql,rgs,hpre];rfl)) (by first | (simp [-qt,-qd,-ql,rgs,hpre];done) | (simp [-qt,-qd,-ql,rgs,hpre];rfl)) (by first | (simp;done) | (simp;omega)) (by first | (simp only [zW,LIM] at *; simp;omega) | (simp only [zW];simp;omega)) (by simp [iv,bv]) ?_) | (with_reducible refine zF (i:=5) [(0,[],[]),(1,[],[]),(2,[],[]),(3,[],[]),(4,[],[]),(5,[],[]),(6,[],[]),(7,[],[])] (by kernel_rfl) ?_)) <;> simp [-qt,-qd,-ql,rgs,hpre]) | ((first | (with_reducible refine zA ?_ ?_)) <;> intro qb <;> (have qp:=qb;try simp only [psq] at qp) <;> simp [-qt,-qd,-ql,rgs,hpre,qb])
 refine zO4 (l:=i + 1) (h:=xs.length) rfl (by simp [zJ5];omega) (by simp [zJ5]) (by omega) (by omega) ?_
 try simp [-qt,-qd,-ql,rgs,hpre]
 repeat' first | done | ((first | ((with_reducible show zT _ _ _ _ _ _);refine zB rfl fun _ => ?_) | ((with_reducible show yC _ _ _ _ _ _ _ _);refine vF rfl omA omA ?_) | ((with_reducible show yC _ _ _ _ _ _ _ _);refine yS rfl omA omA ?_) | ((with_reducible show yC _ _ _ _ _ _ _ _);refine vA rfl omA omA omA ?_) | ((with_reducible show yI _ _ _ _ _ _ _ _ _ _ _);refine vD rfl omA omA ?_) | ((with_reducible show yI _ _ _ _ _ _ _ _ _ _ _);refine yP rfl omA omA ?_) | ((with_reducible show yI _ _ _ _ _ _ _ _ _ _ _);refine yX rfl omA omA omA ?_) | ((with_reducible show vS _ _ _ _ _ _ _ _);refine zP rfl rfl (by decide) (by decide) (by first | (simp [-qt,-qd,-ql,rgs,hpre];done) | (simp [-qt,-qd,-ql,rgs,hpre];rfl)) (by first | (simp [-qt,-qd,-ql,rgs,hpre];done) | (simp [-qt,-qd,-ql,rgs,hpre];rfl)) (by first | (simp;done) | (simp;omega)) (by first | (simp only [zW,LIM] at *; simp;omega) | (simp only [zW];simp;omega)) (by simp [iv,bv]) ?_) | (with_reducible refine zF (i:=5) [(0,[],[]),(1,[],[]),(2,[],[]),(3,[],[]),(4,[],[]),(5,[],[]),(6,[],[]),(7,[],[])] (by kernel_rfl) ?_)) <;> simp [-qt,-qd,-ql,rgs,hpre]) | ((first | (with_reducible refine zA ?_ ?_)) <;> intro qb <;> (have qp:=qb;try simp only [psq] at qp) <;> simp [-qt,-qd,-ql,rgs,hpre,qb])
 refine app_mid (ws:=xs.map zX) (ys:=(xs.map zX).drop (i + 1)) rfl rfl (by decide) (by decide) ?r1 ?r2 ?r3 ?r4 ?r5 ?_
 case r1=>exact hpre
 case r2 =>
  simp [hpre,-qd]
  exact ⟨by omega,List.take_of_length_le (by simp)⟩
 case r3=>simp;omega
 case r4=>simp only [zW];simp;omega
 case r5 =>
  simp only [List.all_eq_true]
  intro c hc x hx
  obtain ⟨y,_,rfl⟩:=List.mem_map.1 (List.mem_of_mem_drop hc)
  simp [zX] at hx
  rcases hx with rfl | rfl | rfl | rfl | rfl <;> rfl
 try simp [-qt,-qd,-ql,rgs,hpre]
 repeat' first | done | ((first | ((with_reducible show zT _ _ _ _ _ _);refine zB rfl fun _ => ?_) | ((with_reducible show yC _ _ _ _ _ _ _ _);refine vF rfl omA omA ?_) | ((with_reducible show yC _ _ _ _ _ _ _ _);refine yS rfl omA omA ?_) | ((with_reducible show yC _ _ _ _ _ _ _ _);refine vA rfl omA omA omA ?_) | ((with_reducible show yI _ _ _ _ _ _ _ _ _ _ _);refine vD rfl omA omA ?_) | ((with_reducible show yI _ _ _ _ _ _ _ _ _ _ _);refine yP rfl omA omA ?_) | ((with_reducible show yI _ _ _ _ _ _ _ _ _ _ _);refine yX rfl omA omA omA ?_) | ((with_reducible show vS _ _ _ _ _ _ _ _);refine zP rfl rfl (by decide) (by decide) (by first | (simp [-qt,-qd,-ql,rgs,hpre];done) | (simp [-qt,-qd,-ql,rgs,hpre];rfl)) (by first | (simp [-qt,-qd,-ql,rgs,hpre];done) | (simp [-qt,-qd,-ql,rgs,hpre];rfl)) (by first | (simp;done) | (simp;omega)) (by first | (simp only [zW,LIM] at *; simp;omega) | (simp only [zW];simp;omega)) (by simp [iv,bv]) ?_) | (with_reducible refine zF (i:=5) [(0,[],[]),(1,[],[]),(2,[],[]),(3,[],[]),(4,[],[]),(5,[],[]),(6,[],[]),(7,[],[])] (by kernel_rfl) ?_)) <;> simp [-qt,-qd,-ql,rgs,hpre]) | ((first | (with_reducible refine zA ?_ ?_)) <;> intro qb <;> (have qp:=qb;try simp only [psq] at qp) <;> simp [-qt,-qd,-ql,rgs,hpre,qb])
 have hbd:zJ5 0 (some (AV.int IntKind.i64 ((i:Int) + ((xs.length - (i + 1):Nat):Int)))) = some (xs.length - 1):=by
  simp only [zJ5];rw [if_pos (by omega)];congr 1;omega
 have hrw:xs.length = (List.take i (List.map zX xs) ++ (List.drop (i + 1) (List.map zX xs) ++ List.drop (i + (xs.length - (i + 1))) (List.map zX xs))).length:=by simp;omega
 refine slice_far (l:=xs.length - 1) (h:=xs.length) rfl hbd (by simp [zJ5]) (by omega) (zL ..) (by omega) ?_
 try simp [-qt,-qd,-ql,rgs]
 repeat' first | done | ((first | ((with_reducible show zT _ _ _ _ _ _);refine zB rfl fun _ => ?_) | ((with_reducible show yC _ _ _ _ _ _ _ _);refine vF rfl omA omA ?_) | ((with_reducible show yC _ _ _ _ _ _ _ _);refine yS rfl omA omA ?_) | ((with_reducible show yC _ _ _ _ _ _ _ _);refine vA rfl omA omA omA ?_) | ((with_reducible show yI _ _ _ _ _ _ _ _ _ _ _);refine vD rfl omA omA ?_) | ((with_reducible show yI _ _ _ _ _ _ _ _ _ _ _);refine yP rfl omA omA ?_) | ((with_reducible show yI _ _ _ _ _ _ _ _ _ _ _);refine yX rfl omA omA omA ?_) | ((with_reducible show vS _ _ _ _ _ _ _ _);refine zP rfl rfl (by decide) (by decide) (by first | (simp [-qt,-qd,-ql,rgs];done) | (simp [-qt,-qd,-ql,rgs];rfl)) (by first | (simp [-qt,-qd,-ql,rgs];done) | (simp [-qt,-qd,-ql,rgs];rfl)) (by first | (simp;done) | (simp;omega)) (by first | (simp only [zW,LIM] at *; simp;omega) | (simp only [zW];simp;omega)) (by simp [iv,bv]) ?_) | (with_reducible refine zF (i:=5) [(0,[],[]),(1,[],[]),(2,[],[]),(3,[],[]),(4,[],[]),(5,[],[]),(6,[],[]),(7,[],[])] (by kernel_rfl) ?_)) <;> simp [-qt,-qd,-ql,rgs]) | ((first | (with_reducible refine zA ?_ ?_)) <;> intro qb <;> (have qp:=qb;try simp only [psq] at qp) <;> simp [-qt,-qd,-ql,rgs,qb])
 refine ⟨_,rfl,_,zL ..,rfl,by omega,by decide,?_⟩
 try simp [-qt,-qd,-ql,rgs]
 repeat' first | done | ((first | ((with_reducible show zT _ _ _ _ _ _);refine zB rfl fun _ => ?_) | ((with_reducible show yC _ _ _ _ _ _ _ _);refine vF rfl omA omA ?_) | ((with_reducible show yC _ _ _ _ _ _ _ _);refine yS rfl omA omA ?_) | ((with_reducible show yC _ _ _ _ _ _ _ _);refine vA rfl omA omA omA ?_) | ((with_reducible show yI _ _ _ _ _ _ _ _ _ _ _);refine vD rfl omA omA ?_) | ((with_reducible show yI _ _ _ _ _ _ _ _ _ _ _);refine yP rfl omA omA ?_) | ((with_reducible show yI _ _ _ _ _ _ _ _ _ _ _);refine yX rfl omA omA omA ?_) | ((with_reducible show vS _ _ _ _ _ _ _ _);refine zP rfl rfl (by decide) (by decide) (by first | (simp [-qt,-qd,-ql,rgs];done) | (simp [-qt,-qd,-ql,rgs];rfl)) (by first | (simp [-qt,-qd,-ql,rgs];done) | (simp [-qt,-qd,-ql,rgs];rfl)) (by first | (simp;done) | (simp;omega)) (by first | (simp only [zW,LIM] at *; simp;omega) | (simp only [zW];simp;omega)) (by simp [iv,bv]) ?_) | (with_reducible refine zF (i:=5) [(0,[],[]),(1,[],[]),(2,[],[]),(3,[],[]),(4,[],[]),(5,[],[]),(6,[],[]),(7,[],[])] (by kernel_rfl) ?_)) <;> simp [-qt,-qd,-ql,rgs]) | ((first | (with_reducible refine zA ?_ ?_)) <;> intro qb <;> (have qp:=qb;try simp only [psq] at qp) <;> simp [-qt,-qd,-ql,rgs,qb])
 have hA:(List.take i (List.map zX xs) ++ List.drop (i + 1) (List.map zX xs)).length = xs.length - 1:=by simp;omega
 refine ⟨nx + 19,⟨rfl,by rw [List.length_eraseIdx,if_pos hi];omega⟩,by omega,by omega,?_,fun j hj hne2 => ?_⟩
 ·rw [if_pos rfl,← List.append_assoc,List.take_append_of_le_length (by omega),List.take_of_length_le (by omega),List.eraseIdx_eq_take_drop_succ,List.map_append,List.map_take,List.map_drop]
 ·rw [if_neg (by omega),if_neg (by omega),if_neg hne2]
theorem m_forget {X:WI} {w:Wld} {p:Nat} {s:Int} (ht:vR w.timers = true):AC ctx.P 169 [.ptr p 6,.int .i64 s]
 (fun h _=>h p = some (.obj (uL X w)) ∧ WV h X w) (ChgQ p X (zQ0 w (uC w.timers s)) (.bool (decide (0 ≤ yM (uE w.timers s).list s)))):=by
 obtain ⟨s1,s2⟩:=tmsOk_stop (s:=s) ht
 obtain ⟨-,u2,-,-,-,-⟩:=zC7.1 s1
 have hstop:=fun X p=>m_stop (X:=X) (p:=p) (w:=w) (s:=s) ht
 have hcat:=c_tmsAt (F:=FF) (t:=uE w.timers s) (s:=s)
 have hl:=zB4 (uE w.timers s).list s
 have hW:uC w.timers s = dropT (uE w.timers s) s:=rfl
 rw [hW]
 generalize uE w.timers s = t1 at *
 refine AC.o okC Tryz.func169 rfl fun h nx hfr hnx hpre => ?_
 obtain ⟨o1,V1⟩:=hpre
 have hp:p < nx:=hnx p (by rw [o1];simp)
 try simp [-qt,-qd,-ql,rgs]
 repeat' first | done | ((first | (with_reducible refine zA ?_ ?_)) <;> intro qb <;> (have qp:=qb;try simp only [psq] at qp) <;> simp [-qt,-qd,-ql,rgs,qb])
 refine vC (hstop X p) ⟨o1,V1⟩ ?_
 rintro r h1 n1 ⟨rfl,⟨X1,o2,V2,hid⟩,hf1⟩ hle1 hfr1
 dsimp only at hid hf1 hle1
 have hpX:=V2.obj o2
 have hin:∀ j ∈ X1.ids,j < n1:=fun j hj=>by rcases hid j hj with q | q;have:=V1.lt hnx j q;omega;omega
 have t5:=V2.top 5 (by omega)
 have t6:=V2.top 6 (by omega)
 simp only [zM5] at t5 t6
 have o0:=o2
 simp only [uL] at o2
 have l6:=hin _ (WI.top_mem (X:=X1) (k:=6) (by omega))
 have k1:∀ k,(p = n1 + k) = False:=fun k=>by simp only [eq_iff_iff,iff_false];omega
 have k3:∀ k,(X1.top 6 = n1 + k) = False:=fun k=>by simp only [eq_iff_iff,iff_false];omega
 have k5:(p = X1.top 6) = False:=by simp only [eq_iff_iff,iff_false];exact fun e=>hpX (e ▸ WI.top_mem (by omega))
 try simp [-qt,-qd,-ql,rgs,o2]
 repeat' first | done | ((first | (with_reducible refine zA ?_ ?_)) <;> intro qb <;> (have qp:=qb;try simp only [psq] at qp) <;> simp [-qt,-qd,-ql,rgs,o2,qb])
 refine yT hcat (.int _ _) ?hb ?_
 case hb=>exact .cons (.agg1 (.cons (.ref0 t5 (by simp) (by simp)) (.cons (.ref0 t6 (by simp) (by simp)) (.cons (.same _) .nil)))) (.cons (.same _) .nil)
 by_cases h0:0 ≤ yM t1.list s
 ·have hn:(yM t1.list s < 0) = False:=by simp only [eq_iff_iff,iff_false];omega
  obtain ⟨i,hi⟩:∃ i:Nat,yM t1.list s = (i:Int):=⟨(yM t1.list s).toNat,by omega⟩
  have hD:dropT t1 s = ⟨t1.heap,t1.list.eraseIdx i,t1.next⟩:=by simp [dropT,h0,hi]
  have hd:decide (0 ≤ yM t1.list s) = true:=by simp [h0]
  have ew:IntKind.i64.wrap ((i:Int) + 1) = (i:Int) + 1:=zI (by omega)
  rw [hD,hd]
  rw [hi] at hn ⊢
  have hil:i < t1.list.length:=by omega
  try simp [-qt,-qd,-ql,rgs,o2,hn,ew]
  repeat' first | done | ((first | (with_reducible refine zA ?_ ?_)) <;> intro qb <;> (have qp:=qb;try simp only [psq] at qp) <;> simp [-qt,-qd,-ql,rgs,o2,hn,ew,qb])
  refine vC (m_DeleteTmr hil (by omega)) (by simpa using t6) ?_
  rintro r h2 n2 ⟨jd,rfl,hj1,hj2,hrow,hf⟩ hle2 hfr2
  dsimp only at hj1 hf hle2
  have o3:=hf p (by omega) (fun e=>hpX (e ▸ WI.top_mem (by omega)))
  rw [o2] at o3
  try simp [-qt,-qd,-ql,rgs,o3]
  repeat' first | done | ((first | (with_reducible refine zA ?_ ?_)) <;> intro qb <;> (have qp:=qb;try simp only [psq] at qp) <;> simp [-qt,-qd,-ql,rgs,o3,qb])
  refine ⟨rfl,⟨X1.setTop 6 jd,?_,V2.newTop [] (by omega) (fun hm=>by have:=hin _ hm;omega) ?_ (by simp) (by simp) (fun k hk _ hne => ?_) rfl rfl (fun j hj _ hne => ?_),fun j hj => ?_⟩,fun j hj hjp hjX => ?_⟩
  ·rw [zL];simp [uL,WI.setTop,zQ0,mkW]
  ·exact (zJ _ _ _ _ (by omega)).trans hrow
  ·rcases lt15 hk with rfl | rfl | rfl | rfl | rfl | rfl | rfl | rfl | rfl | rfl | rfl | rfl | rfl | rfl | rfl <;> first | rfl | exact absurd rfl hne
  ·have:=hin j hj
   rw [zJ _ _ _ _ (fun (e:j = p)=>hpX (e ▸ hj)),hf j (by omega) hne]
  ·rcases WI.setTop_ids hj with q | q
   ·rcases hid j q with r | r
    ·exact .inl r
    ·right;omega
   ·right;omega
  ·have hne:j ≠ X1.top 6:=fun e=>by
    rcases hid (X1.top 6) (WI.top_mem (by omega)) with r | r
    ·exact hjX (e ▸ r)
    ·omega
   rw [zJ _ _ _ _ hjp,hf j (by omega) hne]
   exact hf1 j (by omega) hjp hjX
 ·have hn:(yM t1.list s < 0) = True:=by simp only [eq_iff_iff,iff_true];omega
  have hD:dropT t1 s = t1:=by simp [dropT,h0]
  have hd:decide (0 ≤ yM t1.list s) = false:=by simpa using h0
  rw [hD,hd]
  try simp [-qt,-qd,-ql,rgs,hn]
  repeat' first | done | ((first | (with_reducible refine zA ?_ ?_)) <;> intro qb <;> (have qp:=qb;try simp only [psq] at qp) <;> simp [-qt,-qd,-ql,rgs,hn,qb])
  exact ⟨rfl,⟨X1,o0,V2,fun id hm=>by rcases hid id hm with r | r <;> first | exact .inl r | (right;omega)⟩,fun j hj hjp hjX=>hf1 j (by omega) hjp hjX⟩
theorem m_fire {X:WI} {w:Wld} {p:Nat} {now:Int} (ht:vR w.timers = true):AC ctx.P 168 [.ptr p 6,.int .i64 now]
 (fun h _=>h p = some (.obj (uL X w)) ∧ WV h X w) (ChgQ p X (zQ0 w (uK w.timers now)) (.tup [.agg (zX (zJ1 w.timers now)),.bool (zH2 w.timers now)])):=by
 obtain ⟨-,u2,⟨u3,-,-⟩,-,-,-⟩:=zC7.1 ht
 refine AC.o okC Tryz.func168 rfl fun h nx hfr hnx hpre => ?_
 obtain ⟨o1,V1⟩:=hpre
 have hp:p < nx:=hnx p (by rw [o1];simp)
 have hpX:=V1.obj o1
 have hin:=V1.lt hnx
 have t5:=V1.top 5 (by omega)
 have t6:=V1.top 6 (by omega)
 simp only [zM5] at t5 t6
 have o0:=o1
 simp only [uL] at o1
 have l5:=hin _ (WI.top_mem (X:=X) (k:=5) (by omega))
 have l6:=hin _ (WI.top_mem (X:=X) (k:=6) (by omega))
 have k1:∀ k,(p = nx + k) = False:=fun k=>by simp only [eq_iff_iff,iff_false];omega
 have k2:∀ k,(X.top 5 = nx + k) = False:=fun k=>by simp only [eq_iff_iff,iff_false];omega
 have k3:∀ k,(X.top 6 = nx + k) = False:=fun k=>by simp only [eq_iff_iff,iff_false];omega
 have k4:(p = nx) = False:=by simp only [eq_iff_iff,iff_false];omega
 have k5:(X.top 5 = nx) = False:=by simp only [eq_iff_iff,iff_false];omega
 have k6:(X.top 6 = nx) = False:=by simp only [eq_iff_iff,iff_false];omega
 by_cases hl:w.timers.heap.length = 0
 ·have hC:zH2 w.timers now = false:=by simp [zH2,hl]
  have hT:uK w.timers now = w.timers:=by simp [uK,hC]
  have hR:zJ1 w.timers now = default:=by simp [zJ1,hC]
  have hlp:((w.timers.heap.length:Int) == 0) = true:=by rw [hl];rfl
  rw [hC,hT,hR,setT_same]
  try simp [-qt,-qd,-ql,rgs,o1,hlp,k1,k2,k3,k4,k5,k6]
  repeat' first | done | ((first | ((with_reducible show zT _ _ _ _ _ _);refine zB rfl fun _ => ?_) | ((with_reducible show zH _ _ _ _ _ _ _);refine zC rfl omA omA ?_) | (with_reducible refine zF (i:=3) [(0,[],[]),(1,[],[]),(2,[],[]),(3,[],[17]),(4,[],[]),(5,[],[]),(6,[],[17]),(7,[],[]),(8,[],[]),(9,[],[]),(10,[],[17]),(11,[],[]),(12,[],[]),(13,[],[17]),(14,[.tmp 28],[17]),(15,[],[]),(16,[],[17]),(17,[],[]),(18,[],[])] (by kernel_rfl) ?_)) <;> simp [-qt,-qd,-ql,rgs,o1,hlp,k1,k2,k3,k4,k5,k6]) | ((first | (with_reducible refine zE ?_ ?_) | (with_reducible refine zA ?_ ?_)) <;> intro qb <;> (have qp:=qb;try simp only [psq] at qp) <;> simp [-qt,-qd,-ql,rgs,o1,hlp,k1,k2,k3,k4,k5,k6,qb])
  exact ⟨rfl,⟨X,by simp [k1,k4,o0],V1.keep fun id hm=>by have:=hin id hm;(repeat rw [zJ _ _ _ _ (by omega)]),fun id hm=>.inl hm⟩,fun j hj _ _=>by repeat rw [zJ _ _ _ _ (by omega)]⟩
 ·have hlp:((w.timers.heap.length:Int) == 0) = false:=beq_eq_false_iff_ne.2 (by omega)
  obtain ⟨f1,f2,f3⟩:=fire_at ht hl
  have hlt:=zB4 w.timers.list (gt w.timers.heap 0).seq
  have hg0:(w.timers.heap.map yD)[0]? = some (yD (gt w.timers.heap 0)):=by rw [List.getElem?_map,show (0:Nat) = (0:Int).toNat from rfl,zF6 (by omega) (by omega)];rfl
  have hg:(w.timers.list.map zX)[(yM w.timers.list (gt w.timers.heap 0).seq).toNat]? = some (zX (vI w.timers)):=by rw [List.getElem?_map,zF6 f1 hlt];rfl
  by_cases hd:isDue now (gt w.timers.heap 0).due = true
  ·have hC:zH2 w.timers now = true:=by simp [zH2,hl,hd]
   have hT:uK w.timers now = uE w.timers (gt w.timers.heap 0).seq:=by simp [uK,hC]
   have hR:zJ1 w.timers now = vI w.timers:=by simp [zJ1,hC]
   rw [hC,hT,hR]
   try simp [-qt,-qd,-ql,rgs,o1,t5,hlp,hd,yD,k1,k2,k3,k4,k5,k6]
   repeat' first | done | ((first | ((with_reducible show zT _ _ _ _ _ _);refine zB rfl fun _ => ?_) | ((with_reducible show zH _ _ _ _ _ _ _);refine zC rfl omA omA ?_) | ((with_reducible show zG _ _ _ 134 _ _);refine zD (c_IsDue) ?_) | (((with_reducible show zH _ _ _ _ (.ref _ _ _ _) _ _);refine yK rfl (by omega) (by omega) ?_)) | (((with_reducible show zQ8 _ _ _ _ _ _ _ _);refine zC5 hg0 ?_)) | (with_reducible refine zF (i:=3) [(0,[],[]),(1,[],[]),(2,[],[]),(3,[],[17]),(4,[],[]),(5,[],[]),(6,[],[17]),(7,[],[]),(8,[],[]),(9,[],[]),(10,[],[17]),(11,[],[]),(12,[],[]),(13,[],[17]),(14,[.tmp 28],[17]),(15,[],[]),(16,[],[17]),(17,[],[]),(18,[],[])] (by kernel_rfl) ?_)) <;> simp [-qt,-qd,-ql,rgs,o1,t5,hlp,hd,yD,k1,k2,k3,k4,k5,k6]) | ((first | (with_reducible refine zE ?_ ?_) | (with_reducible refine zA ?_ ?_)) <;> intro qb <;> (have qp:=qb;try simp only [psq] at qp) <;> simp [-qt,-qd,-ql,rgs,o1,t5,hlp,hd,yD,k1,k2,k3,k4,k5,k6,qb])
   refine ⟨zO hnx _,?_⟩
   refine yT (c_tmsAt (F:=FF) (t:=w.timers) (s:=(gt w.timers.heap 0).seq)) (.int _ _) ?hb ?_
   case hb=>exact .cons (.agg1 (.cons (.ref0 (by simpa [k5] using t5) (by simp) (by simp)) (.cons (.ref0 (by simpa [k6] using t6) (by simp) (by simp)) (.cons (.same _) .nil)))) (.cons (.same _) .nil)
   try simp [-qt,-qd,-ql,rgs,o1,t6,f3,zX,k1,k2,k3,k4,k5,k6,zO hnx]
   repeat' first | done | ((first | ((with_reducible show zT _ _ _ _ _ _);refine zB rfl fun _ => ?_) | ((with_reducible show zH _ _ _ _ _ _ _);refine zC rfl omA omA ?_) | (((with_reducible show zH _ _ _ _ (.ref _ _ _ _) _ _);refine yK rfl (by omega) (by omega) ?_)) | (((with_reducible show zQ8 _ _ _ _ _ _ _ _);refine zC5 hg ?_)) | (with_reducible refine zF (i:=3) [(0,[],[]),(1,[],[]),(2,[],[]),(3,[],[17]),(4,[],[]),(5,[],[]),(6,[],[17]),(7,[],[]),(8,[],[]),(9,[],[]),(10,[],[17]),(11,[],[]),(12,[],[]),(13,[],[17]),(14,[.tmp 28],[17]),(15,[],[]),(16,[],[17]),(17,[],[]),(18,[],[])] (by kernel_rfl) ?_)) <;> simp [-qt,-qd,-ql,rgs,o1,t6,f3,zX,k1,k2,k3,k4,k5,k6,zO hnx]) | ((first | (with_reducible refine zE ?_ ?_) | (with_reducible refine zA ?_ ?_)) <;> intro qb <;> (have qp:=qb;try simp only [psq] at qp) <;> simp [-qt,-qd,-ql,rgs,o1,t6,f3,zX,k1,k2,k3,k4,k5,k6,zO hnx,qb])
   refine vC (m_stop (X:=X) (p:=p) (w:=w) (s:=(gt w.timers.heap 0).seq) ht) ⟨by simp [k1,k4,o0],V1.keep fun id hm=>by have:=hin id hm;dsimp only;repeat rw [zJ _ _ _ _ (by omega)]⟩ ?_
   rintro r h1 n1 ⟨rfl,⟨X1,o2,V2,hid⟩,hf1⟩ hle1 hfr1
   dsimp only at hid hf1 hle1
   have z0:=hf1 nx (by omega) (by omega) (fun hm=>by have:=hin _ hm;omega)
   have z6:=hf1 (nx + 37) (by omega) (by omega) (fun hm=>by have:=hin _ hm;omega)
   have hX0:nx ∉ X1.ids:=fun hm=>by rcases hid _ hm with r | r;(have:=hin _ r;omega);omega
   simp at z0 z6
   try simp [-qt,-qd,-ql,rgs,z0,z6]
   repeat' first | done | ((first | ((with_reducible show zT _ _ _ _ _ _);refine zB rfl fun _ => ?_) | ((with_reducible show zH _ _ _ _ _ _ _);refine zC rfl omA omA ?_) | (with_reducible refine zF (i:=3) [(0,[],[]),(1,[],[]),(2,[],[]),(3,[],[17]),(4,[],[]),(5,[],[]),(6,[],[17]),(7,[],[]),(8,[],[]),(9,[],[]),(10,[],[17]),(11,[],[]),(12,[],[]),(13,[],[17]),(14,[.tmp 28],[17]),(15,[],[]),(16,[],[17]),(17,[],[]),(18,[],[])] (by kernel_rfl) ?_)) <;> simp [-qt,-qd,-ql,rgs,z0,z6]) | ((first | (with_reducible refine zE ?_ ?_) | (with_reducible refine zA ?_ ?_)) <;> intro qb <;> (have qp:=qb;try simp only [psq] at qp) <;> simp [-qt,-qd,-ql,rgs,z0,z6,qb])
   refine ⟨by simp [zX,f3],⟨X1,by rw [zJ _ _ _ _ (by omega)];exact o2,V2.keep fun id hm=>zJ _ _ _ _ (fun e=>hX0 (e ▸ hm)),fun id hm=>by rcases hid id hm with r | r <;> first | exact .inl r | (right;omega)⟩,fun j hj hjp hjX => ?_⟩
   rw [zJ _ _ _ _ (by omega),hf1 j (by omega) hjp hjX]
   repeat rw [zJ _ _ _ _ (by omega)]
  ·have hdf:isDue now (gt w.timers.heap 0).due = false:=by simpa using hd
   have hC:zH2 w.timers now = false:=by simp [zH2,hdf]
   have hT:uK w.timers now = w.timers:=by simp [uK,hC]
   have hR:zJ1 w.timers now = default:=by simp [zJ1,hC]
   rw [hC,hT,hR,setT_same]
   try simp [-qt,-qd,-ql,rgs,o1,t5,hlp,hdf,yD,k1,k2,k3,k4,k5,k6]
   repeat' first | done | ((first | ((with_reducible show zT _ _ _ _ _ _);refine zB rfl fun _ => ?_) | ((with_reducible show zH _ _ _ _ _ _ _);refine zC rfl omA omA ?_) | ((with_reducible show zG _ _ _ 134 _ _);refine zD (c_IsDue) ?_) | (((with_reducible show zH _ _ _ _ (.ref _ _ _ _) _ _);refine yK rfl (by omega) (by omega) ?_)) | (((with_reducible show zQ8 _ _ _ _ _ _ _ _);refine zC5 hg0 ?_)) | (with_reducible refine zF (i:=3) [(0,[],[]),(1,[],[]),(2,[],[]),(3,[],[17]),(4,[],[]),(5,[],[]),(6,[],[17]),(7,[],[]),(8,[],[]),(9,[],[]),(10,[],[17]),(11,[],[]),(12,[],[]),(13,[],[17]),(14,[.tmp 28],[17]),(15,[],[]),(16,[],[17]),(17,[],[]),(18,[],[])] (by kernel_rfl) ?_)) <;> simp [-qt,-qd,-ql,rgs,o1,t5,hlp,hdf,yD,k1,k2,k3,k4,k5,k6]) | ((first | (with_reducible refine zE ?_ ?_) | (with_reducible refine zA ?_ ?_)) <;> intro qb <;> (have qp:=qb;try simp only [psq] at qp) <;> simp [-qt,-qd,-ql,rgs,o1,t5,hlp,hdf,yD,k1,k2,k3,k4,k5,k6,qb])
   exact ⟨rfl,⟨X,by simp [k1,k4,o0],V1.keep fun id hm=>by have:=hin id hm;(repeat rw [zJ _ _ _ _ (by omega)]),fun id hm=>.inl hm⟩,fun j hj _ _=>by repeat rw [zJ _ _ _ _ (by omega)]⟩
theorem c_Readied {k:Tsk} {reg:Int} (hpc:zD2 k = true → -9223372036854775808 ≤ k.pc ∧ k.pc < 9223372036854775807):PC ctx.P 170 [.agg (yR k),.int .i64 reg] (.agg (yR (uY k reg))):=by
 by_cases hk:zD2 k = true
 ·have ew:IntKind.i64.wrap (k.pc + 1) = k.pc + 1:=zI (by have:=hpc hk;omega)
  by_cases hs:k.state = 2
  ·have e:uY k reg = k:=by simp [uY,hk,hs]
   rw [e]
   have hsb:(k.state == 2) = true:=by simpa using hs
   refine PC.o okC Tryz.func170 rfl (.agg _ (zG4 k)) fun h nx hnx => ?_
   try simp [-qt,-qd,-ql,rgs,hk,hsb,ew,yR]
   repeat' first | done | ((first | ((with_reducible show zG _ _ _ 252 _ _);refine zD (zL4 (t:=k)) ?_)) <;> simp [-qt,-qd,-ql,rgs,hk,hsb,ew,yR]) | ((first | (with_reducible refine zE ?_ ?_) | (with_reducible refine zA ?_ ?_)) <;> intro qb <;> (have qp:=qb;try simp only [psq] at qp) <;> simp [-qt,-qd,-ql,rgs,hk,hsb,ew,yR,qb])
  ·have hsb:(k.state == 2) = false:=by simpa using hs
   by_cases hn:zD2 (zJ2 k reg) = true
   ·have e:uY k reg = zJ2 k reg:=by simp [uY,hk,hs,hn]
    have hc:=zL4 (t:=zJ2 k reg)
    rw [hn] at hc
    rw [e]
    refine PC.o okC Tryz.func170 rfl (.agg _ (zG4 _)) fun h nx hnx => ?_
    try simp [-qt,-qd,-ql,rgs,hk,hsb,ew,yR,zJ2]
    repeat' first | done | ((first | ((with_reducible show zG _ _ _ 252 _ _);refine zD (zL4 (t:=k)) ?_)) <;> simp [-qt,-qd,-ql,rgs,hk,hsb,ew,yR,zJ2]) | ((first | (with_reducible refine zE ?_ ?_) | (with_reducible refine zA ?_ ?_)) <;> intro qb <;> (have qp:=qb;try simp only [psq] at qp) <;> simp [-qt,-qd,-ql,rgs,hk,hsb,ew,yR,zJ2,qb])
    refine zD hc ?_
    try simp [-qt,-qd,-ql,rgs,hsb,yR,zJ2]
    repeat' first | done | ((first | (with_reducible refine zE ?_ ?_) | (with_reducible refine zA ?_ ?_)) <;> intro qb <;> (have qp:=qb;try simp only [psq] at qp) <;> simp [-qt,-qd,-ql,rgs,hsb,yR,zJ2,qb])
   ·have hnf:zD2 (zJ2 k reg) = false:=by simpa using hn
    have e:uY k reg = k:=by simp [uY,hk,hs,hnf]
    rw [e]
    refine PC.o okC Tryz.func170 rfl (.agg _ (zG4 k)) fun h nx hnx => ?_
    have hc:=zL4 (t:=zJ2 k reg)
    rw [hnf] at hc
    try simp [-qt,-qd,-ql,rgs,hk,hsb,ew,yR]
    repeat' first | done | ((first | ((with_reducible show zG _ _ _ 252 _ _);refine zD (zL4 (t:=k)) ?_)) <;> simp [-qt,-qd,-ql,rgs,hk,hsb,ew,yR]) | ((first | (with_reducible refine zE ?_ ?_) | (with_reducible refine zA ?_ ?_)) <;> intro qb <;> (have qp:=qb;try simp only [psq] at qp) <;> simp [-qt,-qd,-ql,rgs,hk,hsb,ew,yR,qb])
    refine zD hc ?_
    try simp [-qt,-qd,-ql,rgs,hsb,yR,zJ2]
    repeat' first | done | ((first | (with_reducible refine zE ?_ ?_) | (with_reducible refine zA ?_ ?_)) <;> intro qb <;> (have qp:=qb;try simp only [psq] at qp) <;> simp [-qt,-qd,-ql,rgs,hsb,yR,zJ2,qb])
 ·have hkf:zD2 k = false:=by simpa using hk
  have e:uY k reg = default:=by simp [uY,hkf]
  rw [e]
  refine PC.o okC Tryz.func170 rfl (.agg _ (zG4 _)) fun h nx hnx => ?_
  try simp [-qt,-qd,-ql,rgs,hkf,yR]
  repeat' first | done | ((first | ((with_reducible show zG _ _ _ 252 _ _);refine zD (zL4 (t:=k)) ?_)) <;> simp [-qt,-qd,-ql,rgs,hkf,yR]) | ((first | (with_reducible refine zE ?_ ?_) | (with_reducible refine zA ?_ ?_)) <;> intro qb <;> (have qp:=qb;try simp only [psq] at qp) <;> simp [-qt,-qd,-ql,rgs,hkf,yR,qb])
  trivial
theorem d_Drain {w:Wld} (hw:zA8 w = true):DoOk ctx.P 83 [] w (zE2 w) (zP5 w):=by
 have he:=wldOk_ev hw
 have ht:=zB3 he
 have hs:vP w.spread w.tree = true:=(zH8 hw).2.2.2.2.1
 have htm:vR w.timers = true:=(zH8 hw).2.2.2.2.2.2.1
 have htl:w.timers.list.all (uA w) = true:=(zH8 hw).2.2.2.2.2.2.2.1
 have hrl:w.rang.length ≤ 2000:=by simp only [zA8,Bool.and_eq_true,decide_eq_true_eq] at hw;exact hw.2.2.2.2.2.2.2.2.2.2.2.2.2.2.2.2.1
 have hle:=events_len he
 have hwk:w.spread.work.length ≤ 240:=by simp only [vP,Bool.and_eq_true,decide_eq_true_eq] at hs;exact hs.2.1
 have hT1:=fireT_ok (now:=w.now) htm
 intro p X
 refine AC.o okC Tryz.func83 rfl fun h nx hfr hnx hpre => ?_
 obtain ⟨o1,V1,-⟩:=hpre
 have hp:p < nx:=hnx p (by rw [o1];simp)
 have hpX:=V1.obj o1
 have hin:=V1.lt hnx
 have o0:=o1
 simp only [uL] at o1
 have k0:∀ k,(p = nx + k) = False:=fun k=>by simp only [eq_iff_iff,iff_false];omega
 try simp [-qt,-qd,-ql,rgs,o1,k0,zO hnx]
 repeat' first | done | ((first | ((with_reducible show zT _ _ _ _ _ _);refine zB rfl fun _ => ?_) | ((with_reducible show zH _ _ _ _ _ _ _);refine zC rfl omA omA ?_) | ((with_reducible show vS _ _ _ _ _ _ _ _);refine zP rfl rfl (by decide) (by decide) (by first | (simp [-qt,-qd,-ql,rgs,o1,k0,zO hnx];done) | (simp [-qt,-qd,-ql,rgs,o1,k0,zO hnx];rfl)) (by first | (simp [-qt,-qd,-ql,rgs,o1,k0,zO hnx];done) | (simp [-qt,-qd,-ql,rgs,o1,k0,zO hnx];rfl)) (by first | (simp;done) | (simp;omega)) (by first | (simp only [zW,LIM] at *; simp;omega) | (simp only [zW];simp;omega)) (by simp [iv,bv]) ?_) | (with_reducible refine zF (i:=1) [(0,[],[]),(1,[],[]),(2,[],[]),(3,[],[]),(4,[],[]),(5,[],[]),(6,[],[11]),(7,[],[11]),(8,[],[]),(9,[],[]),(10,[],[]),(11,[],[]),(12,[],[]),(13,[],[])] (by kernel_rfl) ?_) | (with_reducible refine zF (i:=6) [(0,[],[]),(1,[],[]),(2,[],[]),(3,[],[]),(4,[],[]),(5,[],[])] (by kernel_rfl) ?_) | (with_reducible refine zF (i:=9) [(0,[],[]),(1,[],[]),(2,[],[]),(3,[],[]),(4,[],[]),(5,[],[])] (by kernel_rfl) ?_) | (with_reducible refine zF (i:=10) [(0,[],[]),(1,[],[]),(2,[],[]),(3,[],[8]),(4,[],[]),(5,[],[8]),(6,[],[]),(7,[],[8]),(8,[],[]),(9,[],[])] (by kernel_rfl) ?_) | (with_reducible refine zF (i:=12) [(0,[],[]),(1,[],[]),(2,[],[]),(3,[],[]),(4,[],[]),(5,[],[]),(6,[],[]),(7,[.tmp 61,.tmp 63],[]),(8,[],[]),(9,[],[])] (by kernel_rfl) ?_) | (with_reducible refine zF (i:=15) [(0,[],[]),(1,[],[]),(2,[],[]),(3,[],[]),(4,[],[7]),(5,[],[]),(6,[],[]),(7,[],[]),(8,[],[]),(9,[],[]),(10,[],[]),(11,[],[])] (by kernel_rfl) ?_)) <;> simp [-qt,-qd,-ql,rgs,o1,k0,zO hnx]) | ((first | (with_reducible refine zE ?_ ?_) | (with_reducible refine zA ?_ ?_)) <;> intro qb <;> (have qp:=qb;try simp only [psq] at qp) <;> simp [-qt,-qd,-ql,rgs,o1,k0,zO hnx,qb])
 refine vC (m_fire (X:=X) (p:=p) (w:=w) (now:=w.now) htm) ⟨by simpa using o0,V1⟩ ?_
 rintro r h1 n1 ⟨rfl,⟨X1,o2,V2,hid⟩,hf1⟩ hle1 hfr1
 dsimp only at hid hf1 hle1
 have hin1:∀ j ∈ X1.ids,j < n1:=fun j hj=>by rcases hid j hj with r | r;(have:=hin j r;omega);omega
 have k1:∀ k,(p = n1 + k) = False:=fun k=>by simp only [eq_iff_iff,iff_false];omega
 have k2:∀ k,(n1 + k = p) = False:=fun k=>by simp only [eq_iff_iff,iff_false];omega
 have n12:nx + 12 ∉ X1.ids:=fun hm=>by rcases hid _ hm with r | r;(have:=hin _ r;omega);omega
 have nX1:∀ j,j < nx → j ∉ X.ids → j ∉ X1.ids:=fun j hj hjX hm=>by rcases hid j hm with r | r;(exact hjX r);omega
 by_cases hC:zH2 w.timers w.now = true
 ·have hl:w.timers.heap.length ≠ 0:=by intro e;simp [zH2,e] at hC
  obtain ⟨f1,f2,f3⟩:=fire_at htm hl
  have hlt:=zB4 w.timers.list (gt w.timers.heap 0).seq
  have hit:uA w (vI w.timers) = true:=List.all_eq_true.1 htl _ (zD0 f1 hlt)
  have hR:zJ1 w.timers w.now = vI w.timers:=by simp [zJ1,hC]
  have hB:zP5 w = true:=hC
  rw [hB,hR,hC]
  by_cases h0:(vI w.timers).what = 0
  ·have hW:zE2 w = cutW (zQ0 w (uC (uK w.timers w.now) (vI w.timers).seq)) (ringEv w (vI w.timers)):=by unfold zE2;rw [if_pos hC,if_pos h0]
   have hb0:((vI w.timers).what == 0) = true:=by simpa using h0
   rw [hW]
   generalize vI w.timers = x at *
   generalize uK w.timers w.now = t1 at *
   try simp [-qt,-qd,-ql,rgs,hb0,zX,k1,k2]
   repeat' first | done | ((first | ((with_reducible show zT _ _ _ _ _ _);refine zB rfl fun _ => ?_) | ((with_reducible show zH _ _ _ _ _ _ _);refine zC rfl omA omA ?_) | ((with_reducible show vS _ _ _ _ _ _ _ _);refine zP rfl rfl (by decide) (by decide) (by first | (simp [-qt,-qd,-ql,rgs,hb0,zX,k1,k2];done) | (simp [-qt,-qd,-ql,rgs,hb0,zX,k1,k2];rfl)) (by first | (simp [-qt,-qd,-ql,rgs,hb0,zX,k1,k2];done) | (simp [-qt,-qd,-ql,rgs,hb0,zX,k1,k2];rfl)) (by first | (simp;done) | (simp;omega)) (by first | (simp only [zW,LIM] at *; simp;omega) | (simp only [zW];simp;omega)) (by simp [iv,bv]) ?_) | (with_reducible refine zF (i:=1) [(0,[],[]),(1,[],[]),(2,[],[]),(3,[],[]),(4,[],[]),(5,[],[]),(6,[],[11]),(7,[],[11]),(8,[],[]),(9,[],[]),(10,[],[]),(11,[],[]),(12,[],[]),(13,[],[])] (by kernel_rfl) ?_) | (with_reducible refine zF (i:=6) [(0,[],[]),(1,[],[]),(2,[],[]),(3,[],[]),(4,[],[]),(5,[],[])] (by kernel_rfl) ?_) | (with_reducible refine zF (i:=9) [(0,[],[]),(1,[],[]),(2,[],[]),(3,[],[]),(4,[],[]),(5,[],[])] (by kernel_rfl) ?_) | (with_reducible refine zF (i:=10) [(0,[],[]),(1,[],[]),(2,[],[]),(3,[],[8]),(4,[],[]),(5,[],[8]),(6,[],[]),(7,[],[8]),(8,[],[]),(9,[],[])] (by kernel_rfl) ?_) | (with_reducible refine zF (i:=12) [(0,[],[]),(1,[],[]),(2,[],[]),(3,[],[]),(4,[],[]),(5,[],[]),(6,[],[]),(7,[.tmp 61,.tmp 63],[]),(8,[],[]),(9,[],[])] (by kernel_rfl) ?_) | (with_reducible refine zF (i:=15) [(0,[],[]),(1,[],[]),(2,[],[]),(3,[],[]),(4,[],[7]),(5,[],[]),(6,[],[]),(7,[],[]),(8,[],[]),(9,[],[]),(10,[],[]),(11,[],[])] (by kernel_rfl) ?_)) <;> simp [-qt,-qd,-ql,rgs,hb0,zX,k1,k2]) | ((first | (with_reducible refine zE ?_ ?_) | (with_reducible refine zA ?_ ?_)) <;> intro qb <;> (have qp:=qb;try simp only [psq] at qp) <;> simp [-qt,-qd,-ql,rgs,hb0,zX,k1,k2,qb])
   refine vC (m_forget (X:=X1) (p:=p) (w:=zQ0 w t1) (s:=x.seq) hT1) ⟨by dsimp only;rw [zJ _ _ _ _ (by omega),zJ _ _ _ _ (by omega)];exact o2,V2.keep fun id hm=>by dsimp only;rw [zJ _ _ _ _ (fun (e:id = nx + 12)=>n12 (e ▸ hm)),zJ _ _ _ _ (fun (e:id = nx + 12)=>n12 (e ▸ hm))]⟩ ?_
   rintro r h2 n2 ⟨rfl,⟨X2,o3,V3,hid2⟩,hf2⟩ hle2 hfr2
   dsimp only at hid2 hf2 hle2
   have hin2:∀ j ∈ X2.ids,j < n2:=fun j hj=>by rcases hid2 j hj with r | r;(have:=hin1 j r;omega);omega
   have nX2:∀ j,j < nx → j ∉ X.ids → j ∉ X2.ids:=fun j hj hjX hm=>by rcases hid2 j hm with r | r;(exact nX1 j hj hjX r);omega
   have ids2:∀ j ∈ X2.ids,j ∈ X.ids ∨ nx ≤ j ∧ j < n2:=fun j hm=>by
    rcases hid2 j hm with r | r
    ·rcases hid j r with r | r
     ·exact .inl r
     ·right;omega
    ·right;omega
   have K2:∀ j,j < nx → j ≠ p → j ∉ X.ids → h2 j = h j:=fun j hj hjp hjX=>by
    rw [hf2 j (by omega) hjp (nX1 j hj hjX),zJ _ _ _ _ (by omega),zJ _ _ _ _ (by omega)]
    exact hf1 j (by omega) hjp hjX
   have z2:=hf2 (nx + 12) (by omega) (by omega) n12
   simp at z2
   rw [show zQ0 (zQ0 w t1) (uC (zQ0 w t1).timers x.seq) = zQ0 w (uC t1 x.seq) from rfl] at o3 V3
   try simp [-qt,-qd,-ql,rgs,z2]
   repeat' first | done | ((first | ((with_reducible show zT _ _ _ _ _ _);refine zB rfl fun _ => ?_) | ((with_reducible show zH _ _ _ _ _ _ _);refine zC rfl omA omA ?_) | ((with_reducible show vS _ _ _ _ _ _ _ _);refine zP rfl rfl (by decide) (by decide) (by first | (simp [-qt,-qd,-ql,rgs,z2];done) | (simp [-qt,-qd,-ql,rgs,z2];rfl)) (by first | (simp [-qt,-qd,-ql,rgs,z2];done) | (simp [-qt,-qd,-ql,rgs,z2];rfl)) (by first | (simp;done) | (simp;omega)) (by first | (simp only [zW,LIM] at *; simp;omega) | (simp only [zW];simp;omega)) (by simp [iv,bv]) ?_) | (with_reducible refine zF (i:=1) [(0,[],[]),(1,[],[]),(2,[],[]),(3,[],[]),(4,[],[]),(5,[],[]),(6,[],[11]),(7,[],[11]),(8,[],[]),(9,[],[]),(10,[],[]),(11,[],[]),(12,[],[]),(13,[],[])] (by kernel_rfl) ?_) | (with_reducible refine zF (i:=6) [(0,[],[]),(1,[],[]),(2,[],[]),(3,[],[]),(4,[],[]),(5,[],[])] (by kernel_rfl) ?_) | (with_reducible refine zF (i:=9) [(0,[],[]),(1,[],[]),(2,[],[]),(3,[],[]),(4,[],[]),(5,[],[])] (by kernel_rfl) ?_) | (with_reducible refine zF (i:=10) [(0,[],[]),(1,[],[]),(2,[],[]),(3,[],[8]),(4,[],[]),(5,[],[8]),(6,[],[]),(7,[],[8]),(8,[],[]),(9,[],[])] (by kernel_rfl) ?_) | (with_reducible refine zF (i:=12) [(0,[],[]),(1,[],[]),(2,[],[]),(3,[],[]),(4,[],[]),(5,[],[]),(6,[],[]),(7,[.tmp 61,.tmp 63],[]),(8,[],[]),(9,[],[])] (by kernel_rfl) ?_) | (with_reducible refine zF (i:=15) [(0,[],[]),(1,[],[]),(2,[],[]),(3,[],[]),(4,[],[7]),(5,[],[]),(6,[],[]),(7,[],[]),(8,[],[]),(9,[],[]),(10,[],[]),(11,[],[])] (by kernel_rfl) ?_)) <;> simp [-qt,-qd,-ql,rgs,z2]) | ((first | (with_reducible refine zE ?_ ?_) | (with_reducible refine zA ?_ ?_)) <;> intro qb <;> (have qp:=qb;try simp only [psq] at qp) <;> simp [-qt,-qd,-ql,rgs,z2,qb])
   refine vC (m_cancel (X:=X2) (w:=zQ0 w (uC t1 x.seq)) (p:=p) (n:=x.whom) (er:=2) (ca:=0) ht (show w.spread.work.length ≤ 1048576 by omega) (show w.events.length ≤ 1048576 by omega)) ⟨by simpa using o3,V3⟩ ?_
   rintro r h3 n3 ⟨rfl,⟨X3,o4,V4,hid3⟩,hf3⟩ hle3 hfr3
   dsimp only at hid3 hf3 hle3
   try simp [-qt,-qd,-ql,rgs]
   repeat' first | done | ((first | ((with_reducible show zT _ _ _ _ _ _);refine zB rfl fun _ => ?_) | ((with_reducible show zH _ _ _ _ _ _ _);refine zC rfl omA omA ?_) | ((with_reducible show vS _ _ _ _ _ _ _ _);refine zP rfl rfl (by decide) (by decide) (by first | (simp [-qt,-qd,-ql,rgs];done) | (simp [-qt,-qd,-ql,rgs];rfl)) (by first | (simp [-qt,-qd,-ql,rgs];done) | (simp [-qt,-qd,-ql,rgs];rfl)) (by first | (simp;done) | (simp;omega)) (by first | (simp only [zW,LIM] at *; simp;omega) | (simp only [zW];simp;omega)) (by simp [iv,bv]) ?_) | (with_reducible refine zF (i:=1) [(0,[],[]),(1,[],[]),(2,[],[]),(3,[],[]),(4,[],[]),(5,[],[]),(6,[],[11]),(7,[],[11]),(8,[],[]),(9,[],[]),(10,[],[]),(11,[],[]),(12,[],[]),(13,[],[])] (by kernel_rfl) ?_) | (with_reducible refine zF (i:=6) [(0,[],[]),(1,[],[]),(2,[],[]),(3,[],[]),(4,[],[]),(5,[],[])] (by kernel_rfl) ?_) | (with_reducible refine zF (i:=9) [(0,[],[]),(1,[],[]),(2,[],[]),(3,[],[]),(4,[],[]),(5,[],[])] (by kernel_rfl) ?_) | (with_reducible refine zF (i:=10) [(0,[],[]),(1,[],[]),(2,[],[]),(3,[],[8]),(4,[],[]),(5,[],[8]),(6,[],[]),(7,[],[8]),(8,[],[]),(9,[],[])] (by kernel_rfl) ?_) | (with_reducible refine zF (i:=12) [(0,[],[]),(1,[],[]),(2,[],[]),(3,[],[]),(4,[],[]),(5,[],[]),(6,[],[]),(7,[.tmp 61,.tmp 63],[]),(8,[],[]),(9,[],[])] (by kernel_rfl) ?_) | (with_reducible refine zF (i:=15) [(0,[],[]),(1,[],[]),(2,[],[]),(3,[],[]),(4,[],[7]),(5,[],[]),(6,[],[]),(7,[],[]),(8,[],[]),(9,[],[]),(10,[],[]),(11,[],[])] (by kernel_rfl) ?_)) <;> simp [-qt,-qd,-ql,rgs]) | ((first | (with_reducible refine zE ?_ ?_) | (with_reducible refine zA ?_ ?_)) <;> intro qb <;> (have qp:=qb;try simp only [psq] at qp) <;> simp [-qt,-qd,-ql,rgs,qb])
   refine ⟨rfl,fun _=>⟨X3,o4,V4,fun id hm => ?_⟩,(fun q hq=>by simp at hq),fun j hj hjp hjX _ => ?_⟩
   ·rcases hid3 id hm with r | r
    ·rcases ids2 id r with r | r
     ·exact .inl r
     ·right;omega
    ·right;omega
   ·rw [hf3 j (by omega) hjp (nX2 j hj hjX)]
    exact K2 j hj hjp hjX
  ·have hb0:((vI w.timers).what == 0) = false:=by simpa using h0
   by_cases h1w:(vI w.timers).what = 1
   ·have hb1:((vI w.timers).what == 1) = true:=by simpa using h1w
    have hwh:vX (vI w.timers).whom w.tasks = true:=by simpa [uA,h1w] using hit
    simp only [zL3] at hwh
    have hW:zE2 w = zP7 w (uC (uK w.timers w.now) (vI w.timers).seq) (if wakes w (vI w.timers) = true then w.tasks.set (vI w.timers).whom.toNat (uY (gt w.tasks (vI w.timers).whom) 1) else w.tasks) w.rang:=by unfold zE2;rw [if_pos hC,if_neg h0,if_pos h1w]
    rw [hW]
    generalize vI w.timers = x at *
    generalize uK w.timers w.now = t1 at *
    try simp [-qt,-qd,-ql,rgs,hb0,hb1,zX,k1,k2]
    repeat' first | done | ((first | ((with_reducible show zT _ _ _ _ _ _);refine zB rfl fun _ => ?_) | ((with_reducible show zH _ _ _ _ _ _ _);refine zC rfl omA omA ?_) | ((with_reducible show vS _ _ _ _ _ _ _ _);refine zP rfl rfl (by decide) (by decide) (by first | (simp [-qt,-qd,-ql,rgs,hb0,hb1,zX,k1,k2];done) | (simp [-qt,-qd,-ql,rgs,hb0,hb1,zX,k1,k2];rfl)) (by first | (simp [-qt,-qd,-ql,rgs,hb0,hb1,zX,k1,k2];done) | (simp [-qt,-qd,-ql,rgs,hb0,hb1,zX,k1,k2];rfl)) (by first | (simp;done) | (simp;omega)) (by first | (simp only [zW,LIM] at *; simp;omega) | (simp only [zW];simp;omega)) (by simp [iv,bv]) ?_) | (with_reducible refine zF (i:=1) [(0,[],[]),(1,[],[]),(2,[],[]),(3,[],[]),(4,[],[]),(5,[],[]),(6,[],[11]),(7,[],[11]),(8,[],[]),(9,[],[]),(10,[],[]),(11,[],[]),(12,[],[]),(13,[],[])] (by kernel_rfl) ?_) | (with_reducible refine zF (i:=6) [(0,[],[]),(1,[],[]),(2,[],[]),(3,[],[]),(4,[],[]),(5,[],[])] (by kernel_rfl) ?_) | (with_reducible refine zF (i:=9) [(0,[],[]),(1,[],[]),(2,[],[]),(3,[],[]),(4,[],[]),(5,[],[])] (by kernel_rfl) ?_) | (with_reducible refine zF (i:=10) [(0,[],[]),(1,[],[]),(2,[],[]),(3,[],[8]),(4,[],[]),(5,[],[8]),(6,[],[]),(7,[],[8]),(8,[],[]),(9,[],[])] (by kernel_rfl) ?_) | (with_reducible refine zF (i:=12) [(0,[],[]),(1,[],[]),(2,[],[]),(3,[],[]),(4,[],[]),(5,[],[]),(6,[],[]),(7,[.tmp 61,.tmp 63],[]),(8,[],[]),(9,[],[])] (by kernel_rfl) ?_) | (with_reducible refine zF (i:=15) [(0,[],[]),(1,[],[]),(2,[],[]),(3,[],[]),(4,[],[7]),(5,[],[]),(6,[],[]),(7,[],[]),(8,[],[]),(9,[],[]),(10,[],[]),(11,[],[])] (by kernel_rfl) ?_)) <;> simp [-qt,-qd,-ql,rgs,hb0,hb1,zX,k1,k2]) | ((first | (with_reducible refine zE ?_ ?_) | (with_reducible refine zA ?_ ?_)) <;> intro qb <;> (have qp:=qb;try simp only [psq] at qp) <;> simp [-qt,-qd,-ql,rgs,hb0,hb1,zX,k1,k2,qb])
    refine vC (m_forget (X:=X1) (p:=p) (w:=zQ0 w t1) (s:=x.seq) hT1) ⟨by dsimp only;rw [zJ _ _ _ _ (by omega),zJ _ _ _ _ (by omega)];exact o2,V2.keep fun id hm=>by dsimp only;rw [zJ _ _ _ _ (fun (e:id = nx + 12)=>n12 (e ▸ hm)),zJ _ _ _ _ (fun (e:id = nx + 12)=>n12 (e ▸ hm))]⟩ ?_
    rintro r h2 n2 ⟨rfl,⟨X2,o3,V3,hid2⟩,hf2⟩ hle2 hfr2
    dsimp only at hid2 hf2 hle2
    have hin2:∀ j ∈ X2.ids,j < n2:=fun j hj=>by rcases hid2 j hj with r | r;(have:=hin1 j r;omega);omega
    have nX2:∀ j,j < nx → j ∉ X.ids → j ∉ X2.ids:=fun j hj hjX hm=>by rcases hid2 j hm with r | r;(exact nX1 j hj hjX r);omega
    have ids2:∀ j ∈ X2.ids,j ∈ X.ids ∨ nx ≤ j ∧ j < n2:=fun j hm=>by
     rcases hid2 j hm with r | r
     ·rcases hid j r with r | r
      ·exact .inl r
      ·right;omega
     ·right;omega
    have K2:∀ j,j < nx → j ≠ p → j ∉ X.ids → h2 j = h j:=fun j hj hjp hjX=>by
     rw [hf2 j (by omega) hjp (nX1 j hj hjX),zJ _ _ _ _ (by omega),zJ _ _ _ _ (by omega)]
     exact hf1 j (by omega) hjp hjX
    have z2:=hf2 (nx + 12) (by omega) (by omega) n12
    simp at z2
    rw [show zQ0 (zQ0 w t1) (uC (zQ0 w t1).timers x.seq) = zQ0 w (uC t1 x.seq) from rfl] at o3 V3
    have t10:=V3.top 10 (by omega)
    simp only [zM5] at t10
    have o4:=o3
    simp only [uL] at o4
    have hgt:(w.tasks.map yR)[x.whom.toNat]? = some (yR (gt w.tasks x.whom)):=by rw [List.getElem?_map,zF6 hwh.1 hwh.2];rfl
    have e10:(zQ0 w (uC t1 x.seq)).tasks = w.tasks:=rfl
    rw [e10] at t10 o4
    have m10:=hin2 _ (WI.top_mem (X:=X2) (k:=10) (by omega))
    have hpX2:=V3.obj o3
    have j1:∀ k,(p = n2 + k) = False:=fun k=>by simp only [eq_iff_iff,iff_false];omega
    have j2:∀ k,(X2.top 10 = n2 + k) = False:=fun k=>by simp only [eq_iff_iff,iff_false];omega
    have j3:∀ k,(nx + 12 = n2 + k) = False:=fun k=>by simp only [eq_iff_iff,iff_false];omega
    have ids2':∀ {m:Nat},n2 ≤ m → ∀ j ∈ X2.ids,j ∈ X.ids ∨ nx ≤ j ∧ j < m:=fun hm j hj=>by rcases ids2 j hj with r | r;(exact .inl r);(right;omega)
    by_cases hwk:wakes w x = true
    ·have hwk':=hwk
     simp only [wakes,Bool.and_eq_true] at hwk'
     rw [if_pos hwk]
     have hrd:=c_Readied (k:=gt w.tasks x.whom) (reg:=1) (fun h=>by simp only [zD2,Bool.and_eq_true,uT] at h;omega)
     try simp [-qt,-qd,-ql,rgs,z2,o4,t10,yR,j1,j2,j3,hwk'.1,hwk'.2]
     repeat' first | done | ((first | ((with_reducible show zT _ _ _ _ _ _);refine zB rfl fun _ => ?_) | ((with_reducible show zH _ _ _ _ _ _ _);refine zC rfl omA omA ?_) | (((with_reducible show zH _ _ _ _ (.ref _ _ _ _) _ _);refine yK rfl (by omega) (by omega) ?_)) | (((with_reducible show zQ8 _ _ _ _ _ _ _ _);refine zC5 hgt ?_)) | ((with_reducible show vS _ _ _ _ _ _ _ _);refine zP rfl rfl (by decide) (by decide) (by first | (simp [-qt,-qd,-ql,rgs,z2,o4,t10,yR,j1,j2,j3,hwk'.1,hwk'.2];done) | (simp [-qt,-qd,-ql,rgs,z2,o4,t10,yR,j1,j2,j3,hwk'.1,hwk'.2];rfl)) (by first | (simp [-qt,-qd,-ql,rgs,z2,o4,t10,yR,j1,j2,j3,hwk'.1,hwk'.2];done) | (simp [-qt,-qd,-ql,rgs,z2,o4,t10,yR,j1,j2,j3,hwk'.1,hwk'.2];rfl)) (by first | (simp;done) | (simp;omega)) (by first | (simp only [zW,LIM] at *; simp;omega) | (simp only [zW];simp;omega)) (by simp [iv,bv]) ?_) | (with_reducible refine zF (i:=1) [(0,[],[]),(1,[],[]),(2,[],[]),(3,[],[]),(4,[],[]),(5,[],[]),(6,[],[11]),(7,[],[11]),(8,[],[]),(9,[],[]),(10,[],[]),(11,[],[]),(12,[],[]),(13,[],[])] (by kernel_rfl) ?_) | (with_reducible refine zF (i:=6) [(0,[],[]),(1,[],[]),(2,[],[]),(3,[],[]),(4,[],[]),(5,[],[])] (by kernel_rfl) ?_) | (with_reducible refine zF (i:=9) [(0,[],[]),(1,[],[]),(2,[],[]),(3,[],[]),(4,[],[]),(5,[],[])] (by kernel_rfl) ?_) | (with_reducible refine zF (i:=10) [(0,[],[]),(1,[],[]),(2,[],[]),(3,[],[8]),(4,[],[]),(5,[],[8]),(6,[],[]),(7,[],[8]),(8,[],[]),(9,[],[])] (by kernel_rfl) ?_) | (with_reducible refine zF (i:=12) [(0,[],[]),(1,[],[]),(2,[],[]),(3,[],[]),(4,[],[]),(5,[],[]),(6,[],[]),(7,[.tmp 61,.tmp 63],[]),(8,[],[]),(9,[],[])] (by kernel_rfl) ?_) | (with_reducible refine zF (i:=15) [(0,[],[]),(1,[],[]),(2,[],[]),(3,[],[]),(4,[],[7]),(5,[],[]),(6,[],[]),(7,[],[]),(8,[],[]),(9,[],[]),(10,[],[]),(11,[],[])] (by kernel_rfl) ?_)) <;> simp [-qt,-qd,-ql,rgs,z2,o4,t10,yR,j1,j2,j3,hwk'.1,hwk'.2]) | ((first | (with_reducible refine zE ?_ ?_) | (with_reducible refine zA ?_ ?_)) <;> intro qb <;> (have qp:=qb;try simp only [psq] at qp) <;> simp [-qt,-qd,-ql,rgs,z2,o4,t10,yR,j1,j2,j3,hwk'.1,hwk'.2,qb])
     refine zD hrd ?_
     generalize uY (gt w.tasks x.whom) 1 = y at *
     try simp [-qt,-qd,-ql,rgs,z2,o4,t10,j1,j2,j3]
     repeat' first | done | ((first | ((with_reducible show zT _ _ _ _ _ _);refine zB rfl fun _ => ?_) | ((with_reducible show zH _ _ _ _ _ _ _);refine zC rfl omA omA ?_) | (((with_reducible show zH _ _ _ _ (.ref _ _ _ _) _ _);refine yK rfl (by omega) (by omega) ?_)) | ((with_reducible show vS _ _ _ _ _ _ _ _);refine zP rfl rfl (by decide) (by decide) (by first | (simp [-qt,-qd,-ql,rgs,z2,o4,t10,j1,j2,j3];done) | (simp [-qt,-qd,-ql,rgs,z2,o4,t10,j1,j2,j3];rfl)) (by first | (simp [-qt,-qd,-ql,rgs,z2,o4,t10,j1,j2,j3];done) | (simp [-qt,-qd,-ql,rgs,z2,o4,t10,j1,j2,j3];rfl)) (by first | (simp;done) | (simp;omega)) (by first | (simp only [zW,LIM] at *; simp;omega) | (simp only [zW];simp;omega)) (by simp [iv,bv]) ?_) | (with_reducible refine zF (i:=1) [(0,[],[]),(1,[],[]),(2,[],[]),(3,[],[]),(4,[],[]),(5,[],[]),(6,[],[11]),(7,[],[11]),(8,[],[]),(9,[],[]),(10,[],[]),(11,[],[]),(12,[],[]),(13,[],[])] (by kernel_rfl) ?_) | (with_reducible refine zF (i:=6) [(0,[],[]),(1,[],[]),(2,[],[]),(3,[],[]),(4,[],[]),(5,[],[])] (by kernel_rfl) ?_) | (with_reducible refine zF (i:=9) [(0,[],[]),(1,[],[]),(2,[],[]),(3,[],[]),(4,[],[]),(5,[],[])] (by kernel_rfl) ?_) | (with_reducible refine zF (i:=10) [(0,[],[]),(1,[],[]),(2,[],[]),(3,[],[8]),(4,[],[]),(5,[],[8]),(6,[],[]),(7,[],[8]),(8,[],[]),(9,[],[])] (by kernel_rfl) ?_) | (with_reducible refine zF (i:=12) [(0,[],[]),(1,[],[]),(2,[],[]),(3,[],[]),(4,[],[]),(5,[],[]),(6,[],[]),(7,[.tmp 61,.tmp 63],[]),(8,[],[]),(9,[],[])] (by kernel_rfl) ?_) | (with_reducible refine zF (i:=15) [(0,[],[]),(1,[],[]),(2,[],[]),(3,[],[]),(4,[],[7]),(5,[],[]),(6,[],[]),(7,[],[]),(8,[],[]),(9,[],[]),(10,[],[]),(11,[],[])] (by kernel_rfl) ?_)) <;> simp [-qt,-qd,-ql,rgs,z2,o4,t10,j1,j2,j3]) | ((first | (with_reducible refine zE ?_ ?_) | (with_reducible refine zA ?_ ?_)) <;> intro qb <;> (have qp:=qb;try simp only [psq] at qp) <;> simp [-qt,-qd,-ql,rgs,z2,o4,t10,j1,j2,j3,qb])
     refine zO5 (sz:=9) (xs:=w.tasks.map yR) (vs:=yR y) (cells:=yR (gt w.tasks x.whom)) (by simp [t10,j2]) rfl rfl rfl hgt rfl ?_
     try simp [-qt,-qd,-ql,rgs]
     repeat' first | done | ((first | ((with_reducible show zT _ _ _ _ _ _);refine zB rfl fun _ => ?_) | ((with_reducible show zH _ _ _ _ _ _ _);refine zC rfl omA omA ?_) | ((with_reducible show vS _ _ _ _ _ _ _ _);refine zP rfl rfl (by decide) (by decide) (by first | (simp [-qt,-qd,-ql,rgs];done) | (simp [-qt,-qd,-ql,rgs];rfl)) (by first | (simp [-qt,-qd,-ql,rgs];done) | (simp [-qt,-qd,-ql,rgs];rfl)) (by first | (simp;done) | (simp;omega)) (by first | (simp only [zW,LIM] at *; simp;omega) | (simp only [zW];simp;omega)) (by simp [iv,bv]) ?_) | (with_reducible refine zF (i:=1) [(0,[],[]),(1,[],[]),(2,[],[]),(3,[],[]),(4,[],[]),(5,[],[]),(6,[],[11]),(7,[],[11]),(8,[],[]),(9,[],[]),(10,[],[]),(11,[],[]),(12,[],[]),(13,[],[])] (by kernel_rfl) ?_) | (with_reducible refine zF (i:=6) [(0,[],[]),(1,[],[]),(2,[],[]),(3,[],[]),(4,[],[]),(5,[],[])] (by kernel_rfl) ?_) | (with_reducible refine zF (i:=9) [(0,[],[]),(1,[],[]),(2,[],[]),(3,[],[]),(4,[],[]),(5,[],[])] (by kernel_rfl) ?_) | (with_reducible refine zF (i:=10) [(0,[],[]),(1,[],[]),(2,[],[]),(3,[],[8]),(4,[],[]),(5,[],[8]),(6,[],[]),(7,[],[8]),(8,[],[]),(9,[],[])] (by kernel_rfl) ?_) | (with_reducible refine zF (i:=12) [(0,[],[]),(1,[],[]),(2,[],[]),(3,[],[]),(4,[],[]),(5,[],[]),(6,[],[]),(7,[.tmp 61,.tmp 63],[]),(8,[],[]),(9,[],[])] (by kernel_rfl) ?_) | (with_reducible refine zF (i:=15) [(0,[],[]),(1,[],[]),(2,[],[]),(3,[],[]),(4,[],[7]),(5,[],[]),(6,[],[]),(7,[],[]),(8,[],[]),(9,[],[]),(10,[],[]),(11,[],[])] (by kernel_rfl) ?_)) <;> simp [-qt,-qd,-ql,rgs]) | ((first | (with_reducible refine zE ?_ ?_) | (with_reducible refine zA ?_ ?_)) <;> intro qb <;> (have qp:=qb;try simp only [psq] at qp) <;> simp [-qt,-qd,-ql,rgs,qb])
     refine ⟨rfl,fun _=>⟨X2,?_,V3.setTasks ?_ (fun j hj hne => ?_),ids2' (by omega)⟩,(fun q hq=>by simp at hq),fun j hj hjp hjX _ => ?_⟩
     ·rw [zJ _ _ _ _ (fun (e:p = X2.top 10)=>hpX2 (e ▸ WI.top_mem (by omega))),zJ _ _ _ _ (by omega),zJ _ _ _ _ (by omega)]
      exact o3.trans (by simp [uL,zP7,zQ0,mkW])
     ·rw [zL,← List.map_set]
     ·have:=hin2 j hj
      rw [zJ _ _ _ _ hne,zJ _ _ _ _ (by omega),zJ _ _ _ _ (by omega)]
     ·rw [zJ _ _ _ _ (fun (e:j = X2.top 10)=>nX2 j hj hjX (e ▸ WI.top_mem (by omega))),zJ _ _ _ _ (by omega),zJ _ _ _ _ (by omega)]
      exact K2 j hj hjp hjX
    ·rw [if_neg hwk]
     by_cases hy:(gt w.tasks x.whom).why = 2
     ·have hyb:((gt w.tasks x.whom).why == 2) = true:=by simpa using hy
      have htb:((gt w.tasks x.whom).timer == x.seq) = false:=by
       cases hq:((gt w.tasks x.whom).timer == x.seq) with
       | false=>rfl
       | true=>exact absurd (by simp [wakes,hyb,hq]) hwk
      try simp [-qt,-qd,-ql,rgs,z2,o4,t10,yR,j1,j2,j3,hyb,htb]
      repeat' first | done | ((first | ((with_reducible show zT _ _ _ _ _ _);refine zB rfl fun _ => ?_) | ((with_reducible show zH _ _ _ _ _ _ _);refine zC rfl omA omA ?_) | (((with_reducible show zH _ _ _ _ (.ref _ _ _ _) _ _);refine yK rfl (by omega) (by omega) ?_)) | (((with_reducible show zQ8 _ _ _ _ _ _ _ _);refine zC5 hgt ?_)) | ((with_reducible show vS _ _ _ _ _ _ _ _);refine zP rfl rfl (by decide) (by decide) (by first | (simp [-qt,-qd,-ql,rgs,z2,o4,t10,yR,j1,j2,j3,hyb,htb];done) | (simp [-qt,-qd,-ql,rgs,z2,o4,t10,yR,j1,j2,j3,hyb,htb];rfl)) (by first | (simp [-qt,-qd,-ql,rgs,z2,o4,t10,yR,j1,j2,j3,hyb,htb];done) | (simp [-qt,-qd,-ql,rgs,z2,o4,t10,yR,j1,j2,j3,hyb,htb];rfl)) (by first | (simp;done) | (simp;omega)) (by first | (simp only [zW,LIM] at *; simp;omega) | (simp only [zW];simp;omega)) (by simp [iv,bv]) ?_) | (with_reducible refine zF (i:=1) [(0,[],[]),(1,[],[]),(2,[],[]),(3,[],[]),(4,[],[]),(5,[],[]),(6,[],[11]),(7,[],[11]),(8,[],[]),(9,[],[]),(10,[],[]),(11,[],[]),(12,[],[]),(13,[],[])] (by kernel_rfl) ?_) | (with_reducible refine zF (i:=6) [(0,[],[]),(1,[],[]),(2,[],[]),(3,[],[]),(4,[],[]),(5,[],[])] (by kernel_rfl) ?_) | (with_reducible refine zF (i:=9) [(0,[],[]),(1,[],[]),(2,[],[]),(3,[],[]),(4,[],[]),(5,[],[])] (by kernel_rfl) ?_) | (with_reducible refine zF (i:=10) [(0,[],[]),(1,[],[]),(2,[],[]),(3,[],[8]),(4,[],[]),(5,[],[8]),(6,[],[]),(7,[],[8]),(8,[],[]),(9,[],[])] (by kernel_rfl) ?_) | (with_reducible refine zF (i:=12) [(0,[],[]),(1,[],[]),(2,[],[]),(3,[],[]),(4,[],[]),(5,[],[]),(6,[],[]),(7,[.tmp 61,.tmp 63],[]),(8,[],[]),(9,[],[])] (by kernel_rfl) ?_) | (with_reducible refine zF (i:=15) [(0,[],[]),(1,[],[]),(2,[],[]),(3,[],[]),(4,[],[7]),(5,[],[]),(6,[],[]),(7,[],[]),(8,[],[]),(9,[],[]),(10,[],[]),(11,[],[])] (by kernel_rfl) ?_)) <;> simp [-qt,-qd,-ql,rgs,z2,o4,t10,yR,j1,j2,j3,hyb,htb]) | ((first | (with_reducible refine zE ?_ ?_) | (with_reducible refine zA ?_ ?_)) <;> intro qb <;> (have qp:=qb;try simp only [psq] at qp) <;> simp [-qt,-qd,-ql,rgs,z2,o4,t10,yR,j1,j2,j3,hyb,htb,qb])
      refine ⟨rfl,fun _=>⟨X2,by rw [zJ _ _ _ _ (by omega),zJ _ _ _ _ (by omega)];exact o3,V3.keep fun id hm=>by have:=hin2 id hm;rw [zJ _ _ _ _ (by omega),zJ _ _ _ _ (by omega)],ids2' (by omega)⟩,(fun q hq=>by simp at hq),fun j hj hjp hjX _=>by rw [zJ _ _ _ _ (by omega),zJ _ _ _ _ (by omega)];exact K2 j hj hjp hjX⟩
     ·have hyb:((gt w.tasks x.whom).why == 2) = false:=by simpa using hy
      try simp [-qt,-qd,-ql,rgs,z2,o4,t10,yR,j1,j2,j3,hyb]
      repeat' first | done | ((first | ((with_reducible show zT _ _ _ _ _ _);refine zB rfl fun _ => ?_) | ((with_reducible show zH _ _ _ _ _ _ _);refine zC rfl omA omA ?_) | (((with_reducible show zH _ _ _ _ (.ref _ _ _ _) _ _);refine yK rfl (by omega) (by omega) ?_)) | (((with_reducible show zQ8 _ _ _ _ _ _ _ _);refine zC5 hgt ?_)) | ((with_reducible show vS _ _ _ _ _ _ _ _);refine zP rfl rfl (by decide) (by decide) (by first | (simp [-qt,-qd,-ql,rgs,z2,o4,t10,yR,j1,j2,j3,hyb];done) | (simp [-qt,-qd,-ql,rgs,z2,o4,t10,yR,j1,j2,j3,hyb];rfl)) (by first | (simp [-qt,-qd,-ql,rgs,z2,o4,t10,yR,j1,j2,j3,hyb];done) | (simp [-qt,-qd,-ql,rgs,z2,o4,t10,yR,j1,j2,j3,hyb];rfl)) (by first | (simp;done) | (simp;omega)) (by first | (simp only [zW,LIM] at *; simp;omega) | (simp only [zW];simp;omega)) (by simp [iv,bv]) ?_) | (with_reducible refine zF (i:=1) [(0,[],[]),(1,[],[]),(2,[],[]),(3,[],[]),(4,[],[]),(5,[],[]),(6,[],[11]),(7,[],[11]),(8,[],[]),(9,[],[]),(10,[],[]),(11,[],[]),(12,[],[]),(13,[],[])] (by kernel_rfl) ?_) | (with_reducible refine zF (i:=6) [(0,[],[]),(1,[],[]),(2,[],[]),(3,[],[]),(4,[],[]),(5,[],[])] (by kernel_rfl) ?_) | (with_reducible refine zF (i:=9) [(0,[],[]),(1,[],[]),(2,[],[]),(3,[],[]),(4,[],[]),(5,[],[])] (by kernel_rfl) ?_) | (with_reducible refine zF (i:=10) [(0,[],[]),(1,[],[]),(2,[],[]),(3,[],[8]),(4,[],[]),(5,[],[8]),(6,[],[]),(7,[],[8]),(8,[],[]),(9,[],[])] (by kernel_rfl) ?_) | (with_reducible refine zF (i:=12) [(0,[],[]),(1,[],[]),(2,[],[]),(3,[],[]),(4,[],[]),(5,[],[]),(6,[],[]),(7,[.tmp 61,.tmp 63],[]),(8,[],[]),(9,[],[])] (by kernel_rfl) ?_) | (with_reducible refine zF (i:=15) [(0,[],[]),(1,[],[]),(2,[],[]),(3,[],[]),(4,[],[7]),(5,[],[]),(6,[],[]),(7,[],[]),(8,[],[]),(9,[],[]),(10,[],[]),(11,[],[])] (by kernel_rfl) ?_)) <;> simp [-qt,-qd,-ql,rgs,z2,o4,t10,yR,j1,j2,j3,hyb]) | ((first | (with_reducible refine zE ?_ ?_) | (with_reducible refine zA ?_ ?_)) <;> intro qb <;> (have qp:=qb;try simp only [psq] at qp) <;> simp [-qt,-qd,-ql,rgs,z2,o4,t10,yR,j1,j2,j3,hyb,qb])
      refine ⟨rfl,fun _=>⟨X2,by rw [zJ _ _ _ _ (by omega),zJ _ _ _ _ (by omega)];exact o3,V3.keep fun id hm=>by have:=hin2 id hm;rw [zJ _ _ _ _ (by omega),zJ _ _ _ _ (by omega)],ids2' (by omega)⟩,(fun q hq=>by simp at hq),fun j hj hjp hjX _=>by rw [zJ _ _ _ _ (by omega),zJ _ _ _ _ (by omega)];exact K2 j hj hjp hjX⟩
   ·have hb1:((vI w.timers).what == 1) = false:=by simpa using h1w
    have hW:zE2 w = zP7 w (uK w.timers w.now) w.tasks (if (vI w.timers).what = 2 ∧ w.rang.length < 2000 then w.rang ++ [(vI w.timers).whom] else w.rang):=by unfold zE2;rw [if_pos hC,if_neg h0,if_neg h1w]
    rw [hW]
    generalize vI w.timers = x at *
    generalize uK w.timers w.now = t1 at *
    have t14:=V2.top 14 (by omega)
    simp only [zM5] at t14
    have e14:(zQ0 w t1).rang = w.rang:=rfl
    have o4:=o2
    simp only [uL] at o4
    rw [e14] at t14 o4
    have hpX1:=V2.obj o2
    have m14:=hin1 _ (WI.top_mem (X:=X1) (k:=14) (by omega))
    have j0:(p = nx + 12) = False:=by simp only [eq_iff_iff,iff_false];omega
    have j1:(X1.top 14 = nx + 12) = False:=by simp only [eq_iff_iff,iff_false];exact fun e=>n12 (e ▸ WI.top_mem (by omega))
    have j2:∀ k,(X1.top 14 = n1 + k) = False:=fun k=>by simp only [eq_iff_iff,iff_false];omega
    have j3:(p = X1.top 14) = False:=by simp only [eq_iff_iff,iff_false];exact fun e=>hpX1 (e ▸ WI.top_mem (by omega))
    have j4:(X1.top 14 = p) = False:=by simp only [eq_iff_iff,iff_false];exact fun e=>hpX1 (e ▸ WI.top_mem (by omega))
    have j5:∀ k,(nx + 12 = n1 + k) = False:=fun k=>by simp only [eq_iff_iff,iff_false];omega
    have j6:(nx + 12 = X1.top 14) = False:=by simp only [eq_iff_iff,iff_false];exact fun e=>n12 (e ▸ WI.top_mem (by omega))
    by_cases h2w:x.what = 2
    ·have hb2:(x.what == 2) = true:=by simpa using h2w
     by_cases h2l:w.rang.length < 2000
     ·have hz:((w.rang.length:Int) < 2000) = True:=by simp only [eq_iff_iff,iff_true];omega
      rw [if_pos ⟨h2w,h2l⟩]
      try simp [-qt,-qd,-ql,rgs,hb0,hb1,hb2,hz,zX,iv,o4,t14,k1,k2,j0,j1,j2,j3,j4,j5,j6]
      repeat' first | done | ((first | ((with_reducible show zT _ _ _ _ _ _);refine zB rfl fun _ => ?_) | ((with_reducible show zH _ _ _ _ _ _ _);refine zC rfl omA omA ?_) | ((with_reducible show vS _ _ _ _ _ _ _ _);refine zP rfl rfl (by decide) (by decide) (by first | (simp [-qt,-qd,-ql,rgs,hb0,hb1,hb2,hz,zX,iv,o4,t14,k1,k2,j0,j1,j2,j3,j4,j5,j6];done) | (simp [-qt,-qd,-ql,rgs,hb0,hb1,hb2,hz,zX,iv,o4,t14,k1,k2,j0,j1,j2,j3,j4,j5,j6];rfl)) (by first | (simp [-qt,-qd,-ql,rgs,hb0,hb1,hb2,hz,zX,iv,o4,t14,k1,k2,j0,j1,j2,j3,j4,j5,j6];done) | (simp [-qt,-qd,-ql,rgs,hb0,hb1,hb2,hz,zX,iv,o4,t14,k1,k2,j0,j1,j2,j3,j4,j5,j6];rfl)) (by first | (simp;done) | (simp;omega)) (by first | (simp only [zW,LIM] at *; simp;omega) | (simp only [zW];simp;omega)) (by simp [iv,bv]) ?_) | (with_reducible refine zF (i:=1) [(0,[],[]),(1,[],[]),(2,[],[]),(3,[],[]),(4,[],[]),(5,[],[]),(6,[],[11]),(7,[],[11]),(8,[],[]),(9,[],[]),(10,[],[]),(11,[],[]),(12,[],[]),(13,[],[])] (by kernel_rfl) ?_) | (with_reducible refine zF (i:=6) [(0,[],[]),(1,[],[]),(2,[],[]),(3,[],[]),(4,[],[]),(5,[],[])] (by kernel_rfl) ?_) | (with_reducible refine zF (i:=9) [(0,[],[]),(1,[],[]),(2,[],[]),(3,[],[]),(4,[],[]),(5,[],[])] (by kernel_rfl) ?_) | (with_reducible refine zF (i:=10) [(0,[],[]),(1,[],[]),(2,[],[]),(3,[],[8]),(4,[],[]),(5,[],[8]),(6,[],[]),(7,[],[8]),(8,[],[]),(9,[],[])] (by kernel_rfl) ?_) | (with_reducible refine zF (i:=12) [(0,[],[]),(1,[],[]),(2,[],[]),(3,[],[]),(4,[],[]),(5,[],[]),(6,[],[]),(7,[.tmp 61,.tmp 63],[]),(8,[],[]),(9,[],[])] (by kernel_rfl) ?_) | (with_reducible refine zF (i:=15) [(0,[],[]),(1,[],[]),(2,[],[]),(3,[],[]),(4,[],[7]),(5,[],[]),(6,[],[]),(7,[],[]),(8,[],[]),(9,[],[]),(10,[],[]),(11,[],[])] (by kernel_rfl) ?_)) <;> simp [-qt,-qd,-ql,rgs,hb0,hb1,hb2,hz,zX,iv,o4,t14,k1,k2,j0,j1,j2,j3,j4,j5,j6]) | ((first | (with_reducible refine zE ?_ ?_) | (with_reducible refine zA ?_ ?_)) <;> intro qb <;> (have qp:=qb;try simp only [psq] at qp) <;> simp [-qt,-qd,-ql,rgs,hb0,hb1,hb2,hz,zX,iv,o4,t14,k1,k2,j0,j1,j2,j3,j4,j5,j6,qb])
      refine ⟨rfl,fun _=>⟨X1.setTop 14 (n1 + 24),?_,V2.newTop [] (by omega) (fun hm=>by have:=hin1 _ hm;omega) ?_ (by simp) (by simp) (fun k hk _ hne => ?_) rfl rfl (fun j hj _ hne => ?_),fun j hj => ?_⟩,(fun q hq=>by simp at hq),fun j hj hjp hjX _ => ?_⟩
      ·rw [zL];simp [uL,WI.setTop,zP7,zQ0,mkW]
      ·rw [zJ _ _ _ _ (by omega),zL];simp [zM5,zP7,iv]
      ·rcases lt15 hk with rfl | rfl | rfl | rfl | rfl | rfl | rfl | rfl | rfl | rfl | rfl | rfl | rfl | rfl | rfl <;> first | rfl | exact absurd rfl hne
      ·have:=hin1 j hj
       have h12:j ≠ nx + 12:=fun e=>n12 (e ▸ hj)
       rw [zJ _ _ _ _ (fun (e:j = p)=>hpX1 (e ▸ hj)),zJ _ _ _ _ (by omega),zJ _ _ _ _ hne,zJ _ _ _ _ (by omega),zJ _ _ _ _ h12,zJ _ _ _ _ h12]
      ·rcases WI.setTop_ids hj with q | q
       ·rcases hid j q with r | r
        ·exact .inl r
        ·right;omega
       ·right;omega
      ·have hne:j ≠ X1.top 14:=fun e=>nX1 j hj hjX (e ▸ WI.top_mem (by omega))
       rw [zJ _ _ _ _ hjp,zJ _ _ _ _ (by omega),zJ _ _ _ _ hne,zJ _ _ _ _ (by omega),zJ _ _ _ _ (by omega),zJ _ _ _ _ (by omega)]
       exact hf1 j (by omega) hjp hjX
     ·have hz:((w.rang.length:Int) < 2000) = False:=by simp only [eq_iff_iff,iff_false];omega
      rw [if_neg (fun c=>h2l c.2)]
      try simp [-qt,-qd,-ql,rgs,hb0,hb1,hb2,hz,zX,o4,k1,k2,j0]
      repeat' first | done | ((first | ((with_reducible show zT _ _ _ _ _ _);refine zB rfl fun _ => ?_) | ((with_reducible show zH _ _ _ _ _ _ _);refine zC rfl omA omA ?_) | ((with_reducible show vS _ _ _ _ _ _ _ _);refine zP rfl rfl (by decide) (by decide) (by first | (simp [-qt,-qd,-ql,rgs,hb0,hb1,hb2,hz,zX,o4,k1,k2,j0];done) | (simp [-qt,-qd,-ql,rgs,hb0,hb1,hb2,hz,zX,o4,k1,k2,j0];rfl)) (by first | (simp [-qt,-qd,-ql,rgs,hb0,hb1,hb2,hz,zX,o4,k1,k2,j0];done) | (simp [-qt,-qd,-ql,rgs,hb0,hb1,hb2,hz,zX,o4,k1,k2,j0];rfl)) (by first | (simp;done) | (simp;omega)) (by first | (simp only [zW,LIM] at *; simp;omega) | (simp only [zW];simp;omega)) (by simp [iv,bv]) ?_) | (with_reducible refine zF (i:=1) [(0,[],[]),(1,[],[]),(2,[],[]),(3,[],[]),(4,[],[]),(5,[],[]),(6,[],[11]),(7,[],[11]),(8,[],[]),(9,[],[]),(10,[],[]),(11,[],[]),(12,[],[]),(13,[],[])] (by kernel_rfl) ?_) | (with_reducible refine zF (i:=6) [(0,[],[]),(1,[],[]),(2,[],[]),(3,[],[]),(4,[],[]),(5,[],[])] (by kernel_rfl) ?_) | (with_reducible refine zF (i:=9) [(0,[],[]),(1,[],[]),(2,[],[]),(3,[],[]),(4,[],[]),(5,[],[])] (by kernel_rfl) ?_) | (with_reducible refine zF (i:=10) [(0,[],[]),(1,[],[]),(2,[],[]),(3,[],[8]),(4,[],[]),(5,[],[8]),(6,[],[]),(7,[],[8]),(8,[],[]),(9,[],[])] (by kernel_rfl) ?_) | (with_reducible refine zF (i:=12) [(0,[],[]),(1,[],[]),(2,[],[]),(3,[],[]),(4,[],[]),(5,[],[]),(6,[],[]),(7,[.tmp 61,.tmp 63],[]),(8,[],[]),(9,[],[])] (by kernel_rfl) ?_) | (with_reducible refine zF (i:=15) [(0,[],[]),(1,[],[]),(2,[],[]),(3,[],[]),(4,[],[7]),(5,[],[]),(6,[],[]),(7,[],[]),(8,[],[]),(9,[],[]),(10,[],[]),(11,[],[])] (by kernel_rfl) ?_)) <;> simp [-qt,-qd,-ql,rgs,hb0,hb1,hb2,hz,zX,o4,k1,k2,j0]) | ((first | (with_reducible refine zE ?_ ?_) | (with_reducible refine zA ?_ ?_)) <;> intro qb <;> (have qp:=qb;try simp only [psq] at qp) <;> simp [-qt,-qd,-ql,rgs,hb0,hb1,hb2,hz,zX,o4,k1,k2,j0,qb])
      refine ⟨rfl,fun _=>⟨X1,by rw [zJ _ _ _ _ (by omega),zJ _ _ _ _ (by omega)];exact o2,V2.keep fun id hm=>by rw [zJ _ _ _ _ (fun (e:id = nx + 12)=>n12 (e ▸ hm)),zJ _ _ _ _ (fun (e:id = nx + 12)=>n12 (e ▸ hm))],fun id hm=>by rcases hid id hm with r | r <;> first | exact .inl r | (right;omega)⟩,(fun q hq=>by simp at hq),fun j hj hjp hjX _=>by rw [zJ _ _ _ _ (by omega),zJ _ _ _ _ (by omega)];exact hf1 j (by omega) hjp hjX⟩
    ·have hb2:(x.what == 2) = false:=by simpa using h2w
     rw [if_neg (fun c=>h2w c.1)]
     try simp [-qt,-qd,-ql,rgs,hb0,hb1,hb2,zX,o4,k1,k2,j0]
     repeat' first | done | ((first | ((with_reducible show zT _ _ _ _ _ _);refine zB rfl fun _ => ?_) | ((with_reducible show zH _ _ _ _ _ _ _);refine zC rfl omA omA ?_) | ((with_reducible show vS _ _ _ _ _ _ _ _);refine zP rfl rfl (by decide) (by decide) (by first | (simp [-qt,-qd,-ql,rgs,hb0,hb1,hb2,zX,o4,k1,k2,j0];done) | (simp [-qt,-qd,-ql,rgs,hb0,hb1,hb2,zX,o4,k1,k2,j0];rfl)) (by first | (simp [-qt,-qd,-ql,rgs,hb0,hb1,hb2,zX,o4,k1,k2,j0];done) | (simp [-qt,-qd,-ql,rgs,hb0,hb1,hb2,zX,o4,k1,k2,j0];rfl)) (by first | (simp;done) | (simp;omega)) (by first | (simp only [zW,LIM] at *; simp;omega) | (simp only [zW];simp;omega)) (by simp [iv,bv]) ?_) | (with_reducible refine zF (i:=1) [(0,[],[]),(1,[],[]),(2,[],[]),(3,[],[]),(4,[],[]),(5,[],[]),(6,[],[11]),(7,[],[11]),(8,[],[]),(9,[],[]),(10,[],[]),(11,[],[]),(12,[],[]),(13,[],[])] (by kernel_rfl) ?_) | (with_reducible refine zF (i:=6) [(0,[],[]),(1,[],[]),(2,[],[]),(3,[],[]),(4,[],[]),(5,[],[])] (by kernel_rfl) ?_) | (with_reducible refine zF (i:=9) [(0,[],[]),(1,[],[]),(2,[],[]),(3,[],[]),(4,[],[]),(5,[],[])] (by kernel_rfl) ?_) | (with_reducible refine zF (i:=10) [(0,[],[]),(1,[],[]),(2,[],[]),(3,[],[8]),(4,[],[]),(5,[],[8]),(6,[],[]),(7,[],[8]),(8,[],[]),(9,[],[])] (by kernel_rfl) ?_) | (with_reducible refine zF (i:=12) [(0,[],[]),(1,[],[]),(2,[],[]),(3,[],[]),(4,[],[]),(5,[],[]),(6,[],[]),(7,[.tmp 61,.tmp 63],[]),(8,[],[]),(9,[],[])] (by kernel_rfl) ?_) | (with_reducible refine zF (i:=15) [(0,[],[]),(1,[],[]),(2,[],[]),(3,[],[]),(4,[],[7]),(5,[],[]),(6,[],[]),(7,[],[]),(8,[],[]),(9,[],[]),(10,[],[]),(11,[],[])] (by kernel_rfl) ?_)) <;> simp [-qt,-qd,-ql,rgs,hb0,hb1,hb2,zX,o4,k1,k2,j0]) | ((first | (with_reducible refine zE ?_ ?_) | (with_reducible refine zA ?_ ?_)) <;> intro qb <;> (have qp:=qb;try simp only [psq] at qp) <;> simp [-qt,-qd,-ql,rgs,hb0,hb1,hb2,zX,o4,k1,k2,j0,qb])
     refine ⟨rfl,fun _=>⟨X1,by rw [zJ _ _ _ _ (by omega),zJ _ _ _ _ (by omega)];exact o2,V2.keep fun id hm=>by rw [zJ _ _ _ _ (fun (e:id = nx + 12)=>n12 (e ▸ hm)),zJ _ _ _ _ (fun (e:id = nx + 12)=>n12 (e ▸ hm))],fun id hm=>by rcases hid id hm with r | r <;> first | exact .inl r | (right;omega)⟩,(fun q hq=>by simp at hq),fun j hj hjp hjX _=>by rw [zJ _ _ _ _ (by omega),zJ _ _ _ _ (by omega)];exact hf1 j (by omega) hjp hjX⟩
 ·have hCf:zH2 w.timers w.now = false:=by simpa using hC
  have hB:zP5 w = false:=hCf
  have hT:uK w.timers w.now = w.timers:=by simp [uK,hCf]
  have hR:zJ1 w.timers w.now = default:=by simp [zJ1,hCf]
  rw [hB,hR,hCf]
  try simp [-qt,-qd,-ql,rgs,zX]
  repeat' first | done | ((first | ((with_reducible show zT _ _ _ _ _ _);refine zB rfl fun _ => ?_) | ((with_reducible show zH _ _ _ _ _ _ _);refine zC rfl omA omA ?_) | ((with_reducible show vS _ _ _ _ _ _ _ _);refine zP rfl rfl (by decide) (by decide) (by first | (simp [-qt,-qd,-ql,rgs,zX];done) | (simp [-qt,-qd,-ql,rgs,zX];rfl)) (by first | (simp [-qt,-qd,-ql,rgs,zX];done) | (simp [-qt,-qd,-ql,rgs,zX];rfl)) (by first | (simp;done) | (simp;omega)) (by first | (simp only [zW,LIM] at *; simp;omega) | (simp only [zW];simp;omega)) (by simp [iv,bv]) ?_) | (with_reducible refine zF (i:=1) [(0,[],[]),(1,[],[]),(2,[],[]),(3,[],[]),(4,[],[]),(5,[],[]),(6,[],[11]),(7,[],[11]),(8,[],[]),(9,[],[]),(10,[],[]),(11,[],[]),(12,[],[]),(13,[],[])] (by kernel_rfl) ?_) | (with_reducible refine zF (i:=6) [(0,[],[]),(1,[],[]),(2,[],[]),(3,[],[]),(4,[],[]),(5,[],[])] (by kernel_rfl) ?_) | (with_reducible refine zF (i:=9) [(0,[],[]),(1,[],[]),(2,[],[]),(3,[],[]),(4,[],[]),(5,[],[])] (by kernel_rfl) ?_) | (with_reducible refine zF (i:=10) [(0,[],[]),(1,[],[]),(2,[],[]),(3,[],[8]),(4,[],[]),(5,[],[8]),(6,[],[]),(7,[],[8]),(8,[],[]),(9,[],[])] (by kernel_rfl) ?_) | (with_reducible refine zF (i:=12) [(0,[],[]),(1,[],[]),(2,[],[]),(3,[],[]),(4,[],[]),(5,[],[]),(6,[],[]),(7,[.tmp 61,.tmp 63],[]),(8,[],[]),(9,[],[])] (by kernel_rfl) ?_) | (with_reducible refine zF (i:=15) [(0,[],[]),(1,[],[]),(2,[],[]),(3,[],[]),(4,[],[7]),(5,[],[]),(6,[],[]),(7,[],[]),(8,[],[]),(9,[],[]),(10,[],[]),(11,[],[])] (by kernel_rfl) ?_)) <;> simp [-qt,-qd,-ql,rgs,zX]) | ((first | (with_reducible refine zE ?_ ?_) | (with_reducible refine zA ?_ ?_)) <;> intro qb <;> (have qp:=qb;try simp only [psq] at qp) <;> simp [-qt,-qd,-ql,rgs,zX,qb])
  refine ⟨rfl,(fun e=>by cases e),(fun q hq=>by simp at hq),fun j hj hjp hjX _ => ?_⟩
  repeat rw [zJ _ _ _ _ (by omega)]
  exact hf1 j (by omega) hjp hjX
theorem w_DrainIn {F:Nat → Bool} {w:Wld} (hs:zD4 w ≤ 1048576):WC ctx.P 17 [.agg (wldV F w)] (fun X=>.tup [.agg (uL X (zR4 w)),.bool (ringB w)]) (zR4 w):=by
 refine WC.of ?_
 unfold zR4 ringB
 have hdo:zA8 w = true → DoOk ctx.P 83 [] w (zE2 w) (zP5 w):=fun hw=>d_Drain hw
 generalize zE2 w = w' at *
 generalize zP5 w = b at *
 refine AC.o okC Tryz.func17 rfl fun h nx hfr hnx hpre => ?_
 try simp [-qt,-qd,-ql,rgs,zC3,wldV_len,wldV_take]
 refine vC (w_asked (F:=F) (qs:=[]) hs hdo) (fun q hq=>by simp at hq) ?_
 rintro r h1 n1 ⟨⟨X,rfl,V1,hid1⟩,_,hf1⟩ hle1 hfr1
 dsimp only at hid1 hf1 hle1
 have K1:=fun j hj=>hf1 j hj (fun q hm=>by simp at hm)
 have z1:=K1 (nx + 1) (by omega)
 rw [zL] at z1
 try simp [-qt,-qd,-ql,rgs,z1,zS X _,yO,yH]
 refine ⟨fun j hj => ?_,X,rfl,V1.keep fun id hid => ?_,fun id hid=>by have:=hid1 id hid;omega⟩
 ·rw [zJ _ _ _ _ (by omega),K1 j (by omega)]
  repeat rw [zJ _ _ _ _ (by omega)]
 ·have:=hid1 id hid
  rw [zJ _ _ _ _ (by omega)]
end Go.AE.Tryz
end
section
/- Contracts of the reference's changes of heaps. -/
set_option maxRecDepth 8000
set_option maxHeartbeats 2000000
namespace Go.AE.Tryz
open Go.Proofs
open List renaming map_take → qt,map_drop → qd,map_tail → ql
theorem s_l3Join {p q:Bool} {x:Twg} {l r:List Twg} (hl:isH l) (hr:isH r) (hm:l.length + r.length ≤ 1000):PC ctx.P 318 [.agg (yD x),.view p 3 (l.map yD),.view q 3 (r.map yD)] (.view true 3 ((zE5 x l r).map yD)):=by
 have r1:=rkI_of hl
 have r2:=rkI_of hr
 by_cases hk:rk0 l < rk0 r
 ·have hk2:(rkI l < rkI r) = True:=by simp only [eq_iff_iff,iff_true];omega
  have hj:(zE5 x l r).map yD = yD ⟨x.due,x.seq,r.length⟩ :: (r.map yD ++ l.map yD):=by simp [zE5,hk]
  rw [hj]
  refine PC.o okC Tryz.func318 rfl (by rw [← hj];exact .vmap yV) fun h nx hnx => ?_
  try simp [-qt,-qd,-ql,rgs,yD,hk2]
  repeat' first | done | ((first | ((with_reducible show zT _ _ _ _ _ _);refine zB rfl fun _ => ?_) | ((with_reducible show zG _ _ _ 316 _ _);refine zD (s_l3Rank) ?_) | ((with_reducible show vS _ _ _ _ _ _ _ _);refine zP rfl rfl (by decide) (by decide) (by first | (simp [-qt,-qd,-ql,rgs,yD,hk2];done) | (simp [-qt,-qd,-ql,rgs,yD,hk2];rfl)) (by first | (simp [-qt,-qd,-ql,rgs,yD,hk2];done) | (simp [-qt,-qd,-ql,rgs,yD,hk2];rfl)) (by first | (simp;done) | (simp;omega)) (by first | (simp only [zW,LIM] at *; simp;omega) | (simp only [zW];simp;omega)) (by simp [iv,bv]) ?_)) <;> simp [-qt,-qd,-ql,rgs,yD,hk2]) | ((first | (with_reducible refine zA ?_ ?_)) <;> intro qb <;> (have qp:=qb;try simp only [psq] at qp) <;> simp [-qt,-qd,-ql,rgs,yD,hk2,qb])
  rw [if_pos (by omega),List.take_of_length_le (by simp;omega)]
  exact (finP_some ..).mpr ⟨rfl,zK⟩
 ·have hk2:(rkI l < rkI r) = False:=by simp only [eq_iff_iff,iff_false];omega
  have hj:(zE5 x l r).map yD = yD ⟨x.due,x.seq,l.length⟩ :: (l.map yD ++ r.map yD):=by simp [zE5,hk]
  rw [hj]
  refine PC.o okC Tryz.func318 rfl (by rw [← hj];exact .vmap yV) fun h nx hnx => ?_
  try simp [-qt,-qd,-ql,rgs,yD,hk2]
  repeat' first | done | ((first | ((with_reducible show zT _ _ _ _ _ _);refine zB rfl fun _ => ?_) | ((with_reducible show zG _ _ _ 316 _ _);refine zD (s_l3Rank) ?_) | ((with_reducible show vS _ _ _ _ _ _ _ _);refine zP rfl rfl (by decide) (by decide) (by first | (simp [-qt,-qd,-ql,rgs,yD,hk2];done) | (simp [-qt,-qd,-ql,rgs,yD,hk2];rfl)) (by first | (simp [-qt,-qd,-ql,rgs,yD,hk2];done) | (simp [-qt,-qd,-ql,rgs,yD,hk2];rfl)) (by first | (simp;done) | (simp;omega)) (by first | (simp only [zW,LIM] at *; simp;omega) | (simp only [zW];simp;omega)) (by simp [iv,bv]) ?_)) <;> simp [-qt,-qd,-ql,rgs,yD,hk2]) | ((first | (with_reducible refine zA ?_ ?_)) <;> intro qb <;> (have qp:=qb;try simp only [psq] at qp) <;> simp [-qt,-qd,-ql,rgs,yD,hk2,qb])
  rw [if_pos (by omega),List.take_of_length_le (by simp;omega)]
  exact (finP_some ..).mpr ⟨rfl,zK⟩
theorem s_l3MergeN:∀ (n:Nat) (p q:Bool) (a b:List Twg),a.length + b.length ≤ n → n ≤ 1000 → isH a → isH b → apart a b → PC ctx.P 246 [.view p 3 (a.map yD),.view q 3 (b.map yD)] (.view true 3 ((zO1 n a b).map yD)):=by
 intro n
 induction n with
 | zero =>
   intro p q a b hn hm ha hb hd
   obtain rfl:a = []:=List.eq_nil_of_length_eq_zero (by omega)
   obtain rfl:b = []:=List.eq_nil_of_length_eq_zero (by simpa using hn)
   rw [mrgN_l]
   have hc:=s_l3Copy (p:=q) (xs:=[]) (by simp)
   refine PC.o okC Tryz.func246 rfl (.vmap yV) fun h nx hnx => ?_
   try simp [-qt,-qd,-ql,rgs]
   repeat' first | done | ((first | ((with_reducible show zT _ _ _ _ _ _);refine zB rfl fun _ => ?_) | ((with_reducible show zH _ _ _ _ _ _ _);refine zC rfl omA omA ?_) | (refine zD (hc) ?_) | (with_reducible refine zF (i:=5) [(0,[],[]),(1,[],[]),(2,[],[]),(3,[],[]),(4,[],[]),(5,[],[]),(6,[],[]),(7,[],[])] (by kernel_rfl) ?_) | (with_reducible refine zF (i:=10) [(0,[],[]),(1,[],[]),(2,[],[]),(3,[],[]),(4,[],[]),(5,[],[]),(6,[.tmp 37],[]),(7,[],[]),(8,[],[])] (by kernel_rfl) ?_)) <;> simp [-qt,-qd,-ql,rgs]) | ((first | (with_reducible refine zA ?_ ?_)) <;> intro qb <;> (have qp:=qb;try simp only [psq] at qp) <;> simp [-qt,-qd,-ql,rgs,qb])
 | succ n ih =>
   intro p q a b hn hm ha hb hd
   by_cases ha0:a.length = 0
   ·obtain rfl:a = []:=List.eq_nil_of_length_eq_zero ha0
    rw [mrgN_l]
    refine PC.o okC Tryz.func246 rfl (.vmap yV) fun h nx hnx => ?_
    try simp [-qt,-qd,-ql,rgs]
    repeat' first | done | ((first | ((with_reducible show zT _ _ _ _ _ _);refine zB rfl fun _ => ?_) | ((with_reducible show zH _ _ _ _ _ _ _);refine zC rfl omA omA ?_) | ((with_reducible show zG _ _ _ 191 _ _);refine zD (s_l3Copy (p:=q) (xs:=b) (by omega)) ?_) | (with_reducible refine zF (i:=5) [(0,[],[]),(1,[],[]),(2,[],[]),(3,[],[]),(4,[],[]),(5,[],[]),(6,[],[]),(7,[],[])] (by kernel_rfl) ?_) | (with_reducible refine zF (i:=10) [(0,[],[]),(1,[],[]),(2,[],[]),(3,[],[]),(4,[],[]),(5,[],[]),(6,[.tmp 37],[]),(7,[],[]),(8,[],[])] (by kernel_rfl) ?_)) <;> simp [-qt,-qd,-ql,rgs]) | ((first | (with_reducible refine zA ?_ ?_)) <;> intro qb <;> (have qp:=qb;try simp only [psq] at qp) <;> simp [-qt,-qd,-ql,rgs,qb])
   have hx0:((a.length:Int) == 0) = false:=by simp;intro e;exact ha0 (by simp [e])
   by_cases hb0:b.length = 0
   ·obtain rfl:b = []:=List.eq_nil_of_length_eq_zero hb0
    rw [mrgN_r]
    refine PC.o okC Tryz.func246 rfl (.vmap yV) fun h nx hnx => ?_
    try simp [-qt,-qd,-ql,rgs,hx0]
    repeat' first | done | ((first | ((with_reducible show zT _ _ _ _ _ _);refine zB rfl fun _ => ?_) | ((with_reducible show zH _ _ _ _ _ _ _);refine zC rfl omA omA ?_) | ((with_reducible show zG _ _ _ 191 _ _);refine zD (s_l3Copy (p:=p) (xs:=a) (by omega)) ?_) | (with_reducible refine zF (i:=5) [(0,[],[]),(1,[],[]),(2,[],[]),(3,[],[]),(4,[],[]),(5,[],[]),(6,[],[]),(7,[],[])] (by kernel_rfl) ?_) | (with_reducible refine zF (i:=10) [(0,[],[]),(1,[],[]),(2,[],[]),(3,[],[]),(4,[],[]),(5,[],[]),(6,[.tmp 37],[]),(7,[],[]),(8,[],[])] (by kernel_rfl) ?_)) <;> simp [-qt,-qd,-ql,rgs,hx0]) | ((first | (with_reducible refine zA ?_ ?_)) <;> intro qb <;> (have qp:=qb;try simp only [psq] at qp) <;> simp [-qt,-qd,-ql,rgs,hx0,qb])
   have hy0:((b.length:Int) == 0) = false:=by simp;intro e;exact hb0 (by simp [e])
   have ha0:0 < a.length:=by omega
   have hb0:0 < b.length:=by omega
   by_cases hyx:lt2 (gt b 0) (gt a 0)
   ·have hcmp:(uQ (gt a 0) (gt b 0) < 0) = False:=by simp only [eq_iff_iff,iff_false];exact fun h=>lt2_irr hyx (cmp_lt.1 h)
    have pp:=zJ6 hb hb0
    have hl1:=mrgN_len n (b.drop ((gt b 0).lefts.toNat + 1)) a (by omega) pp.2.2.2.1 ha
    rw [mrgN_b ha0 hb0 hyx]
    have hq2:=ih q p (b.drop ((gt b 0).lefts.toNat + 1)) a (by omega) (by omega) pp.2.2.2.1 ha (zE1 (zK7 hd) _)
    have hq3:=mrgN_isH (n:=n) (by omega) pp.2.2.2.1 ha (zE1 (zK7 hd) _)
    refine PC.o okC Tryz.func246 rfl (.vmap yV) fun h nx hnx => ?_
    try simp [-qt,-qd,-ql,rgs,hx0,hy0,hcmp]
    repeat' first | done | ((first | ((with_reducible show zT _ _ _ _ _ _);refine zB rfl fun _ => ?_) | ((with_reducible show zH _ _ _ _ _ _ _);refine zC rfl omA omA ?_) | ((with_reducible show zG _ _ _ 317 _ _);refine zD (s_l3Ahead) ?_) | ((with_reducible show zG _ _ _ 245 _ _);refine zD (zI1 hb0 pp.1 pp.2.1) ?_) | (refine zD (hq2) ?_) | ((with_reducible show zG _ _ _ 318 _ _);refine zD (s_l3Join pp.2.2.1 hq3 (by omega)) ?_) | (with_reducible refine zF (i:=5) [(0,[],[]),(1,[],[]),(2,[],[]),(3,[],[]),(4,[],[]),(5,[],[]),(6,[],[]),(7,[],[])] (by kernel_rfl) ?_) | (with_reducible refine zF (i:=10) [(0,[],[]),(1,[],[]),(2,[],[]),(3,[],[]),(4,[],[]),(5,[],[]),(6,[.tmp 37],[]),(7,[],[]),(8,[],[])] (by kernel_rfl) ?_)) <;> simp [-qt,-qd,-ql,rgs,hx0,hy0,hcmp]) | ((first | (with_reducible refine zA ?_ ?_)) <;> intro qb <;> (have qp:=qb;try simp only [psq] at qp) <;> simp [-qt,-qd,-ql,rgs,hx0,hy0,hcmp,qb])
   ·have hcmp:(uQ (gt a 0) (gt b 0) < 0) = True:=by simp only [eq_iff_iff,iff_true];exact cmp_lt.2 (lt2_flip (hd _ (gt0_mem ha0) _ (gt0_mem hb0)) hyx)
    have pp:=zJ6 ha ha0
    have hl1:=mrgN_len n (a.drop ((gt a 0).lefts.toNat + 1)) b (by omega) pp.2.2.2.1 hb
    rw [mrgN_a ha0 hb0 hyx]
    have hq2:=ih p q (a.drop ((gt a 0).lefts.toNat + 1)) b (by omega) (by omega) pp.2.2.2.1 hb (zE1 hd _)
    have hq3:=mrgN_isH (n:=n) (by omega) pp.2.2.2.1 hb (zE1 hd _)
    refine PC.o okC Tryz.func246 rfl (.vmap yV) fun h nx hnx => ?_
    try simp [-qt,-qd,-ql,rgs,hx0,hy0,hcmp]
    repeat' first | done | ((first | ((with_reducible show zT _ _ _ _ _ _);refine zB rfl fun _ => ?_) | ((with_reducible show zH _ _ _ _ _ _ _);refine zC rfl omA omA ?_) | ((with_reducible show zG _ _ _ 317 _ _);refine zD (s_l3Ahead) ?_) | ((with_reducible show zG _ _ _ 245 _ _);refine zD (zI1 ha0 pp.1 pp.2.1) ?_) | (refine zD (hq2) ?_) | ((with_reducible show zG _ _ _ 318 _ _);refine zD (s_l3Join pp.2.2.1 hq3 (by omega)) ?_) | (with_reducible refine zF (i:=5) [(0,[],[]),(1,[],[]),(2,[],[]),(3,[],[]),(4,[],[]),(5,[],[]),(6,[],[]),(7,[],[])] (by kernel_rfl) ?_) | (with_reducible refine zF (i:=10) [(0,[],[]),(1,[],[]),(2,[],[]),(3,[],[]),(4,[],[]),(5,[],[]),(6,[.tmp 37],[]),(7,[],[]),(8,[],[])] (by kernel_rfl) ?_)) <;> simp [-qt,-qd,-ql,rgs,hx0,hy0,hcmp]) | ((first | (with_reducible refine zA ?_ ?_)) <;> intro qb <;> (have qp:=qb;try simp only [psq] at qp) <;> simp [-qt,-qd,-ql,rgs,hx0,hy0,hcmp,qb])
theorem s_l3Merge {p q:Bool} {a b:List Twg} (hl:a.length + b.length ≤ 1000) (ha:isH a) (hb:isH b) (hd:apart a b):PC ctx.P 246 [.view p 3 (a.map yD),.view q 3 (b.map yD)] (.view true 3 ((mrg a b).map yD)) :=
 s_l3MergeN _ p q a b (Nat.le_refl _) hl ha hb hd
theorem s_l3WithoutN:∀ (n:Nat) (p:Bool) (a:List Twg) (s:Int),a.length ≤ n → n ≤ 900 → isH a → once a → PC ctx.P 319 [.view p 3 (a.map yD),.int .i64 s] (.tup [.view true 3 ((woN n a s).map yD),.bool (a.any fun x=>x.seq == s)]):=by
 have hfz:∀ (xs:List Twg) (b:Bool),Fz (.tup [.view true 3 (xs.map yD),.bool b]):=fun xs b=>.tup _ (by simp only [List.mem_cons,List.not_mem_nil,or_false];rintro c (rfl | rfl);exact .vmap yV;exact .bool _)
 intro n
 induction n with
 | zero =>
   intro p a s hn hm ha ho
   obtain rfl:a = []:=List.eq_nil_of_length_eq_zero (by omega)
   have he:woN 0 [] s = []:=by simp [woN]
   rw [he]
   refine PC.o okC Tryz.func319 rfl (hfz _ _) fun h nx hnx => ?_
   try simp [-qt,-qd,-ql,rgs]
   repeat' first | done | ((first | ((with_reducible show zT _ _ _ _ _ _);refine zB rfl fun _ => ?_) | ((with_reducible show zH _ _ _ _ _ _ _);refine zC rfl omA omA ?_)) <;> simp [-qt,-qd,-ql,rgs]) | ((first | (with_reducible refine zA ?_ ?_)) <;> intro qb <;> (have qp:=qb;try simp only [psq] at qp) <;> simp [-qt,-qd,-ql,rgs,qb])
 | succ n ih =>
   intro p a s hn hm ha ho
   by_cases ha0:a.length = 0
   ·obtain rfl:a = []:=List.eq_nil_of_length_eq_zero ha0
    have he:woN (n + 1) [] s = []:=by simp [woN]
    rw [he]
    refine PC.o okC Tryz.func319 rfl (hfz _ _) fun h nx hnx => ?_
    try simp [-qt,-qd,-ql,rgs]
    repeat' first | done | ((first | ((with_reducible show zT _ _ _ _ _ _);refine zB rfl fun _ => ?_) | ((with_reducible show zH _ _ _ _ _ _ _);refine zC rfl omA omA ?_)) <;> simp [-qt,-qd,-ql,rgs]) | ((first | (with_reducible refine zA ?_ ?_)) <;> intro qb <;> (have qp:=qb;try simp only [psq] at qp) <;> simp [-qt,-qd,-ql,rgs,qb])
   have hx0:((a.length:Int) == 0) = false:=by simp;intro e;exact ha0 (by simp [e])
   have ha0:0 < a.length:=by omega
   have pp:=zJ6 ha ha0
   obtain ⟨o1,o2,o3,o4⟩:=once_part ho ha0 (k:=(gt a 0).lefts.toNat)
   have sp:=zK0 ha0 (gt a 0).lefts.toNat
   by_cases h1:(gt a 0).seq = s
   ·have hf:a.any (fun x=>x.seq == s) = true:=List.any_eq_true.2 ⟨_,gt0_mem ha0,by simpa using h1⟩
    rw [woN_1 ha0 h1,hf]
    have h1b:((gt a 0).seq == s) = true:=by simpa using h1
    refine PC.o okC Tryz.func319 rfl (hfz _ _) fun h nx hnx => ?_
    try simp [-qt,-qd,-ql,rgs,yD,hx0,h1b]
    repeat' first | done | ((first | ((with_reducible show zT _ _ _ _ _ _);refine zB rfl fun _ => ?_) | ((with_reducible show zH _ _ _ _ _ _ _);refine zC rfl omA omA ?_) | ((with_reducible show zG _ _ _ 245 _ _);refine zD (zI1 ha0 pp.1 pp.2.1) ?_) | ((with_reducible show zG _ _ _ 246 _ _);refine zD (s_l3Merge (by omega) pp.2.2.1 pp.2.2.2.1 o3) ?_)) <;> simp [-qt,-qd,-ql,rgs,yD,hx0,h1b]) | ((first | (with_reducible refine zA ?_ ?_)) <;> intro qb <;> (have qp:=qb;try simp only [psq] at qp) <;> simp [-qt,-qd,-ql,rgs,yD,hx0,h1b,qb])
   ·have h1b:((gt a 0).seq == s) = false:=by simpa using h1
    have hany:a.any (fun x=>x.seq == s) = ((a.tail.take (gt a 0).lefts.toNat).any (fun x=>x.seq == s) || (a.drop ((gt a 0).lefts.toNat + 1)).any (fun x=>x.seq == s)):=by
     conv=>lhs;rw [sp]
     rw [List.any_cons,List.any_append,h1b,Bool.false_or]
    have hi1:=ih p (a.tail.take (gt a 0).lefts.toNat) s (by omega) (by omega) pp.2.2.1 o1
    have hi2:=ih p (a.drop ((gt a 0).lefts.toNat + 1)) s (by omega) (by omega) pp.2.2.2.1 o2
    by_cases h2:(a.tail.take (gt a 0).lefts.toNat).any (fun x=>x.seq == s) = true
    ·have h2e:∃ x ∈ a.tail.take (gt a 0).lefts.toNat,x.seq = s:=by obtain ⟨x,hx,e⟩:=List.any_eq_true.1 h2;exact ⟨x,hx,by simpa using e⟩
     rw [woN_2 ha0 h1 h2e,hany]
     rw [h2] at hi1 ⊢
     obtain ⟨w1,w2⟩:=woN_sub (n:=n) (by omega) pp.2.2.1 o1 h2e
     refine PC.o okC Tryz.func319 rfl (hfz _ _) fun h nx hnx => ?_
     try simp [-qt,-qd,-ql,rgs,yD,hx0,h1b]
     repeat' first | done | ((first | ((with_reducible show zT _ _ _ _ _ _);refine zB rfl fun _ => ?_) | ((with_reducible show zH _ _ _ _ _ _ _);refine zC rfl omA omA ?_) | ((with_reducible show zG _ _ _ 245 _ _);refine zD (zI1 ha0 pp.1 pp.2.1) ?_) | (refine zD (hi1) ?_) | ((with_reducible show zG _ _ _ 318 _ _);refine zD (s_l3Join w1 pp.2.2.2.1 (by omega)) ?_)) <;> simp [-qt,-qd,-ql,rgs,yD,hx0,h1b]) | ((first | (with_reducible refine zA ?_ ?_)) <;> intro qb <;> (have qp:=qb;try simp only [psq] at qp) <;> simp [-qt,-qd,-ql,rgs,yD,hx0,h1b,qb])
    ·have h2f:(a.tail.take (gt a 0).lefts.toNat).any (fun x=>x.seq == s) = false:=by simpa using h2
     have h2e:¬ ∃ x ∈ a.tail.take (gt a 0).lefts.toNat,x.seq = s:=fun ⟨x,hx,e⟩=>h2 (List.any_eq_true.2 ⟨x,hx,by simpa using e⟩)
     rw [woN_3 ha0 h1 h2e,hany]
     rw [h2f] at hi1 ⊢
     rw [Bool.false_or]
     have w:isH (woN n (a.drop ((gt a 0).lefts.toNat + 1)) s) ∧ (woN n (a.drop ((gt a 0).lefts.toNat + 1)) s).length ≤ (a.drop ((gt a 0).lefts.toNat + 1)).length:=by
      by_cases h3:∃ x ∈ a.drop ((gt a 0).lefts.toNat + 1),x.seq = s
      ·obtain ⟨w1,w2⟩:=woN_sub (n:=n) (by omega) pp.2.2.2.1 o2 h3
       exact ⟨w1,by omega⟩
      ·rw [woN_none n pp.2.2.2.1 (fun x hx e=>h3 ⟨x,hx,e⟩)]
       exact ⟨pp.2.2.2.1,Nat.le_refl _⟩
     refine PC.o okC Tryz.func319 rfl (hfz _ _) fun h nx hnx => ?_
     try simp [-qt,-qd,-ql,rgs,yD,hx0,h1b]
     repeat' first | done | ((first | ((with_reducible show zT _ _ _ _ _ _);refine zB rfl fun _ => ?_) | ((with_reducible show zH _ _ _ _ _ _ _);refine zC rfl omA omA ?_) | ((with_reducible show zG _ _ _ 245 _ _);refine zD (zI1 ha0 pp.1 pp.2.1) ?_) | (refine zD (hi1) ?_) | (refine zD (hi2) ?_) | ((with_reducible show zG _ _ _ 318 _ _);refine zD (s_l3Join pp.2.2.1 w.1 (by omega)) ?_)) <;> simp [-qt,-qd,-ql,rgs,yD,hx0,h1b]) | ((first | (with_reducible refine zA ?_ ?_)) <;> intro qb <;> (have qp:=qb;try simp only [psq] at qp) <;> simp [-qt,-qd,-ql,rgs,yD,hx0,h1b,qb])
theorem s_Without {p:Bool} {a:List Twg} {s:Int} (hk:zC9 a = true):PC ctx.P 247 [.view p 3 (a.map yD),.int .i64 s] (.tup [.view true 3 ((if (a.any fun x=>x.seq == s) = true then wo a s else a).map yD),.bool (a.any fun x=>x.seq == s)]):=by
 obtain ⟨h1,h2,h3⟩:=zK3.1 hk
 have hw:=s_l3WithoutN a.length p a s (Nat.le_refl _) (by omega) h3 h2
 by_cases hb:(a.any fun x=>x.seq == s) = true
 ·rw [if_pos hb]
  rw [hb] at hw ⊢
  refine PC.o okC Tryz.func247 rfl (.tup _ (by simp only [List.mem_cons,List.not_mem_nil,or_false];rintro c (rfl | rfl);exact .vmap yV;exact .bool _)) fun h nx hnx => ?_
  try simp [-qt,-qd,-ql,rgs,hk,wo]
  repeat' first | done | ((first | ((with_reducible show zG _ _ _ 244 _ _);refine zD (s_HeapOk) ?_) | (refine zD (hw) ?_)) <;> simp [-qt,-qd,-ql,rgs,hk,wo]) | ((first | (with_reducible refine zA ?_ ?_)) <;> intro qb <;> (have qp:=qb;try simp only [psq] at qp) <;> simp [-qt,-qd,-ql,rgs,hk,wo,qb])
 ·rw [if_neg hb]
  have hb2:(a.any fun x=>x.seq == s) = false:=by simpa using hb
  rw [hb2] at hw ⊢
  refine PC.o okC Tryz.func247 rfl (.tup _ (by simp only [List.mem_cons,List.not_mem_nil,or_false];rintro c (rfl | rfl);exact .vmap yV;exact .bool _)) fun h nx hnx => ?_
  try simp [-qt,-qd,-ql,rgs,hk,wo]
  repeat' first | done | ((first | ((with_reducible show zG _ _ _ 244 _ _);refine zD (s_HeapOk) ?_) | (refine zD (hw) ?_) | ((with_reducible show zG _ _ _ 191 _ _);refine zD (s_l3Copy (p:=p) (xs:=a) (by omega)) ?_)) <;> simp [-qt,-qd,-ql,rgs,hk,wo]) | ((first | (with_reducible refine zA ?_ ?_)) <;> intro qb <;> (have qp:=qb;try simp only [psq] at qp) <;> simp [-qt,-qd,-ql,rgs,hk,wo,qb])
theorem f_Stopped {F:Nat → Bool} {t:Tms} {s:Int} (ht:vR t = true) (h0:0 ≤ yM t.list s):FC ctx.P 163 [.agg (yN F t),.int .i64 s] (.tup [.agg [.view true 3 ((uE t s).heap.map yD),.ref 0 5 0 t.list.length,.int .i64 t.next],.bool (zG7 t s)]) [.row 5 ((uE t s).list.map zX)]:=by
 obtain ⟨-,t2,t3,-,-,-⟩:=zC7.1 ht
 have hk:zC9 t.heap = true:=zK3.2 t3
 have hl:=zB4 t.list s
 have hn:(yM t.list s < 0) = False:=by simp only [eq_iff_iff,iff_false];omega
 have hany:(t.heap.any fun x=>x.seq == s) = zG7 t s:=by
  rw [Bool.eq_iff_iff,← heap_has ht s,List.any_eq_true];simp
 have hwo:=s_Without (p:=F 6) (a:=t.heap) (s:=s) hk
 rw [hany] at hwo
 have hst:(uE t s).heap = (if zG7 t s = true then wo t.heap s else t.heap):=by unfold uE;split <;> rfl
 have hsl:(uE t s).list.map zX = (t.list.map zX).set (yM t.list s).toNat (zX (offT (gt t.list (yM t.list s)))):=by
  rw [← List.map_set]
  congr 1
  unfold uE;split
  ·rfl
  ·rename_i h
   have:(gt t.list (yM t.list s)).armed = false:=by simpa [zG7,h0] using h
   have e:offT (gt t.list (yM t.list s)) = gt t.list (yM t.list s):=by
    cases hq:gt t.list (yM t.list s);rw [hq] at this;simp at this;simp [offT,this]
   rw [e,gt_get h0 hl,List.set_getElem_self]
 have hsb:zG7 t s = (gt t.list (yM t.list s)).armed:=by simp [zG7,h0]
 rw [← hst] at hwo
 rw [hsl]
 have hg:(t.list.map zX)[(yM t.list s).toNat]? = some (zX (gt t.list (yM t.list s))):=by rw [List.getElem?_map,zF6 h0 hl];rfl
 refine FC.o okC Tryz.func163 rfl ((okr_tms _ _ _ _)) ((fun e he=>by simp at he;subst he;rw [← hsl];exact zR zA3 _)) fun h nx hnx => ?_
 try simp [-qt,-qd,-ql,rgs,ht,hn,yN,zO hnx]
 repeat' first | done | ((first | ((with_reducible show zH _ _ _ _ _ _ _);refine zC rfl omA omA ?_) | ((with_reducible show zG _ _ _ 160 _ _);refine zD (zH3 (t:=t) (F:=F)) ?_) | ((with_reducible show zG _ _ _ 107 _ _);refine yB (zQ9 (F:=F) (s:=t) (by omega) (by omega)) ?_) | ((with_reducible show zG _ _ _ 161 _ _);refine zD (s_l4At (t:=t) (F:=F)) ?_) | (refine zD (hwo) ?_) | (((with_reducible show zH _ _ _ _ (.ref _ _ _ _) _ _);refine yK rfl (by omega) (by omega) ?_)) | (with_reducible refine zF (i:=9) [(0,[],[]),(1,[],[]),(2,[],[]),(3,[],[]),(4,[],[]),(5,[],[]),(6,[],[]),(7,[.tmp 34,.tmp 38],[]),(8,[],[])] (by kernel_rfl) ?_)) <;> simp [-qt,-qd,-ql,rgs,ht,hn,yN,zO hnx]) | ((first | (with_reducible refine zA ?_ ?_)) <;> intro qb <;> (have qp:=qb;try simp only [psq] at qp) <;> simp [-qt,-qd,-ql,rgs,ht,hn,yN,zO hnx,qb])
 refine storeE_at (sz:=5) (xs:=t.list.map zX) (cells:=zX (gt t.list (yM t.list s))) (by simp) (by simp) rfl (by decide) hg ?_
 rw [show splice (zX (gt t.list (yM t.list s))) 4 [.bool false] = zX (offT (gt t.list (yM t.list s))) from rfl]
 generalize hrow:(t.list.map zX).set (yM t.list s).toNat (zX (offT (gt t.list (yM t.list s)))) = row
 try simp [-qt,-qd,-ql,rgs,ht,hn,yN,zX,zO hnx]
 repeat' first | done | ((first | ((with_reducible show zH _ _ _ _ _ _ _);refine zC rfl omA omA ?_) | (refine zD (hwo) ?_) | (with_reducible refine zF (i:=9) [(0,[],[]),(1,[],[]),(2,[],[]),(3,[],[]),(4,[],[]),(5,[],[]),(6,[],[]),(7,[.tmp 34,.tmp 38],[]),(8,[],[])] (by kernel_rfl) ?_)) <;> simp [-qt,-qd,-ql,rgs,ht,hn,yN,zX,zO hnx]) | ((first | (with_reducible refine zA ?_ ?_)) <;> intro qb <;> (have qp:=qb;try simp only [psq] at qp) <;> simp [-qt,-qd,-ql,rgs,ht,hn,yN,zX,zO hnx,qb])
 exact finF1 (i:=nx + 11) zK (by omega) (by simp) (by simp [hsb])
end Go.AE.Tryz
end
