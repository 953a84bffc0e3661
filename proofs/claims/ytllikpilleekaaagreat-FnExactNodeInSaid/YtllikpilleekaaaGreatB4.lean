/- Contracts of the seat's functions: what each answers, for all arguments. -/
import Derived.Test.YtllikpilleekaaaGreatB3
import Derived.Test.YtllikpilleekaaaGreatB2
import Derived.Test.YtllikpilleekaaaGreatA3
set_option linter.unusedVariables false
set_option linter.unusedSimpArgs false
set_option linter.deprecated false
section
/- Contracts of the program's changes of heaps, as new rows. -/
set_option maxRecDepth 8000
set_option maxHeartbeats 2000000
namespace Go.AE.Tryz
open Go.Proofs
open List renaming map_take → qt,map_drop → qd,map_tail → ql
theorem f_growTwig {n:Nat} (h0:0 < n) (hm:n ≤ zY):FC ctx.P 353 [.nil,.int .i64 n] (.ref 0 3 0 0) [.row 3 (List.replicate n twZ)]:=by
 have hw:IntKind.i64.wrap (n:Int) = n:=zH (by simp only [zY] at hm;omega)
 have hw0:IntKind.i64.wrap 0 = 0:=rfl
 have q1:((n:Int) < 0) = False:=by simp only [eq_iff_iff,iff_false];omega
 have q2:(0 < n) = True:=by simp only [eq_iff_iff,iff_true];omega
 refine FC.o okC Tryz.func353 rfl ((.one _ (.one _ (.ref _ _ _ _ (by simp))))) ((fun e he=>by simp at he;subst he;exact twZ_fz _)) fun h nx hnx => ?_
 try simp [-qt,-qd,-ql,rgs,zH1,hw0,hw,q1,q2]
 repeat' first | done | ((first | ((with_reducible show zV _ _ _ _ _ _);refine zB rfl fun _ => ?_) | ((with_reducible show yP _ _ _ _ _ _ _ _);refine uY rfl omA omA ?_) | ((with_reducible show yP _ _ _ _ _ _ _ _);refine vJ rfl omA omA ?_) | ((with_reducible show yP _ _ _ _ _ _ _ _);refine vY rfl omA omA omA ?_) | (((with_reducible show capX _ _ _ _ _ _);refine cap_nil rfl ?_)) | (((with_reducible show yP _ _ _ _ .nil _ _ _);refine slice_nil rfl rfl rfl ?_)) | (((with_reducible show zerS _ _ _ _ _ _ _ _ _);refine zer_nil rfl (by decide) (by decide) rfl rfl h0 hm ?_)) | (((with_reducible show yP _ _ _ _ (.ref _ _ _ _) _ _ _);refine slice_ref (l:=0) (h:=0) rfl rfl (by simp [bndA]) (by omega) (by omega) ?_)) | ((with_reducible show vS _ _ _ _ _ _ _ _);refine zR rfl rfl (by decide) (by decide) (by first | (simp [-qt,-qd,-ql,rgs,zH1,hw0,hw,q1,q2];done) | (simp [-qt,-qd,-ql,rgs,zH1,hw0,hw,q1,q2];rfl)) (by first | (simp [-qt,-qd,-ql,rgs,zH1,hw0,hw,q1,q2];done) | (simp [-qt,-qd,-ql,rgs,zH1,hw0,hw,q1,q2];rfl)) (by first | (simp;done) | (simp;omega)) (by first | (simp only [zY,LIM] at *; simp;omega) | (simp only [zY];simp;omega)) (by simp [iv,bv]) ?_)) <;> simp [-qt,-qd,-ql,rgs,zH1,hw0,hw,q1,q2]) | ((first | (with_reducible refine zA ?_ ?_)) <;> intro qb <;> (have qp:=qb;try simp only [psq] at qp) <;> simp [-qt,-qd,-ql,rgs,zH1,hw0,hw,q1,q2,qb])
 exact finF1 (i:=nx + 18) zL (by omega) (by simp [twZ]) (by simp)
theorem f_concatTwig {p:Bool} {qs:List (Bool × List Twg)} (h0:0 < (cq qs qs.length).length) (hm:(cq qs qs.length).length ≤ 1048576) (hq:qs.length ≤ 1000):FC ctx.P 351 [.view p 1 (qs.map twV)] (.ref 0 3 0 ((cq qs qs.length).map yI).length) [.row 3 ((cq qs qs.length).map yI)]:=by
 have hlim:qs.length ≤ LIM:=by simp only [LIM];omega
 have hM:(cq qs qs.length).length ≤ zY:=by simp only [zY];omega
 refine FC.o1 okC Tryz.func351 rfl (zT yR _) fun h nx hnx => ?_
 try simp [-qt,-qd,-ql,rgs]
 repeat' first | done | ((first | ((with_reducible show zV _ _ _ _ _ _);refine zB rfl fun _ => ?_) | ((with_reducible show zI _ _ _ _ _ _ _);refine zC rfl omA omA ?_) | ((with_reducible show vS _ _ _ _ _ _ _ _);refine zR rfl rfl (by decide) (by decide) (by first | (simp [-qt,-qd,-ql,rgs];done) | (simp [-qt,-qd,-ql,rgs];rfl)) (by first | (simp [-qt,-qd,-ql,rgs];done) | (simp [-qt,-qd,-ql,rgs];rfl)) (by first | (simp;done) | (simp;omega)) (by first | (simp only [zY,LIM] at *; simp;omega) | (simp only [zY];simp;omega)) (by simp [iv,bv]) ?_)) <;> simp [-qt,-qd,-ql,rgs]) | ((first | (with_reducible refine zA ?_ ?_)) <;> intro qb <;> (have qp:=qb;try simp only [psq] at qp) <;> simp [-qt,-qd,-ql,rgs,qb])
 refine zX [3,5,11,12,13,14,15,16,17,18,19,20,21,22] (qs.length) (fun (i:Nat) a=>[(11,.int .i64 i),(3,.int .i64 ((cq qs i).length:Nat))]) (fun i_ a_ h_ _=>(fun i (_:Unit) _=>True) i_ a_ h_) (()) (by simp) ?_ zU (Nat.le_refl _) ?_
 ·trivial
 ·intro i a tm h' n' hle hJ hE hn' next hnx
  try dsimp only at hJ
  have hK:KeepB nx h' h:=KeepB.sub hE zL (by omega)
  simp [-qt,-qd,-ql]
  by_cases hlt:i < qs.length
  ·have hcl:=cq_lt hlt
   have hcs:=cq_succ hlt
   have hw:IntKind.i64.wrap ((((cq qs i).length:Nat):Int) + (((gt qs (i:Int)).2.length:Nat):Int)) = (((cq qs (i + 1)).length:Nat):Int):=by rw [zH (by omega),hcs,List.length_append];omega
   have hn:((((cq qs (i + 1)).length:Nat):Int) < 0) = False:=by simp only [eq_iff_iff,iff_false];omega
   try simp [-qt,-qd,-ql,rgs,twV,hlt,hw,hn]
   repeat' first | done | ((first | ((with_reducible show zV _ _ _ _ _ _);refine zB rfl fun _ => ?_) | ((with_reducible show zI _ _ _ _ _ _ _);refine zC rfl omA omA ?_) | ((with_reducible show vS _ _ _ _ _ _ _ _);refine zR rfl rfl (by decide) (by decide) (by first | (simp [-qt,-qd,-ql,rgs,twV,hlt,hw,hn];done) | (simp [-qt,-qd,-ql,rgs,twV,hlt,hw,hn];rfl)) (by first | (simp [-qt,-qd,-ql,rgs,twV,hlt,hw,hn];done) | (simp [-qt,-qd,-ql,rgs,twV,hlt,hw,hn];rfl)) (by first | (simp;done) | (simp;omega)) (by first | (simp only [zY,LIM] at *; simp;omega) | (simp only [zY];simp;omega)) (by simp [iv,bv]) ?_)) <;> simp [-qt,-qd,-ql,rgs,twV,hlt,hw,hn]) | ((first | (with_reducible refine zA ?_ ?_)) <;> intro qb <;> (have qp:=qb;try simp only [psq] at qp) <;> simp [-qt,-qd,-ql,rgs,twV,hlt,hw,hn,qb])
   refine hnx.go () ?_ ?_ ?_ ?_ ?_ ?_
   ·omega
   ·simp [zP hlt hlim]
   ·simp
   ·exact zL
   ·first | omega | (simp;omega)
   trivial
  ·have he:i = qs.length:=by omega
   subst he
   try simp [-qt,-qd,-ql,rgs,hlt]
   repeat' first | done | ((first | ((with_reducible show zV _ _ _ _ _ _);refine zB rfl fun _ => ?_) | ((with_reducible show zI _ _ _ _ _ _ _);refine zC rfl omA omA ?_) | ((with_reducible show zF _ _ _ 353 _ _);refine yA (f_growTwig h0 hM) ?_) | ((with_reducible show vS _ _ _ _ _ _ _ _);refine zR rfl rfl (by decide) (by decide) (by first | (simp [-qt,-qd,-ql,rgs,hlt];done) | (simp [-qt,-qd,-ql,rgs,hlt];rfl)) (by first | (simp [-qt,-qd,-ql,rgs,hlt];done) | (simp [-qt,-qd,-ql,rgs,hlt];rfl)) (by first | (simp;done) | (simp;omega)) (by first | (simp only [zY,LIM] at *; simp;omega) | (simp only [zY];simp;omega)) (by simp [iv,bv]) ?_)) <;> simp [-qt,-qd,-ql,rgs,hlt]) | ((first | (with_reducible refine zA ?_ ?_)) <;> intro qb <;> (have qp:=qb;try simp only [psq] at qp) <;> simp [-qt,-qd,-ql,rgs,hlt,qb])
   refine zX (h0:=h) (nx0:=nx) [6,8,27,28,29,30,31,32,33,34] (qs.length) (fun (i:Nat) a=>[(27,.int .i64 i),(6,.ref a 3 0 (cq qs i).length)]) (fun i (a:Nat) h' n'=>h' a = some (.row 3 ((cq qs i).map yI ++ List.replicate ((cq qs qs.length).length - (cq qs i).length) twZ)) ∧ nx ≤ a ∧ a < n') (n' + 4) (by simp) ?_ zL (by omega) ?_
   ·exact ⟨by simp,by omega,by omega⟩
   ·intro j a tm2 h2 n2 hle2 hJ2 hE2 hn2 next2 hnx2
    obtain ⟨g1,g2,g3⟩:=hJ2
    have k1:∀ k,(a = n2 + k) = False:=fun k=>by simp only [eq_iff_iff,iff_false];omega
    simp [-qt,-qd,-ql]
    by_cases hlt2:j < qs.length
    ·have hcl:=cq_lt hlt2
     have hcs:=cq_succ hlt2
     try simp [-qt,-qd,-ql,rgs,twV,hlt2,k1]
     repeat' first | done | ((first | ((with_reducible show zV _ _ _ _ _ _);refine zB rfl fun _ => ?_) | ((with_reducible show zI _ _ _ _ _ _ _);refine zC rfl omA omA ?_) | ((with_reducible show vS _ _ _ _ _ _ _ _);refine zR rfl rfl (by decide) (by decide) (by first | (simp [-qt,-qd,-ql,rgs,twV,hlt2,k1];done) | (simp [-qt,-qd,-ql,rgs,twV,hlt2,k1];rfl)) (by first | (simp [-qt,-qd,-ql,rgs,twV,hlt2,k1];done) | (simp [-qt,-qd,-ql,rgs,twV,hlt2,k1];rfl)) (by first | (simp;done) | (simp;omega)) (by first | (simp only [zY,LIM] at *; simp;omega) | (simp only [zY];simp;omega)) (by simp [iv,bv]) ?_)) <;> simp [-qt,-qd,-ql,rgs,twV,hlt2,k1]) | ((first | (with_reducible refine zA ?_ ?_)) <;> intro qb <;> (have qp:=qb;try simp only [psq] at qp) <;> simp [-qt,-qd,-ql,rgs,twV,hlt2,k1,qb])
     refine app_mid (ws:=(cq qs j).map yI ++ List.replicate ((cq qs qs.length).length - (cq qs j).length) twZ) (ys:=(gt qs (j:Int)).2.map yI) rfl rfl (by decide) (by decide) ?r1 ?r2 ?r3 ?r4 ?r5 ?_
     case r1=>exact g1
     case r2=>simp
     case r3=>simp
     case r4=>simp only [zY];simp;omega
     case r5=>simp [yI]
     rw [cq_row hlt2 rfl]
     try simp [-qt,-qd,-ql,rgs]
     repeat' first | done | ((first | ((with_reducible show zV _ _ _ _ _ _);refine zB rfl fun _ => ?_) | ((with_reducible show zI _ _ _ _ _ _ _);refine zC rfl omA omA ?_) | ((with_reducible show vS _ _ _ _ _ _ _ _);refine zR rfl rfl (by decide) (by decide) (by first | (simp [-qt,-qd,-ql,rgs];done) | (simp [-qt,-qd,-ql,rgs];rfl)) (by first | (simp [-qt,-qd,-ql,rgs];done) | (simp [-qt,-qd,-ql,rgs];rfl)) (by first | (simp;done) | (simp;omega)) (by first | (simp only [zY,LIM] at *; simp;omega) | (simp only [zY];simp;omega)) (by simp [iv,bv]) ?_)) <;> simp [-qt,-qd,-ql,rgs]) | ((first | (with_reducible refine zA ?_ ?_)) <;> intro qb <;> (have qp:=qb;try simp only [psq] at qp) <;> simp [-qt,-qd,-ql,rgs,qb])
     refine hnx2.go (n2 + 6) ?_ ?_ ?_ ?_ ?_ ?_
     ·omega
     ·simp [zP hlt2 hlim,hcs]
     ·simp
     ·exact zL
     ·first | omega | (simp;omega)
     exact ⟨by simp,by omega,by omega⟩
    ·have he:j = qs.length:=by omega
     subst he
     try simp [-qt,-qd,-ql,rgs,hlt2,k1]
     repeat' first | done | ((first | ((with_reducible show zV _ _ _ _ _ _);refine zB rfl fun _ => ?_) | ((with_reducible show zI _ _ _ _ _ _ _);refine zC rfl omA omA ?_) | ((with_reducible show vS _ _ _ _ _ _ _ _);refine zR rfl rfl (by decide) (by decide) (by first | (simp [-qt,-qd,-ql,rgs,hlt2,k1];done) | (simp [-qt,-qd,-ql,rgs,hlt2,k1];rfl)) (by first | (simp [-qt,-qd,-ql,rgs,hlt2,k1];done) | (simp [-qt,-qd,-ql,rgs,hlt2,k1];rfl)) (by first | (simp;done) | (simp;omega)) (by first | (simp only [zY,LIM] at *; simp;omega) | (simp only [zY];simp;omega)) (by simp [iv,bv]) ?_)) <;> simp [-qt,-qd,-ql,rgs,hlt2,k1]) | ((first | (with_reducible refine zA ?_ ?_)) <;> intro qb <;> (have qp:=qb;try simp only [psq] at qp) <;> simp [-qt,-qd,-ql,rgs,hlt2,k1,qb])
     exact yQ (i:=a) zL (by first | omega | (simp;omega)) g2 (by simp [g1]) rfl (by simp)
theorem f_joined {p q:Bool} {x:Twg} {l r:List Twg} (hl:isH l) (hr:isH r) (hm:l.length + r.length ≤ 1000):FC ctx.P 345 [.agg (yI x),.view p 3 (l.map yI),.view q 3 (r.map yI)] (.ref 0 3 0 ((zI1 x l r).map yI).length) [.row 3 ((zI1 x l r).map yI)]:=by
 refine FC.o1 okC Tryz.func345 rfl (zT yR _) fun h nx hnx => ?_
 by_cases hk:rk0 l < rk0 r
 ·have hk2:((rk0 l:Int) < (rk0 r:Int)) = True:=by simp only [eq_iff_iff,iff_true];omega
  have hj:zI1 x l r = ⟨x.due,x.seq,r.length⟩ :: (r ++ l):=by simp [zI1,hk]
  try simp [-qt,-qd,-ql,rgs,yI,hk2]
  repeat' first | done | ((first | ((with_reducible show zF _ _ _ 348 _ _);refine zD (c_rank (zQ3 hl)) ?_) | ((with_reducible show zF _ _ _ 348 _ _);refine zD (c_rank (zQ3 hr)) ?_) | ((with_reducible show zF _ _ _ 347 _ _);refine zD (zH7) ?_)) <;> simp [-qt,-qd,-ql,rgs,yI,hk2]) | ((first | (with_reducible refine zA ?_ ?_)) <;> intro qb <;> (have qp:=qb;try simp only [psq] at qp) <;> simp [-qt,-qd,-ql,rgs,yI,hk2,qb])
  refine zM8 (f_concatTwig (p:=false) (qs:=[(false,[⟨x.due,x.seq,(r.length:Int)⟩]),(q,r),(p,l)]) (by simp [cq]) (by simp [cq];omega) (by simp)) (fun f=>by simp;exact .ref _ _ _ _) (fun e he=>by simp at he;subst he;exact twg_cl _) (.cons (Bor.row3 (by simp;rfl) (Bor.ref0 (by simp;rfl) rfl rfl) (.same _) (.same _)) .nil) ?_
  try simp [-qt,-qd,-ql,rgs]
  repeat' first | done | ((first | (with_reducible refine zA ?_ ?_)) <;> intro qb <;> (have qp:=qb;try simp only [psq] at qp) <;> simp [-qt,-qd,-ql,rgs,qb])
  rw [cq3n]
  exact yQ (i:=nx + 22) zL (by first | omega | (simp;done) | (simp;omega)) (by omega) (by simp [hj]) rfl (by simp [hj])
 ·have hk2:((rk0 l:Int) < (rk0 r:Int)) = False:=by simp only [eq_iff_iff,iff_false];omega
  have hj:zI1 x l r = ⟨x.due,x.seq,l.length⟩ :: (l ++ r):=by simp [zI1,hk]
  try simp [-qt,-qd,-ql,rgs,yI,hk2]
  repeat' first | done | ((first | ((with_reducible show zF _ _ _ 348 _ _);refine zD (c_rank (zQ3 hl)) ?_) | ((with_reducible show zF _ _ _ 348 _ _);refine zD (c_rank (zQ3 hr)) ?_) | ((with_reducible show zF _ _ _ 347 _ _);refine zD (zH7) ?_)) <;> simp [-qt,-qd,-ql,rgs,yI,hk2]) | ((first | (with_reducible refine zA ?_ ?_)) <;> intro qb <;> (have qp:=qb;try simp only [psq] at qp) <;> simp [-qt,-qd,-ql,rgs,yI,hk2,qb])
  refine zM8 (f_concatTwig (p:=false) (qs:=[(false,[⟨x.due,x.seq,(l.length:Int)⟩]),(p,l),(q,r)]) (by simp [cq]) (by simp [cq];omega) (by simp)) (fun f=>by simp;exact .ref _ _ _ _) (fun e he=>by simp at he;subst he;exact twg_cl _) (.cons (Bor.row3 (by simp;rfl) (Bor.ref0 (by simp;rfl) rfl rfl) (.same _) (.same _)) .nil) ?_
  try simp [-qt,-qd,-ql,rgs]
  repeat' first | done | ((first | (with_reducible refine zA ?_ ?_)) <;> intro qb <;> (have qp:=qb;try simp only [psq] at qp) <;> simp [-qt,-qd,-ql,rgs,qb])
  rw [cq3n]
  exact yQ (i:=nx + 18) zL (by first | omega | (simp;done) | (simp;omega)) (by omega) (by simp [hj]) rfl (by simp [hj])
theorem f_mergeN:∀ (n:Nat) (p q:Bool) (a b:List Twg),a.length + b.length ≤ n → n ≤ 1000 → isH a → isH b → apart a b → FC ctx.P 313 [.view p 3 (a.map yI),.view q 3 (b.map yI)] (.ref 0 3 0 ((zM9 n a b).map yI).length) [.row 3 ((zM9 n a b).map yI)]:=by
 intro n
 induction n with
 | zero =>
   intro p q a b hn hm ha hb hd
   obtain rfl:a = []:=List.eq_nil_of_length_eq_zero (by omega)
   obtain rfl:b = []:=List.eq_nil_of_length_eq_zero (by simpa using hn)
   rw [mrgN_l]
   have hc:=zI5 (p:=q) (xs:=[]) (by simp [zY])
   refine FC.o1 okC Tryz.func313 rfl (zT yR _) fun h nx hnx => ?_
   try simp [-qt,-qd,-ql,rgs]
   repeat' first | done | ((first | ((with_reducible show zV _ _ _ _ _ _);refine zB rfl fun _ => ?_) | ((with_reducible show zI _ _ _ _ _ _ _);refine zC rfl omA omA ?_) | (refine yA (hc) ?_) | (with_reducible refine zG (i:=5) [(0,[],[]),(1,[],[]),(2,[],[]),(3,[],[]),(4,[],[]),(5,[],[]),(6,[],[]),(7,[],[])] (by kernel_rfl) ?_) | (with_reducible refine zG (i:=8) [(0,[],[]),(1,[],[]),(2,[],[]),(3,[],[]),(4,[],[]),(5,[],[]),(6,[.tmp 33],[]),(7,[],[]),(8,[],[])] (by kernel_rfl) ?_)) <;> simp [-qt,-qd,-ql,rgs]) | ((first | (with_reducible refine zA ?_ ?_)) <;> intro qb <;> (have qp:=qb;try simp only [psq] at qp) <;> simp [-qt,-qd,-ql,rgs,qb])
   exact yQ (i:=nx + 7) zL (by first | omega | (simp;done) | (simp;omega)) (by omega) (by simp) rfl (by simp)
 | succ n ih =>
   intro p q a b hn hm ha hb hd
   by_cases ha0:a.length = 0
   ·obtain rfl:a = []:=List.eq_nil_of_length_eq_zero ha0
    have hc:=zI5 (p:=q) (xs:=b) (by simp only [zY];omega)
    rw [mrgN_l]
    refine FC.o1 okC Tryz.func313 rfl (zT yR _) fun h nx hnx => ?_
    try simp [-qt,-qd,-ql,rgs]
    repeat' first | done | ((first | ((with_reducible show zV _ _ _ _ _ _);refine zB rfl fun _ => ?_) | ((with_reducible show zI _ _ _ _ _ _ _);refine zC rfl omA omA ?_) | (refine yA (hc) ?_) | (with_reducible refine zG (i:=5) [(0,[],[]),(1,[],[]),(2,[],[]),(3,[],[]),(4,[],[]),(5,[],[]),(6,[],[]),(7,[],[])] (by kernel_rfl) ?_) | (with_reducible refine zG (i:=8) [(0,[],[]),(1,[],[]),(2,[],[]),(3,[],[]),(4,[],[]),(5,[],[]),(6,[.tmp 33],[]),(7,[],[]),(8,[],[])] (by kernel_rfl) ?_)) <;> simp [-qt,-qd,-ql,rgs]) | ((first | (with_reducible refine zA ?_ ?_)) <;> intro qb <;> (have qp:=qb;try simp only [psq] at qp) <;> simp [-qt,-qd,-ql,rgs,qb])
    exact yQ (i:=nx + 7) zL (by first | omega | (simp;done) | (simp;omega)) (by omega) (by simp) rfl (by simp)
   have hx0:((a.length:Int) == 0) = false:=by simp;intro e;exact ha0 (by simp [e])
   by_cases hb0:b.length = 0
   ·obtain rfl:b = []:=List.eq_nil_of_length_eq_zero hb0
    have hc:=zI5 (p:=p) (xs:=a) (by simp only [zY];omega)
    rw [mrgN_r]
    refine FC.o1 okC Tryz.func313 rfl (zT yR _) fun h nx hnx => ?_
    try simp [-qt,-qd,-ql,rgs,hx0]
    repeat' first | done | ((first | ((with_reducible show zV _ _ _ _ _ _);refine zB rfl fun _ => ?_) | ((with_reducible show zI _ _ _ _ _ _ _);refine zC rfl omA omA ?_) | (refine yA (hc) ?_) | (with_reducible refine zG (i:=5) [(0,[],[]),(1,[],[]),(2,[],[]),(3,[],[]),(4,[],[]),(5,[],[]),(6,[],[]),(7,[],[])] (by kernel_rfl) ?_) | (with_reducible refine zG (i:=8) [(0,[],[]),(1,[],[]),(2,[],[]),(3,[],[]),(4,[],[]),(5,[],[]),(6,[.tmp 33],[]),(7,[],[]),(8,[],[])] (by kernel_rfl) ?_)) <;> simp [-qt,-qd,-ql,rgs,hx0]) | ((first | (with_reducible refine zA ?_ ?_)) <;> intro qb <;> (have qp:=qb;try simp only [psq] at qp) <;> simp [-qt,-qd,-ql,rgs,hx0,qb])
    exact yQ (i:=nx + 10) zL (by first | omega | (simp;done) | (simp;omega)) (by omega) (by simp) rfl (by simp)
   have hy0:((b.length:Int) == 0) = false:=by simp;intro e;exact hb0 (by simp [e])
   have ha0:0 < a.length:=by omega
   have hb0:0 < b.length:=by omega
   by_cases hyx:lt2 (gt b 0) (gt a 0)
   ·have hcmp:(uQ (gt b 0) (gt a 0) < 0) = True:=by simp only [eq_iff_iff,iff_true];exact cmp_lt.2 hyx
    have pp:=isH_part hb hb0
    have hl1:=mrgN_len n (b.drop ((gt b 0).lefts.toNat + 1)) a (by omega) pp.2.2.2.1 ha
    rw [mrgN_b ha0 hb0 hyx]
    have hq2:=ih q p (b.drop ((gt b 0).lefts.toNat + 1)) a (by omega) (by omega) pp.2.2.2.1 ha (zE5 (zJ6 hd) _)
    have hq3:=mrgN_isH (n:=n) (by omega) pp.2.2.2.1 ha (zE5 (zJ6 hd) _)
    refine FC.o1 okC Tryz.func313 rfl (zT yR _) fun h nx hnx => ?_
    try simp [-qt,-qd,-ql,rgs,hx0,hy0,hcmp]
    repeat' first | done | ((first | ((with_reducible show zV _ _ _ _ _ _);refine zB rfl fun _ => ?_) | ((with_reducible show zI _ _ _ _ _ _ _);refine zC rfl omA omA ?_) | ((with_reducible show zF _ _ _ 343 _ _);refine zD (c_compare) ?_) | ((with_reducible show zF _ _ _ 344 _ _);refine zD (c_parts hb0 pp.1 pp.2.1) ?_) | (refine yA (hq2) ?_) | (with_reducible refine zG (i:=5) [(0,[],[]),(1,[],[]),(2,[],[]),(3,[],[]),(4,[],[]),(5,[],[]),(6,[],[]),(7,[],[])] (by kernel_rfl) ?_) | (with_reducible refine zG (i:=8) [(0,[],[]),(1,[],[]),(2,[],[]),(3,[],[]),(4,[],[]),(5,[],[]),(6,[.tmp 33],[]),(7,[],[]),(8,[],[])] (by kernel_rfl) ?_)) <;> simp [-qt,-qd,-ql,rgs,hx0,hy0,hcmp]) | ((first | (with_reducible refine zA ?_ ?_)) <;> intro qb <;> (have qp:=qb;try simp only [psq] at qp) <;> simp [-qt,-qd,-ql,rgs,hx0,hy0,hcmp,qb])
    refine zM8 (f_joined (p:=q) (q:=false) pp.2.2.1 hq3 (by omega)) (fun f=>by simp;exact .ref _ _ _ _) (fun e he=>by simp at he;subst he;exact twg_cl _) (.cons (.same _) (.cons (.same _) (.cons (Bor.ref0 (by first | (simp;done) | (simp;rfl)) rfl (by simp)) .nil))) ?_
    try simp [-qt,-qd,-ql,rgs]
    repeat' first | done | ((first | ((with_reducible show zV _ _ _ _ _ _);refine zB rfl fun _ => ?_) | ((with_reducible show zI _ _ _ _ _ _ _);refine zC rfl omA omA ?_) | (with_reducible refine zG (i:=5) [(0,[],[]),(1,[],[]),(2,[],[]),(3,[],[]),(4,[],[]),(5,[],[]),(6,[],[]),(7,[],[])] (by kernel_rfl) ?_) | (with_reducible refine zG (i:=8) [(0,[],[]),(1,[],[]),(2,[],[]),(3,[],[]),(4,[],[]),(5,[],[]),(6,[.tmp 33],[]),(7,[],[]),(8,[],[])] (by kernel_rfl) ?_)) <;> simp [-qt,-qd,-ql,rgs]) | ((first | (with_reducible refine zA ?_ ?_)) <;> intro qb <;> (have qp:=qb;try simp only [psq] at qp) <;> simp [-qt,-qd,-ql,rgs,qb])
    exact yQ zL (by first | omega | (simp;done) | (simp;omega)) (by omega) (by simp) rfl (by simp)
   ·have hcmp:(uQ (gt b 0) (gt a 0) < 0) = False:=by simp only [eq_iff_iff,iff_false];exact fun h=>hyx (cmp_lt.1 h)
    have pp:=isH_part ha ha0
    have hl1:=mrgN_len n (a.drop ((gt a 0).lefts.toNat + 1)) b (by omega) pp.2.2.2.1 hb
    rw [mrgN_a ha0 hb0 hyx]
    have hq2:=ih p q (a.drop ((gt a 0).lefts.toNat + 1)) b (by omega) (by omega) pp.2.2.2.1 hb (zE5 hd _)
    have hq3:=mrgN_isH (n:=n) (by omega) pp.2.2.2.1 hb (zE5 hd _)
    refine FC.o1 okC Tryz.func313 rfl (zT yR _) fun h nx hnx => ?_
    try simp [-qt,-qd,-ql,rgs,hx0,hy0,hcmp]
    repeat' first | done | ((first | ((with_reducible show zV _ _ _ _ _ _);refine zB rfl fun _ => ?_) | ((with_reducible show zI _ _ _ _ _ _ _);refine zC rfl omA omA ?_) | ((with_reducible show zF _ _ _ 343 _ _);refine zD (c_compare) ?_) | ((with_reducible show zF _ _ _ 344 _ _);refine zD (c_parts ha0 pp.1 pp.2.1) ?_) | (refine yA (hq2) ?_) | (with_reducible refine zG (i:=5) [(0,[],[]),(1,[],[]),(2,[],[]),(3,[],[]),(4,[],[]),(5,[],[]),(6,[],[]),(7,[],[])] (by kernel_rfl) ?_) | (with_reducible refine zG (i:=8) [(0,[],[]),(1,[],[]),(2,[],[]),(3,[],[]),(4,[],[]),(5,[],[]),(6,[.tmp 33],[]),(7,[],[]),(8,[],[])] (by kernel_rfl) ?_)) <;> simp [-qt,-qd,-ql,rgs,hx0,hy0,hcmp]) | ((first | (with_reducible refine zA ?_ ?_)) <;> intro qb <;> (have qp:=qb;try simp only [psq] at qp) <;> simp [-qt,-qd,-ql,rgs,hx0,hy0,hcmp,qb])
    refine zM8 (f_joined (p:=p) (q:=false) pp.2.2.1 hq3 (by omega)) (fun f=>by simp;exact .ref _ _ _ _) (fun e he=>by simp at he;subst he;exact twg_cl _) (.cons (.same _) (.cons (.same _) (.cons (Bor.ref0 (by first | (simp;done) | (simp;rfl)) rfl (by simp)) .nil))) ?_
    try simp [-qt,-qd,-ql,rgs]
    repeat' first | done | ((first | ((with_reducible show zV _ _ _ _ _ _);refine zB rfl fun _ => ?_) | ((with_reducible show zI _ _ _ _ _ _ _);refine zC rfl omA omA ?_) | (with_reducible refine zG (i:=5) [(0,[],[]),(1,[],[]),(2,[],[]),(3,[],[]),(4,[],[]),(5,[],[]),(6,[],[]),(7,[],[])] (by kernel_rfl) ?_) | (with_reducible refine zG (i:=8) [(0,[],[]),(1,[],[]),(2,[],[]),(3,[],[]),(4,[],[]),(5,[],[]),(6,[.tmp 33],[]),(7,[],[]),(8,[],[])] (by kernel_rfl) ?_)) <;> simp [-qt,-qd,-ql,rgs]) | ((first | (with_reducible refine zA ?_ ?_)) <;> intro qb <;> (have qp:=qb;try simp only [psq] at qp) <;> simp [-qt,-qd,-ql,rgs,qb])
    exact yQ zL (by first | omega | (simp;done) | (simp;omega)) (by omega) (by simp) rfl (by simp)
theorem f_merge {p q:Bool} {a b:List Twg} (hl:a.length + b.length ≤ 1000) (ha:isH a) (hb:isH b) (hd:apart a b):FC ctx.P 313 [.view p 3 (a.map yI),.view q 3 (b.map yI)] (.ref 0 3 0 ((mrg a b).map yI).length) [.row 3 ((mrg a b).map yI)] :=
 f_mergeN _ p q a b (Nat.le_refl _) hl ha hb hd
theorem f_put {p:Bool} {a:List Twg} {d s:Int} (hl:a.length ≤ 900) (ha:isH a) (hd:∀ x ∈ a,x.seq ≠ s):FC ctx.P 239 [.view p 3 (a.map yI),.int .i64 d,.int .i64 s] (.ref 0 3 0 ((putH a d s).map yI).length) [.row 3 ((putH a d s).map yI)]:=by
 refine FC.o1 okC Tryz.func239 rfl (zT yR _) fun h nx hnx => ?_
 try simp [-qt,-qd,-ql,rgs]
 refine zM8 (f_merge (p:=p) (q:=false) (b:=[⟨d,s,0⟩]) (by simp;omega) ha (isH_one d s) (fun x hx y hy=>by simp at hy;subst hy;exact hd x hx)) (fun f=>by simp;exact .ref _ _ _ _) (fun e he=>by simp at he;subst he;exact twg_cl _) (.cons (.same _) (.cons (Bor.ref0 (by first | (simp;done) | (simp;rfl)) rfl rfl) .nil)) ?_
 try simp [-qt,-qd,-ql,rgs]
 exact yQ zL (by first | omega | (simp;done) | (simp;omega)) (by omega) (by simp [putH]) rfl (by simp [putH])
end Go.AE.Tryz
end
section
/- Contracts of the program's changes of timers. -/
set_option maxRecDepth 8000
set_option maxHeartbeats 4000000
namespace Go.AE.Tryz
open Go.Proofs
open List renaming map_take → qt,map_drop → qd,map_tail → ql
end Go.AE.Tryz
end
section
/- Contracts of the program's request to create a node. -/
set_option maxRecDepth 8000
set_option maxHeartbeats 4000000
namespace Go.AE.Tryz
open Go.Proofs
open List renaming map_take → qt,map_drop → qd,map_tail → ql
theorem c_nodeFor {kind up a b:Int}:PC ctx.P 129 [.int .i64 kind,.int .i64 up,.int .i64 a,.int .i64 b] (.tup [.agg (yE (vA kind up a b)),.bool (zC3 kind a b)]):=by
 refine PC.o okC Tryz.func129 rfl (.tup _ (by simp only [List.mem_cons,List.not_mem_nil,or_false];rintro c (rfl | rfl);exact .agg _ (zK6 _);exact .bool _)) fun h nx hnx => ?_
 by_cases h1:kind = 1
 ·subst h1
  have e1:vA 1 up a b = ⟨1,up,uJ,0,0⟩:=by simp [vA]
  have e2:zC3 1 a b = (a == 0 && b == 0):=by simp [zC3]
  rw [e1,e2]
  try simp [-qt,-qd,-ql,rgs,yE,uJ]
  repeat' first | done | ((first | (with_reducible refine zE ?_ ?_) | (with_reducible refine zA ?_ ?_)) <;> intro qb <;> (have qp:=qb;try simp only [psq] at qp) <;> simp [-qt,-qd,-ql,rgs,yE,uJ,qb])
 ·by_cases h4:kind = 4
  ·subst h4
   have e1:vA 4 up a b = ⟨4,up,uJ,0,0⟩:=by simp [vA]
   have e2:zC3 4 a b = (a == 0 && b == 0):=by simp [zC3]
   rw [e1,e2]
   try simp [-qt,-qd,-ql,rgs,yE,uJ]
   repeat' first | done | ((first | (with_reducible refine zE ?_ ?_) | (with_reducible refine zA ?_ ?_)) <;> intro qb <;> (have qp:=qb;try simp only [psq] at qp) <;> simp [-qt,-qd,-ql,rgs,yE,uJ,qb])
  ·by_cases h2:kind = 2
   ·subst h2
    have e1:vA 2 up a b = ⟨2,up,a,0,0⟩:=by simp [vA]
    have e2:zC3 2 a b = (b == 0):=by simp [zC3]
    rw [e1,e2]
    try simp [-qt,-qd,-ql,rgs,yE,uJ]
    repeat' first | done | ((first | (with_reducible refine zE ?_ ?_) | (with_reducible refine zA ?_ ?_)) <;> intro qb <;> (have qp:=qb;try simp only [psq] at qp) <;> simp [-qt,-qd,-ql,rgs,yE,uJ,qb])
   ·by_cases h3:kind = 3
    ·subst h3
     have e1:vA 3 up a b = ⟨3,up,uJ,a,b⟩:=by simp [vA]
     have e2:zC3 3 a b = true:=by simp [zC3]
     rw [e1,e2]
     try simp [-qt,-qd,-ql,rgs,yE,uJ]
     repeat' first | done | ((first | (with_reducible refine zE ?_ ?_) | (with_reducible refine zA ?_ ?_)) <;> intro qb <;> (have qp:=qb;try simp only [psq] at qp) <;> simp [-qt,-qd,-ql,rgs,yE,uJ,qb])
    ·have e1:vA kind up a b = ⟨kind,up,uJ,0,0⟩:=by simp [vA,h2,h3]
     have e2:zC3 kind a b = false:=by simp [zC3,h1,h2,h3,h4]
     have b1:(kind == 1) = false:=by simpa using h1
     have b2:(kind == 2) = false:=by simpa using h2
     have b3:(kind == 3) = false:=by simpa using h3
     have b4:(kind == 4) = false:=by simpa using h4
     rw [e1,e2]
     try simp [-qt,-qd,-ql,rgs,yE,uJ,b1,b2,b3,b4,h1,h2,h3,h4]
     repeat' first | done | ((first | (with_reducible refine zE ?_ ?_) | (with_reducible refine zA ?_ ?_)) <;> intro qb <;> (have qp:=qb;try simp only [psq] at qp) <;> simp [-qt,-qd,-ql,rgs,yE,uJ,b1,b2,b3,b4,h1,h2,h3,h4,qb])
theorem m_begin {X:WI} {w:Wld} {p:Nat} {n:Int} (h4:w.spread.work.length ≤ 1048576):AC ctx.P 133 [.ptr p 4,.int .i64 n]
 (fun h _=>h p = some (.obj (zD5 X w)) ∧ WV h X w) (TmsQ p X (begW w n) (zE2 w n)):=by
 refine AC.o okC Tryz.func133 rfl fun h nx hfr hnx hpre => ?_
 obtain ⟨o1,V1⟩:=hpre
 have hp:p < nx:=hnx p (by rw [o1];simp)
 have hpX:=V1.obj o1
 have hin:=V1.lt hnx
 have t3:=V1.top 3 (by omega)
 have t4:=V1.top 4 (by omega)
 simp only [zJ1] at t3 t4
 have o0:=o1
 simp only [zD5] at o1
 have l4:=hin _ (WI.top_mem (X:=X) (k:=4) (by omega))
 have k1:∀ k,(p = nx + k) = False:=fun k=>by simp only [eq_iff_iff,iff_false];omega
 have k2:∀ k,(X.top 4 = nx + k) = False:=fun k=>by simp only [eq_iff_iff,iff_false];omega
 have k4:(p = X.top 4) = False:=by simp only [eq_iff_iff,iff_false];exact fun e=>hpX (e ▸ WI.top_mem (by omega))
 try simp [-qt,-qd,-ql,rgs,o1]
 repeat' first | done | ((first | ((with_reducible show zV _ _ _ _ _ _);refine zB rfl fun _ => ?_) | ((with_reducible show vS _ _ _ _ _ _ _ _);refine zR rfl rfl (by decide) (by decide) (by first | (simp [-qt,-qd,-ql,rgs,o1];done) | (simp [-qt,-qd,-ql,rgs,o1];rfl)) (by first | (simp [-qt,-qd,-ql,rgs,o1];done) | (simp [-qt,-qd,-ql,rgs,o1];rfl)) (by first | (simp;done) | (simp;omega)) (by first | (simp only [zY,LIM] at *; simp;omega) | (simp only [zY];simp;omega)) (by simp [iv,bv]) ?_)) <;> simp [-qt,-qd,-ql,rgs,o1]) | ((first | (with_reducible refine zE ?_ ?_) | (with_reducible refine zA ?_ ?_)) <;> intro qb <;> (have qp:=qb;try simp only [psq] at qp) <;> simp [-qt,-qd,-ql,rgs,o1,qb])
 refine yL (c_isIn_bool (p:=false) (n:=n) (xs:=w.spread.told)) (.bool _) ?hb ?_
 case hb=>exact .cons (.same _) (.cons (.ref0 (by simpa using t3) (by simp) (by simp)) .nil)
 by_cases hi:vU n w.spread.told = true
 ·by_cases hw:w.spread.work.length = 240
  ·have hc:zE2 w n = false:=by simp [zE2,zC5,hw]
   have e:begW w n = w:=by simp [begW,hc]
   rw [hc,e]
   try simp [-qt,-qd,-ql,rgs,o1,hi,hw]
   repeat' first | done | ((first | ((with_reducible show zV _ _ _ _ _ _);refine zB rfl fun _ => ?_) | ((with_reducible show vS _ _ _ _ _ _ _ _);refine zR rfl rfl (by decide) (by decide) (by first | (simp [-qt,-qd,-ql,rgs,o1,hi,hw];done) | (simp [-qt,-qd,-ql,rgs,o1,hi,hw];rfl)) (by first | (simp [-qt,-qd,-ql,rgs,o1,hi,hw];done) | (simp [-qt,-qd,-ql,rgs,o1,hi,hw];rfl)) (by first | (simp;done) | (simp;omega)) (by first | (simp only [zY,LIM] at *; simp;omega) | (simp only [zY];simp;omega)) (by simp [iv,bv]) ?_)) <;> simp [-qt,-qd,-ql,rgs,o1,hi,hw]) | ((first | (with_reducible refine zE ?_ ?_) | (with_reducible refine zA ?_ ?_)) <;> intro qb <;> (have qp:=qb;try simp only [psq] at qp) <;> simp [-qt,-qd,-ql,rgs,o1,hi,hw,qb])
   exact ⟨rfl,⟨X,o0,V1,fun id h=>.inl h⟩,fun j _ _ _=>rfl⟩
  ·have hc:zE2 w n = true:=by simp [zE2,zC5,hi,hw]
   have e:begW w n = begS w n:=by simp [begW,hc]
   have hw2:((w.spread.work.length:Int) == 240) = false:=by simp;omega
   rw [hc,e]
   try simp [-qt,-qd,-ql,rgs,o1,t4,hi,hw,hw2,iv,k1,k2,k4]
   repeat' first | done | ((first | ((with_reducible show zV _ _ _ _ _ _);refine zB rfl fun _ => ?_) | ((with_reducible show vS _ _ _ _ _ _ _ _);refine zR rfl rfl (by decide) (by decide) (by first | (simp [-qt,-qd,-ql,rgs,o1,t4,hi,hw,hw2,iv,k1,k2,k4];done) | (simp [-qt,-qd,-ql,rgs,o1,t4,hi,hw,hw2,iv,k1,k2,k4];rfl)) (by first | (simp [-qt,-qd,-ql,rgs,o1,t4,hi,hw,hw2,iv,k1,k2,k4];done) | (simp [-qt,-qd,-ql,rgs,o1,t4,hi,hw,hw2,iv,k1,k2,k4];rfl)) (by first | (simp;done) | (simp;omega)) (by first | (simp only [zY,LIM] at *; simp;omega) | (simp only [zY];simp;omega)) (by simp [iv,bv]) ?_)) <;> simp [-qt,-qd,-ql,rgs,o1,t4,hi,hw,hw2,iv,k1,k2,k4]) | ((first | (with_reducible refine zE ?_ ?_) | (with_reducible refine zA ?_ ?_)) <;> intro qb <;> (have qp:=qb;try simp only [psq] at qp) <;> simp [-qt,-qd,-ql,rgs,o1,t4,hi,hw,hw2,iv,k1,k2,k4,qb])
   refine ⟨rfl,⟨X.setTop 4 (nx + 23),?_,V1.newTop [] (by omega) (fun hm=>by have:=hin _ hm;omega) ?_ (by simp) (by simp) (fun k hk _ hne => ?_) rfl rfl (fun j hj _ hne => ?_),fun j hj => ?_⟩,fun j hj hjp hjX => ?_⟩
   ·rw [zM];simp [zD5,WI.setTop,begS,mkW]
   ·rw [zK _ _ _ _ (by omega),zM];simp [zJ1,begS,mkW,iv]
   ·rcases lt15 hk with rfl | rfl | rfl | rfl | rfl | rfl | rfl | rfl | rfl | rfl | rfl | rfl | rfl | rfl | rfl <;> first | rfl | exact absurd rfl hne
   ·have:=hin j hj
    rw [zK _ _ _ _ (fun (e:j = p)=>hpX (e ▸ hj)),zK _ _ _ _ (by omega),zK _ _ _ _ hne,zK _ _ _ _ (by omega)]
   ·rcases WI.setTop_ids hj with q | q
    ·exact .inl q
    ·right;omega
   ·rw [zK _ _ _ _ hjp,zK _ _ _ _ (by omega),zK _ _ _ _ (fun (e:j = X.top 4)=>hjX (e ▸ WI.top_mem (by omega))),zK _ _ _ _ (by omega)]
 ·have hi2:vU n w.spread.told = false:=by simpa using hi
  have hc:zE2 w n = false:=by simp [zE2,zC5,hi2]
  have e:begW w n = w:=by simp [begW,hc]
  rw [hc,e]
  try simp [-qt,-qd,-ql,rgs,o1,hi2]
  repeat' first | done | ((first | ((with_reducible show zV _ _ _ _ _ _);refine zB rfl fun _ => ?_) | ((with_reducible show vS _ _ _ _ _ _ _ _);refine zR rfl rfl (by decide) (by decide) (by first | (simp [-qt,-qd,-ql,rgs,o1,hi2];done) | (simp [-qt,-qd,-ql,rgs,o1,hi2];rfl)) (by first | (simp [-qt,-qd,-ql,rgs,o1,hi2];done) | (simp [-qt,-qd,-ql,rgs,o1,hi2];rfl)) (by first | (simp;done) | (simp;omega)) (by first | (simp only [zY,LIM] at *; simp;omega) | (simp only [zY];simp;omega)) (by simp [iv,bv]) ?_)) <;> simp [-qt,-qd,-ql,rgs,o1,hi2]) | ((first | (with_reducible refine zE ?_ ?_) | (with_reducible refine zA ?_ ?_)) <;> intro qb <;> (have qp:=qb;try simp only [psq] at qp) <;> simp [-qt,-qd,-ql,rgs,o1,hi2,qb])
  exact ⟨rfl,⟨X,o0,V1,fun id h=>.inl h⟩,fun j _ _ _=>rfl⟩
theorem m_cancel {X:WI} {w:Wld} {p:Nat} {n er ca:Int} (ht:vV w.tree = true) (h4:w.spread.work.length ≤ 1048576) (h2:w.events.length ≤ 1048576):AC ctx.P 135 [.ptr p 0,.int .i64 n,.int .i64 er,.int .i64 ca]
 (fun h _=>h p = some (.obj (zD5 X w)) ∧ WV h X w) (TmsQ p X (cutW w ⟨n,er,ca,w.now⟩) (zH5 w ⟨n,er,ca,w.now⟩)):=by
 refine AC.o okC Tryz.func135 rfl fun h nx hfr hnx hpre => ?_
 obtain ⟨o1,V1⟩:=hpre
 have hp:p < nx:=hnx p (by rw [o1];simp)
 have hpX:=V1.obj o1
 have hin:=V1.lt hnx
 have t1:=V1.top 1 (by omega)
 have t2:=V1.top 2 (by omega)
 simp only [zJ1] at t1 t2
 have o0:=o1
 simp only [zD5] at o1
 have l2:=hin _ (WI.top_mem (X:=X) (k:=2) (by omega))
 have k1:∀ k,(p = nx + k) = False:=fun k=>by simp only [eq_iff_iff,iff_false];omega
 have l1:=hin _ (WI.top_mem (X:=X) (k:=1) (by omega))
 have k2:∀ k,(X.top 1 = nx + k) = False:=fun k=>by simp only [eq_iff_iff,iff_false];omega
 have k3:∀ k,(X.top 2 = nx + k) = False:=fun k=>by simp only [eq_iff_iff,iff_false];omega
 try simp [-qt,-qd,-ql,rgs,o1,k1,yJ]
 repeat' first | done | ((first | ((with_reducible show vS _ _ _ _ _ _ _ _);refine zR rfl rfl (by decide) (by decide) (by first | (simp [-qt,-qd,-ql,rgs,o1,k1,yJ];done) | (simp [-qt,-qd,-ql,rgs,o1,k1,yJ];rfl)) (by first | (simp [-qt,-qd,-ql,rgs,o1,k1,yJ];done) | (simp [-qt,-qd,-ql,rgs,o1,k1,yJ];rfl)) (by first | (simp;done) | (simp;omega)) (by first | (simp only [zY,LIM] at *; simp;omega) | (simp only [zY];simp;omega)) (by simp [iv,bv]) ?_) | (with_reducible refine zG (i:=2) [(0,[],[]),(1,[],[]),(2,[],[]),(3,[],[]),(4,[],[]),(5,[],[]),(6,[],[]),(7,[],[]),(8,[],[]),(9,[],[]),(10,[],[]),(11,[],[]),(12,[],[]),(13,[],[]),(14,[],[]),(15,[],[]),(16,[],[]),(17,[],[]),(18,[],[])] (by kernel_rfl) ?_) | (with_reducible refine zG (i:=4) [(0,[],[]),(1,[],[]),(2,[],[]),(3,[],[]),(4,[],[6]),(5,[],[]),(6,[],[]),(7,[],[]),(8,[],[]),(9,[],[]),(10,[],[])] (by kernel_rfl) ?_)) <;> simp [-qt,-qd,-ql,rgs,o1,k1,yJ]) | ((first | (with_reducible refine zQ ?_ ?_) | (with_reducible refine zA ?_ ?_)) <;> intro qb <;> (have qp:=qb;try simp only [psq] at qp) <;> simp [-qt,-qd,-ql,rgs,o1,k1,yJ,qb])
 refine yL (c_fits (p:=false) (q:=false) (t:=w.tree) (l:=w.events) (e:=⟨n,er,ca,w.now⟩) ht) (.bool _) ?hb ?_
 case hb=>exact .cons (.same _) (.cons (.ref0 (by simp [t1,k2]) (by simp) (by simp)) (.cons (.ref0 (by simp [t2,k3]) (by simp) (by simp)) .nil))
 obtain ⟨e,hee⟩:∃ e:Evt,e = ⟨n,er,ca,w.now⟩:=⟨_,rfl⟩
 have hbg:=m_begin (X:=X) (w:=w) (p:=p) (n:=n) h4
 by_cases hf:fits w.tree w.events ⟨n,er,ca,w.now⟩ = true
 ·try simp [-qt,-qd,-ql,rgs,o1,k1,hf]
  repeat' first | done | ((first | ((with_reducible show vS _ _ _ _ _ _ _ _);refine zR rfl rfl (by decide) (by decide) (by first | (simp [-qt,-qd,-ql,rgs,o1,k1,hf];done) | (simp [-qt,-qd,-ql,rgs,o1,k1,hf];rfl)) (by first | (simp [-qt,-qd,-ql,rgs,o1,k1,hf];done) | (simp [-qt,-qd,-ql,rgs,o1,k1,hf];rfl)) (by first | (simp;done) | (simp;omega)) (by first | (simp only [zY,LIM] at *; simp;omega) | (simp only [zY];simp;omega)) (by simp [iv,bv]) ?_) | (with_reducible refine zG (i:=2) [(0,[],[]),(1,[],[]),(2,[],[]),(3,[],[]),(4,[],[]),(5,[],[]),(6,[],[]),(7,[],[]),(8,[],[]),(9,[],[]),(10,[],[]),(11,[],[]),(12,[],[]),(13,[],[]),(14,[],[]),(15,[],[]),(16,[],[]),(17,[],[]),(18,[],[])] (by kernel_rfl) ?_) | (with_reducible refine zG (i:=4) [(0,[],[]),(1,[],[]),(2,[],[]),(3,[],[]),(4,[],[6]),(5,[],[]),(6,[],[]),(7,[],[]),(8,[],[]),(9,[],[]),(10,[],[])] (by kernel_rfl) ?_)) <;> simp [-qt,-qd,-ql,rgs,o1,k1,hf]) | ((first | (with_reducible refine zQ ?_ ?_) | (with_reducible refine zA ?_ ?_)) <;> intro qb <;> (have qp:=qb;try simp only [psq] at qp) <;> simp [-qt,-qd,-ql,rgs,o1,k1,hf,qb])
  refine yX hbg ⟨by simp [k1,o0],V1.keep fun id hm=>by have:=hin id hm;dsimp only;repeat rw [zK _ _ _ _ (by omega)]⟩ ?_
  rintro r h1 n1 ⟨rfl,⟨X1,o2,V2,hid⟩,hf1⟩ hle1 hfr1
  dsimp only at hid hf1 hle1
  have hev:=hf1 (nx + 9) (by omega) (by omega) (fun hm=>by have:=hin _ hm;omega)
  simp at hev
  by_cases hb:zE2 w n = true
  ·have hc:zH5 w ⟨n,er,ca,w.now⟩ = true:=by simp [zH5,hf,hb]
   have hW:cutW w ⟨n,er,ca,w.now⟩ = cutS w ⟨n,er,ca,w.now⟩:=by simp [cutW,hc]
   have hW2:begW w n = begS w n:=by simp [begW,hb]
   rw [hc,hW]
   rw [hb]
   rw [hW2] at o2 V2
   have s2:=V2.top 2 (by omega)
   simp only [zJ1] at s2
   have p2:=V2.obj o2
   have in2:∀ j ∈ X1.ids,j < n1:=fun j hj=>by rcases hid j hj with r | r;(have:=hin j r;omega);omega
   have m2:=in2 _ (WI.top_mem (X:=X1) (k:=2) (by omega))
   have o3:=o2
   simp only [zD5] at o3
   have j1:∀ k,(p = n1 + k) = False:=fun k=>by simp only [eq_iff_iff,iff_false];omega
   have j2:∀ k,(X1.top 2 = n1 + k) = False:=fun k=>by simp only [eq_iff_iff,iff_false];omega
   have j3:(p = X1.top 2) = False:=by simp only [eq_iff_iff,iff_false];exact fun e=>p2 (e ▸ WI.top_mem (by omega))
   have j4:∀ k,(nx + 9 = n1 + k) = False:=fun k=>by simp only [eq_iff_iff,iff_false];omega
   try simp [-qt,-qd,-ql,rgs,o3,s2,hev,begS,mkW,yJ,j1,j2,j3,j4]
   repeat' first | done | ((first | ((with_reducible show vS _ _ _ _ _ _ _ _);refine zR rfl rfl (by decide) (by decide) (by first | (simp [-qt,-qd,-ql,rgs,o3,s2,hev,begS,mkW,yJ,j1,j2,j3,j4];done) | (simp [-qt,-qd,-ql,rgs,o3,s2,hev,begS,mkW,yJ,j1,j2,j3,j4];rfl)) (by first | (simp [-qt,-qd,-ql,rgs,o3,s2,hev,begS,mkW,yJ,j1,j2,j3,j4];done) | (simp [-qt,-qd,-ql,rgs,o3,s2,hev,begS,mkW,yJ,j1,j2,j3,j4];rfl)) (by first | (simp;done) | (simp;omega)) (by first | (simp only [zY,LIM] at *; simp;omega) | (simp only [zY];simp;omega)) (by simp [iv,bv]) ?_) | (with_reducible refine zG (i:=2) [(0,[],[]),(1,[],[]),(2,[],[]),(3,[],[]),(4,[],[]),(5,[],[]),(6,[],[]),(7,[],[]),(8,[],[]),(9,[],[]),(10,[],[]),(11,[],[]),(12,[],[]),(13,[],[]),(14,[],[]),(15,[],[]),(16,[],[]),(17,[],[]),(18,[],[])] (by kernel_rfl) ?_) | (with_reducible refine zG (i:=4) [(0,[],[]),(1,[],[]),(2,[],[]),(3,[],[]),(4,[],[6]),(5,[],[]),(6,[],[]),(7,[],[]),(8,[],[]),(9,[],[]),(10,[],[])] (by kernel_rfl) ?_)) <;> simp [-qt,-qd,-ql,rgs,o3,s2,hev,begS,mkW,yJ,j1,j2,j3,j4]) | ((first | (with_reducible refine zQ ?_ ?_) | (with_reducible refine zA ?_ ?_)) <;> intro qb <;> (have qp:=qb;try simp only [psq] at qp) <;> simp [-qt,-qd,-ql,rgs,o3,s2,hev,begS,mkW,yJ,j1,j2,j3,j4,qb])
   refine ⟨rfl,⟨X1.setTop 2 (n1 + 7),?_,V2.newTop [] (by omega) (fun hm=>by have:=in2 _ hm;omega) ?_ (by simp) (by simp) (fun k hk _ hne => ?_) rfl rfl (fun j hj _ hne => ?_),fun j hj => ?_⟩,fun j hj hjp hjX => ?_⟩
   ·rw [zM];simp [zD5,WI.setTop,cutS,begS,mkW]
   ·rw [zK _ _ _ _ (by omega),zM];simp [zJ1,cutS,mkW,yJ]
   ·rcases lt15 hk with rfl | rfl | rfl | rfl | rfl | rfl | rfl | rfl | rfl | rfl | rfl | rfl | rfl | rfl | rfl <;> first | rfl | exact absurd rfl hne
   ·have:=in2 j hj
    rw [zK _ _ _ _ (fun (e:j = p)=>p2 (e ▸ hj)),zK _ _ _ _ (by omega),zK _ _ _ _ hne,zK _ _ _ _ (by omega)]
   ·rcases WI.setTop_ids hj with q | q
    ·rcases hid j q with r | r
     ·exact .inl r
     ·right;omega
    ·right;omega
   ·have hne:j ≠ X1.top 2:=fun e=>by
     rcases hid (X1.top 2) (WI.top_mem (by omega)) with r | r
     ·exact hjX (e ▸ r)
     ·omega
    rw [zK _ _ _ _ hjp,zK _ _ _ _ (by omega),zK _ _ _ _ hne,zK _ _ _ _ (by omega),hf1 j (by omega) hjp hjX]
    repeat rw [zK _ _ _ _ (by omega)]
  ·have hb2:zE2 w n = false:=by simpa using hb
   have hc:zH5 w ⟨n,er,ca,w.now⟩ = false:=by simp [zH5,hb2]
   have hW:cutW w ⟨n,er,ca,w.now⟩ = w:=by simp [cutW,hc]
   have hW2:begW w n = w:=by simp [begW,hb2]
   rw [hc,hW]
   rw [hb2]
   rw [hW2] at o2 V2
   try simp [-qt,-qd,-ql,rgs]
   repeat' first | done | ((first | ((with_reducible show vS _ _ _ _ _ _ _ _);refine zR rfl rfl (by decide) (by decide) (by first | (simp [-qt,-qd,-ql,rgs];done) | (simp [-qt,-qd,-ql,rgs];rfl)) (by first | (simp [-qt,-qd,-ql,rgs];done) | (simp [-qt,-qd,-ql,rgs];rfl)) (by first | (simp;done) | (simp;omega)) (by first | (simp only [zY,LIM] at *; simp;omega) | (simp only [zY];simp;omega)) (by simp [iv,bv]) ?_) | (with_reducible refine zG (i:=2) [(0,[],[]),(1,[],[]),(2,[],[]),(3,[],[]),(4,[],[]),(5,[],[]),(6,[],[]),(7,[],[]),(8,[],[]),(9,[],[]),(10,[],[]),(11,[],[]),(12,[],[]),(13,[],[]),(14,[],[]),(15,[],[]),(16,[],[]),(17,[],[]),(18,[],[])] (by kernel_rfl) ?_) | (with_reducible refine zG (i:=4) [(0,[],[]),(1,[],[]),(2,[],[]),(3,[],[]),(4,[],[6]),(5,[],[]),(6,[],[]),(7,[],[]),(8,[],[]),(9,[],[]),(10,[],[])] (by kernel_rfl) ?_)) <;> simp [-qt,-qd,-ql,rgs]) | ((first | (with_reducible refine zQ ?_ ?_) | (with_reducible refine zA ?_ ?_)) <;> intro qb <;> (have qp:=qb;try simp only [psq] at qp) <;> simp [-qt,-qd,-ql,rgs,qb])
   refine ⟨rfl,⟨X1,o2,V2,fun id hm=>by rcases hid id hm with r | r <;> first | exact .inl r | (right;omega)⟩,fun j hj hjp hjX => ?_⟩
   rw [hf1 j (by omega) hjp hjX]
   repeat rw [zK _ _ _ _ (by omega)]
 ·have hf2:fits w.tree w.events ⟨n,er,ca,w.now⟩ = false:=by simpa using hf
  have hc:zH5 w ⟨n,er,ca,w.now⟩ = false:=by simp [zH5,hf2]
  have hW:cutW w ⟨n,er,ca,w.now⟩ = w:=by simp [cutW,hc]
  rw [hc,hW]
  try simp [-qt,-qd,-ql,rgs,o1,k1,hf2]
  repeat' first | done | ((first | ((with_reducible show vS _ _ _ _ _ _ _ _);refine zR rfl rfl (by decide) (by decide) (by first | (simp [-qt,-qd,-ql,rgs,o1,k1,hf2];done) | (simp [-qt,-qd,-ql,rgs,o1,k1,hf2];rfl)) (by first | (simp [-qt,-qd,-ql,rgs,o1,k1,hf2];done) | (simp [-qt,-qd,-ql,rgs,o1,k1,hf2];rfl)) (by first | (simp;done) | (simp;omega)) (by first | (simp only [zY,LIM] at *; simp;omega) | (simp only [zY];simp;omega)) (by simp [iv,bv]) ?_) | (with_reducible refine zG (i:=2) [(0,[],[]),(1,[],[]),(2,[],[]),(3,[],[]),(4,[],[]),(5,[],[]),(6,[],[]),(7,[],[]),(8,[],[]),(9,[],[]),(10,[],[]),(11,[],[]),(12,[],[]),(13,[],[]),(14,[],[]),(15,[],[]),(16,[],[]),(17,[],[]),(18,[],[])] (by kernel_rfl) ?_) | (with_reducible refine zG (i:=4) [(0,[],[]),(1,[],[]),(2,[],[]),(3,[],[]),(4,[],[6]),(5,[],[]),(6,[],[]),(7,[],[]),(8,[],[]),(9,[],[]),(10,[],[])] (by kernel_rfl) ?_)) <;> simp [-qt,-qd,-ql,rgs,o1,k1,hf2]) | ((first | (with_reducible refine zQ ?_ ?_) | (with_reducible refine zA ?_ ?_)) <;> intro qb <;> (have qp:=qb;try simp only [psq] at qp) <;> simp [-qt,-qd,-ql,rgs,o1,k1,hf2,qb])
  refine ⟨rfl,⟨X,by simp [k1,o0],V1.keep fun id hm=>by have:=hin id hm;(repeat rw [zK _ _ _ _ (by omega)]),fun id hm=>.inl hm⟩,fun j hj hjp hjX => ?_⟩
  repeat rw [zK _ _ _ _ (by omega)]
theorem m_arm {X:WI} {w:Wld} {p:Nat} {d what whom:Int} (ht:uD w.timers = true):AC ctx.P 136 [.ptr p 6,.int .i64 d,.int .i64 what,.int .i64 whom]
 (fun h _=>h p = some (.obj (zD5 X w)) ∧ WV h X w) (ChgQ p X (setT w (armT w.timers d what whom)) (.int .i64 (armI w.timers what whom))):=by
 obtain ⟨h1,h2,⟨h3,h4,h5⟩,h6,h7,h8⟩:=zK2.1 ht
 have ew:IntKind.i64.wrap (w.timers.next + 1) = w.timers.next + 1:=zH (by omega)
 refine AC.o okC Tryz.func136 rfl fun h nx hfr hnx hpre => ?_
 obtain ⟨o1,V1⟩:=hpre
 have hp:p < nx:=hnx p (by rw [o1];simp)
 have hpX:=V1.obj o1
 have hin:=V1.lt hnx
 have t5:=V1.top 5 (by omega)
 have t6:=V1.top 6 (by omega)
 simp only [zJ1] at t5 t6
 have o0:=o1
 simp only [zD5] at o1
 have l5:=hin _ (WI.top_mem (X:=X) (k:=5) (by omega))
 have l6:=hin _ (WI.top_mem (X:=X) (k:=6) (by omega))
 have k1:∀ k,(p = nx + k) = False:=fun k=>by simp only [eq_iff_iff,iff_false];omega
 have k2:∀ k,(X.top 5 = nx + k) = False:=fun k=>by simp only [eq_iff_iff,iff_false];omega
 have k3:∀ k,(X.top 6 = nx + k) = False:=fun k=>by simp only [eq_iff_iff,iff_false];omega
 have k4:(p = X.top 5) = False:=by simp only [eq_iff_iff,iff_false];exact fun e=>hpX (e ▸ WI.top_mem (by omega))
 have k5:(p = X.top 6) = False:=by simp only [eq_iff_iff,iff_false];exact fun e=>hpX (e ▸ WI.top_mem (by omega))
 have k6:(X.top 5 = X.top 6) = False:=by simp only [eq_iff_iff,iff_false];exact fun e=>absurd (V1.top_inj (by omega) (by omega) e) (by omega)
 have k7:(X.top 5 = p) = False:=by simp only [eq_iff_iff,iff_false];exact fun e=>hpX (e ▸ WI.top_mem (by omega))
 have k8:(X.top 6 = p) = False:=by simp only [eq_iff_iff,iff_false];exact fun e=>hpX (e ▸ WI.top_mem (by omega))
 have k9:∀ k,(nx + k = p) = False:=fun k=>by simp only [eq_iff_iff,iff_false];omega
 by_cases hc:zD3 w.timers what whom = true
 ·have e1:armT w.timers d what whom = armS w.timers d what whom:=by simp [armT,hc]
  have e2:armI w.timers what whom = w.timers.next:=by simp [armI,hc]
  rw [e1,e2]
  simp only [zD3,Bool.and_eq_true,decide_eq_true_eq,bne_iff_ne,ne_eq] at hc
  obtain ⟨c1,c2,c3,c4⟩:=hc
  obtain ⟨r1,r2⟩:=arm_room ht c1
  have c1p:((w.timers.list.length:Int) == 64) = false:=by simp;omega
  have c2p:(w.timers.next == 1000000) = false:=by simpa using c2
  try simp [-qt,-qd,-ql,rgs,o1,t5,t6,c1p,c2p,c3,c4,ew,yU,k1,k2,k3,k4,k5,k6]
  repeat' first | done | ((first | ((with_reducible show zV _ _ _ _ _ _);refine zB rfl fun _ => ?_) | ((with_reducible show zF _ _ _ 207 _ _);refine zD (yV) ?_) | ((with_reducible show vS _ _ _ _ _ _ _ _);refine zR rfl rfl (by decide) (by decide) (by first | (simp [-qt,-qd,-ql,rgs,o1,t5,t6,c1p,c2p,c3,c4,ew,yU,k1,k2,k3,k4,k5,k6];done) | (simp [-qt,-qd,-ql,rgs,o1,t5,t6,c1p,c2p,c3,c4,ew,yU,k1,k2,k3,k4,k5,k6];rfl)) (by first | (simp [-qt,-qd,-ql,rgs,o1,t5,t6,c1p,c2p,c3,c4,ew,yU,k1,k2,k3,k4,k5,k6];done) | (simp [-qt,-qd,-ql,rgs,o1,t5,t6,c1p,c2p,c3,c4,ew,yU,k1,k2,k3,k4,k5,k6];rfl)) (by first | (simp;done) | (simp;omega)) (by first | (simp only [zY,LIM] at *; simp;omega) | (simp only [zY];simp;omega)) (by simp [iv,bv]) ?_)) <;> simp [-qt,-qd,-ql,rgs,o1,t5,t6,c1p,c2p,c3,c4,ew,yU,k1,k2,k3,k4,k5,k6]) | ((first | (with_reducible refine zE ?_ ?_) | (with_reducible refine zA ?_ ?_)) <;> intro qb <;> (have qp:=qb;try simp only [psq] at qp) <;> simp [-qt,-qd,-ql,rgs,o1,t5,t6,c1p,c2p,c3,c4,ew,yU,k1,k2,k3,k4,k5,k6,qb])
  refine zM8 (f_put (p:=false) (a:=w.timers.heap) (d:=d) (s:=w.timers.next) (by omega) h5 r2) (fun f=>by simp;exact .ref _ _ _ _) (fun e he=>by simp at he;subst he;exact twg_cl _) (.cons (Bor.ref0 (by simp [t5,k1,k2,k3,k4,k5,k6,k7,k8]) (by simp) (by simp)) (.cons (.same _) (.cons (.same _) .nil))) ?_
  try simp [-qt,-qd,-ql,rgs,o1,k1,k2,k3,k4,k5,k6]
  repeat' first | done | ((first | ((with_reducible show zV _ _ _ _ _ _);refine zB rfl fun _ => ?_) | ((with_reducible show vS _ _ _ _ _ _ _ _);refine zR rfl rfl (by decide) (by decide) (by first | (simp [-qt,-qd,-ql,rgs,o1,k1,k2,k3,k4,k5,k6];done) | (simp [-qt,-qd,-ql,rgs,o1,k1,k2,k3,k4,k5,k6];rfl)) (by first | (simp [-qt,-qd,-ql,rgs,o1,k1,k2,k3,k4,k5,k6];done) | (simp [-qt,-qd,-ql,rgs,o1,k1,k2,k3,k4,k5,k6];rfl)) (by first | (simp;done) | (simp;omega)) (by first | (simp only [zY,LIM] at *; simp;omega) | (simp only [zY];simp;omega)) (by simp [iv,bv]) ?_)) <;> simp [-qt,-qd,-ql,rgs,o1,k1,k2,k3,k4,k5,k6]) | ((first | (with_reducible refine zE ?_ ?_) | (with_reducible refine zA ?_ ?_)) <;> intro qb <;> (have qp:=qb;try simp only [psq] at qp) <;> simp [-qt,-qd,-ql,rgs,o1,k1,k2,k3,k4,k5,k6,qb])
  refine ⟨rfl,⟨(X.setTop 6 (nx + 40)).setTop 5 (nx + 63),?_,V1.lay2 (by omega) (by omega) (by omega) (fun hm=>by have:=hin _ hm;omega) (fun hm=>by have:=hin _ hm;omega) (by omega) ?_ ?_ (fun k hk h6 h5 => ?_) rfl rfl (fun j hj h6 h5 => ?_),fun j hj => ?_⟩,fun j hj hjp hjX => ?_⟩
  ·rw [zM];simp [zD5,WI.setTop,setT,mkW,armS]
  ·simp [zJ1,setT,mkW,armS,yU,k9]
  ·simp [zJ1,setT,mkW,armS,k9]
  ·rcases lt15 hk with rfl | rfl | rfl | rfl | rfl | rfl | rfl | rfl | rfl | rfl | rfl | rfl | rfl | rfl | rfl <;> first | rfl | exact absurd rfl h6 | exact absurd rfl h5
  ·have:=hin j hj
   have hjp:j ≠ p:=fun e=>hpX (e ▸ hj)
   simp [hjp,h5,h6,show ∀ k,(j = nx + k) = False from fun k=>by simp only [eq_iff_iff,iff_false];omega]
  ·rcases WI.setTop_ids hj with q | q
   ·rcases WI.setTop_ids q with q | q
    ·exact .inl q
    ·right;omega
   ·right;omega
  ·have h5:j ≠ X.top 5:=fun e=>hjX (e ▸ WI.top_mem (by omega))
   have h6:j ≠ X.top 6:=fun e=>hjX (e ▸ WI.top_mem (by omega))
   simp [hjp,h5,h6,show ∀ k,(j = nx + k) = False from fun k=>by simp only [eq_iff_iff,iff_false];omega]
 ·have e1:armT w.timers d what whom = w.timers:=by simp [armT,hc]
  have e2:armI w.timers what whom = -1:=by simp [armI,hc]
  rw [e1,e2,setT_same]
  by_cases c1:w.timers.list.length = 64
  ·have c1p:((w.timers.list.length:Int) == 64) = true:=by simp;omega
   try simp [-qt,-qd,-ql,rgs,o1,c1p,k1,k2,k3,k4,k5,k6]
   repeat' first | done | ((first | ((with_reducible show zV _ _ _ _ _ _);refine zB rfl fun _ => ?_) | ((with_reducible show vS _ _ _ _ _ _ _ _);refine zR rfl rfl (by decide) (by decide) (by first | (simp [-qt,-qd,-ql,rgs,o1,c1p,k1,k2,k3,k4,k5,k6];done) | (simp [-qt,-qd,-ql,rgs,o1,c1p,k1,k2,k3,k4,k5,k6];rfl)) (by first | (simp [-qt,-qd,-ql,rgs,o1,c1p,k1,k2,k3,k4,k5,k6];done) | (simp [-qt,-qd,-ql,rgs,o1,c1p,k1,k2,k3,k4,k5,k6];rfl)) (by first | (simp;done) | (simp;omega)) (by first | (simp only [zY,LIM] at *; simp;omega) | (simp only [zY];simp;omega)) (by simp [iv,bv]) ?_)) <;> simp [-qt,-qd,-ql,rgs,o1,c1p,k1,k2,k3,k4,k5,k6]) | ((first | (with_reducible refine zE ?_ ?_) | (with_reducible refine zA ?_ ?_)) <;> intro qb <;> (have qp:=qb;try simp only [psq] at qp) <;> simp [-qt,-qd,-ql,rgs,o1,c1p,k1,k2,k3,k4,k5,k6,qb])
   exact ⟨rfl,⟨X,o0,V1,fun id h=>.inl h⟩,fun j _ _ _=>rfl⟩
  ·have c1p:((w.timers.list.length:Int) == 64) = false:=by simp;omega
   by_cases c2:w.timers.next = 1000000
   ·have c2p:(w.timers.next == 1000000) = true:=by simp [c2]
    try simp [-qt,-qd,-ql,rgs,o1,c1p,c2p,k1,k2,k3,k4,k5,k6]
    repeat' first | done | ((first | ((with_reducible show zV _ _ _ _ _ _);refine zB rfl fun _ => ?_) | ((with_reducible show vS _ _ _ _ _ _ _ _);refine zR rfl rfl (by decide) (by decide) (by first | (simp [-qt,-qd,-ql,rgs,o1,c1p,c2p,k1,k2,k3,k4,k5,k6];done) | (simp [-qt,-qd,-ql,rgs,o1,c1p,c2p,k1,k2,k3,k4,k5,k6];rfl)) (by first | (simp [-qt,-qd,-ql,rgs,o1,c1p,c2p,k1,k2,k3,k4,k5,k6];done) | (simp [-qt,-qd,-ql,rgs,o1,c1p,c2p,k1,k2,k3,k4,k5,k6];rfl)) (by first | (simp;done) | (simp;omega)) (by first | (simp only [zY,LIM] at *; simp;omega) | (simp only [zY];simp;omega)) (by simp [iv,bv]) ?_)) <;> simp [-qt,-qd,-ql,rgs,o1,c1p,c2p,k1,k2,k3,k4,k5,k6]) | ((first | (with_reducible refine zE ?_ ?_) | (with_reducible refine zA ?_ ?_)) <;> intro qb <;> (have qp:=qb;try simp only [psq] at qp) <;> simp [-qt,-qd,-ql,rgs,o1,c1p,c2p,k1,k2,k3,k4,k5,k6,qb])
    exact ⟨rfl,⟨X,o0,V1,fun id h=>.inl h⟩,fun j _ _ _=>rfl⟩
   ·have c2p:(w.timers.next == 1000000) = false:=by simpa using c2
    by_cases c3:inR what 0 2 = true
    ·have c4:inR whom 0 99 = false:=by
      cases hq:inR whom 0 99 with
      | false=>rfl
      | true=>exact absurd (by simp [zD3,c1,c2,c3,hq]) hc
     try simp [-qt,-qd,-ql,rgs,o1,c1p,c2p,c3,c4,k1,k2,k3,k4,k5,k6]
     repeat' first | done | ((first | ((with_reducible show zV _ _ _ _ _ _);refine zB rfl fun _ => ?_) | ((with_reducible show zF _ _ _ 207 _ _);refine zD (yV) ?_) | ((with_reducible show vS _ _ _ _ _ _ _ _);refine zR rfl rfl (by decide) (by decide) (by first | (simp [-qt,-qd,-ql,rgs,o1,c1p,c2p,c3,c4,k1,k2,k3,k4,k5,k6];done) | (simp [-qt,-qd,-ql,rgs,o1,c1p,c2p,c3,c4,k1,k2,k3,k4,k5,k6];rfl)) (by first | (simp [-qt,-qd,-ql,rgs,o1,c1p,c2p,c3,c4,k1,k2,k3,k4,k5,k6];done) | (simp [-qt,-qd,-ql,rgs,o1,c1p,c2p,c3,c4,k1,k2,k3,k4,k5,k6];rfl)) (by first | (simp;done) | (simp;omega)) (by first | (simp only [zY,LIM] at *; simp;omega) | (simp only [zY];simp;omega)) (by simp [iv,bv]) ?_)) <;> simp [-qt,-qd,-ql,rgs,o1,c1p,c2p,c3,c4,k1,k2,k3,k4,k5,k6]) | ((first | (with_reducible refine zE ?_ ?_) | (with_reducible refine zA ?_ ?_)) <;> intro qb <;> (have qp:=qb;try simp only [psq] at qp) <;> simp [-qt,-qd,-ql,rgs,o1,c1p,c2p,c3,c4,k1,k2,k3,k4,k5,k6,qb])
     exact ⟨rfl,⟨X,o0,V1,fun id h=>.inl h⟩,fun j _ _ _=>rfl⟩
    ·have c3f:inR what 0 2 = false:=by simpa using c3
     try simp [-qt,-qd,-ql,rgs,o1,c1p,c2p,c3f,k1,k2,k3,k4,k5,k6]
     repeat' first | done | ((first | ((with_reducible show zV _ _ _ _ _ _);refine zB rfl fun _ => ?_) | ((with_reducible show zF _ _ _ 207 _ _);refine zD (yV) ?_) | ((with_reducible show vS _ _ _ _ _ _ _ _);refine zR rfl rfl (by decide) (by decide) (by first | (simp [-qt,-qd,-ql,rgs,o1,c1p,c2p,c3f,k1,k2,k3,k4,k5,k6];done) | (simp [-qt,-qd,-ql,rgs,o1,c1p,c2p,c3f,k1,k2,k3,k4,k5,k6];rfl)) (by first | (simp [-qt,-qd,-ql,rgs,o1,c1p,c2p,c3f,k1,k2,k3,k4,k5,k6];done) | (simp [-qt,-qd,-ql,rgs,o1,c1p,c2p,c3f,k1,k2,k3,k4,k5,k6];rfl)) (by first | (simp;done) | (simp;omega)) (by first | (simp only [zY,LIM] at *; simp;omega) | (simp only [zY];simp;omega)) (by simp [iv,bv]) ?_)) <;> simp [-qt,-qd,-ql,rgs,o1,c1p,c2p,c3f,k1,k2,k3,k4,k5,k6]) | ((first | (with_reducible refine zE ?_ ?_) | (with_reducible refine zA ?_ ?_)) <;> intro qb <;> (have qp:=qb;try simp only [psq] at qp) <;> simp [-qt,-qd,-ql,rgs,o1,c1p,c2p,c3f,k1,k2,k3,k4,k5,k6,qb])
     exact ⟨rfl,⟨X,o0,V1,fun id h=>.inl h⟩,fun j _ _ _=>rfl⟩
theorem m_grow {X:WI} {w:Wld} {p:Nat} {kind up a b:Int} (hw:vQ w = true):AC ctx.P 46 [.ptr p 0,.int .i64 kind,.int .i64 up,.int .i64 a,.int .i64 b]
 (fun h _=>h p = some (.obj (zD5 X w)) ∧ WV h X w) (ChgQ p X (zN3 w kind up a b) (.tup [.int .i64 (growI w kind up a b),.bool (zN5 w kind up a b)])):=by
 have he:=wldOk_ev hw
 have ht:=zC0 he
 have hs:yW w.spread w.tree = true:=(zL5 hw).2.2.2.2.1
 have htm:uD w.timers = true:=(zL5 hw).2.2.2.2.2.2.1
 have hlt:=zE3 ht
 have hle:=events_len he
 have hwk:w.spread.work.length ≤ 240:=by simp only [yW,Bool.and_eq_true,decide_eq_true_eq] at hs;exact hs.2.1
 have htl:w.spread.told.length ≤ 60:=by simp only [yW,Bool.and_eq_true,beq_iff_eq] at hs;omega
 obtain ⟨x,hx⟩:∃ x,x = vA kind up a b:=⟨_,rfl⟩
 have hnf:=c_nodeFor (kind:=kind) (up:=up) (a:=a) (b:=b)
 rw [← hx] at hnf
 have hxk:x.kind = kind:=by rw [hx];unfold vA;split <;> first | rfl | (split <;> rfl)
 have hin0:=c_isNode (n:=x) (i:=w.tree.length) (by omega) (by simp only [LIM];omega)
 refine AC.o okC Tryz.func46 rfl fun h nx hfr hnx hpre => ?_
 obtain ⟨o1,V1⟩:=hpre
 have hp:p < nx:=hnx p (by rw [o1];simp)
 have hpX:=V1.obj o1
 have hin:=V1.lt hnx
 have t1:=V1.top 1 (by omega)
 have t3:=V1.top 3 (by omega)
 simp only [zJ1] at t1 t3
 have o0:=o1
 simp only [zD5] at o1
 have l1:=hin _ (WI.top_mem (X:=X) (k:=1) (by omega))
 have l3:=hin _ (WI.top_mem (X:=X) (k:=3) (by omega))
 have k1:∀ k,(p = nx + k) = False:=fun k=>by simp only [eq_iff_iff,iff_false];omega
 have k2:∀ k,(X.top 1 = nx + k) = False:=fun k=>by simp only [eq_iff_iff,iff_false];omega
 have k3:∀ k,(X.top 3 = nx + k) = False:=fun k=>by simp only [eq_iff_iff,iff_false];omega
 have k4:(p = X.top 1) = False:=by simp only [eq_iff_iff,iff_false];exact fun e=>hpX (e ▸ WI.top_mem (by omega))
 have k5:(p = X.top 3) = False:=by simp only [eq_iff_iff,iff_false];exact fun e=>hpX (e ▸ WI.top_mem (by omega))
 have k6:(X.top 1 = X.top 3) = False:=by simp only [eq_iff_iff,iff_false];exact fun e=>absurd (V1.top_inj (by omega) (by omega) e) (by omega)
 have k7:(X.top 3 = X.top 1) = False:=by simp only [eq_iff_iff,iff_false];exact fun e=>absurd (V1.top_inj (by omega) (by omega) e) (by omega)
 have k9:∀ k,(nx + k = p) = False:=fun k=>by simp only [eq_iff_iff,iff_false];omega
 have k10:∀ k,(nx + k = X.top 1) = False:=fun k=>by simp only [eq_iff_iff,iff_false];omega
 have k11:∀ k,(nx + k = X.top 3) = False:=fun k=>by simp only [eq_iff_iff,iff_false];omega
 by_cases hc:growC w kind up a b = true
 ·have hc':=hc
  simp only [growC,zF7,← hx,Bool.and_eq_true,decide_eq_true_eq] at hc'
  obtain ⟨c1,c2,c3⟩:=hc'
  have c2p:((w.tree.length:Int) == 60) = false:=by simp;omega
  have hW:zN3 w kind up a b = nodW (vH w x) x w.tree.length:=by simp [zN3,hc,hx]
  have hB:zN5 w kind up a b = nodB (vH w x) x w.tree.length:=by simp [zN5,hc,hx]
  have hI:growI w kind up a b = w.tree.length:=by simp [growI,hc]
  have ht2:vV (w.tree ++ [x]) = true:=by rw [zO9,ht];simp [zF7,c2,c3]
  rw [hW,hB,hI]
  try simp [-qt,-qd,-ql,rgs,o1,t1,c1,c2p,c3,k1,k2,k3,k4,k5,k6]
  repeat' first | done | ((first | ((with_reducible show zV _ _ _ _ _ _);refine zB rfl fun _ => ?_) | (refine zD (hnf) ?_) | (refine zD (hin0) ?_) | ((with_reducible show vS _ _ _ _ _ _ _ _);refine zR rfl rfl (by decide) (by decide) (by first | (simp [-qt,-qd,-ql,rgs,o1,t1,c1,c2p,c3,k1,k2,k3,k4,k5,k6];done) | (simp [-qt,-qd,-ql,rgs,o1,t1,c1,c2p,c3,k1,k2,k3,k4,k5,k6];rfl)) (by first | (simp [-qt,-qd,-ql,rgs,o1,t1,c1,c2p,c3,k1,k2,k3,k4,k5,k6];done) | (simp [-qt,-qd,-ql,rgs,o1,t1,c1,c2p,c3,k1,k2,k3,k4,k5,k6];rfl)) (by first | (simp;done) | (simp;omega)) (by first | (simp only [zY,LIM] at *; simp;omega) | (simp only [zY];simp;omega)) (by simp [iv,bv]) ?_) | (with_reducible refine zG (i:=2) [(0,[],[]),(1,[],[]),(2,[],[]),(3,[],[]),(4,[],[]),(5,[],[]),(6,[],[]),(7,[],[]),(8,[],[]),(9,[],[]),(10,[],[]),(11,[],[]),(12,[],[]),(13,[],[]),(14,[],[]),(15,[],[]),(16,[],[]),(17,[],[]),(18,[],[]),(19,[],[])] (by kernel_rfl) ?_) | (with_reducible refine zG (i:=5) [(0,[],[]),(1,[],[]),(2,[],[]),(3,[],[]),(4,[],[]),(5,[],[7,14]),(6,[],[14]),(9,[],[]),(10,[],[]),(11,[],[]),(12,[],[]),(13,[],[7,14]),(7,[],[]),(8,[.tmp 62],[14]),(14,[],[]),(15,[],[]),(16,[],[]),(17,[],[]),(18,[],[]),(19,[],[]),(20,[],[]),(21,[],[]),(22,[],[])] (by kernel_rfl) ?_) | (with_reducible refine zG (i:=6) [(0,[],[]),(1,[],[]),(2,[],[]),(3,[],[13]),(4,[],[]),(5,[],[]),(6,[],[]),(7,[],[13]),(8,[],[]),(9,[],[13]),(10,[],[]),(11,[],[]),(12,[],[]),(13,[],[]),(14,[],[]),(15,[],[])] (by kernel_rfl) ?_) | (with_reducible refine zG (i:=11) [(0,[],[]),(1,[],[]),(2,[],[]),(3,[],[]),(4,[],[]),(5,[],[]),(6,[],[]),(7,[],[])] (by kernel_rfl) ?_) | (with_reducible refine zG (i:=13) [(0,[],[]),(1,[],[]),(2,[],[]),(3,[],[]),(4,[],[]),(5,[],[]),(6,[],[]),(7,[],[]),(8,[],[]),(9,[],[]),(10,[],[])] (by kernel_rfl) ?_)) <;> simp [-qt,-qd,-ql,rgs,o1,t1,c1,c2p,c3,k1,k2,k3,k4,k5,k6]) | ((first | (with_reducible refine zQ ?_ ?_) | (with_reducible refine zE ?_ ?_) | (with_reducible refine zA ?_ ?_)) <;> intro qb <;> (have qp:=qb;try simp only [psq] at qp) <;> simp [-qt,-qd,-ql,rgs,o1,t1,c1,c2p,c3,k1,k2,k3,k4,k5,k6,qb])
  refine yL (c_size_Node (p:=false) (xs:=w.tree)) (.int _ _) ?hb ?_
  case hb=>exact .cons (.ref0 (by simp [t1,k2]) (by simp) (by simp)) .nil
  try simp [-qt,-qd,-ql,rgs,o1,t1,t3,k1,k2,k3,k4,k5,k6,k7,k9,yE,bv,zJ hnx]
  repeat' first | done | ((first | ((with_reducible show zV _ _ _ _ _ _);refine zB rfl fun _ => ?_) | ((with_reducible show vS _ _ _ _ _ _ _ _);refine zR rfl rfl (by decide) (by decide) (by first | (simp [-qt,-qd,-ql,rgs,o1,t1,t3,k1,k2,k3,k4,k5,k6,k7,k9,yE,bv,zJ hnx];done) | (simp [-qt,-qd,-ql,rgs,o1,t1,t3,k1,k2,k3,k4,k5,k6,k7,k9,yE,bv,zJ hnx];rfl)) (by first | (simp [-qt,-qd,-ql,rgs,o1,t1,t3,k1,k2,k3,k4,k5,k6,k7,k9,yE,bv,zJ hnx];done) | (simp [-qt,-qd,-ql,rgs,o1,t1,t3,k1,k2,k3,k4,k5,k6,k7,k9,yE,bv,zJ hnx];rfl)) (by first | (simp;done) | (simp;omega)) (by first | (simp only [zY,LIM] at *; simp;omega) | (simp only [zY];simp;omega)) (by simp [iv,bv]) ?_) | (with_reducible refine zG (i:=2) [(0,[],[]),(1,[],[]),(2,[],[]),(3,[],[]),(4,[],[]),(5,[],[]),(6,[],[]),(7,[],[]),(8,[],[]),(9,[],[]),(10,[],[]),(11,[],[]),(12,[],[]),(13,[],[]),(14,[],[]),(15,[],[]),(16,[],[]),(17,[],[]),(18,[],[]),(19,[],[])] (by kernel_rfl) ?_) | (with_reducible refine zG (i:=5) [(0,[],[]),(1,[],[]),(2,[],[]),(3,[],[]),(4,[],[]),(5,[],[7,14]),(6,[],[14]),(9,[],[]),(10,[],[]),(11,[],[]),(12,[],[]),(13,[],[7,14]),(7,[],[]),(8,[.tmp 62],[14]),(14,[],[]),(15,[],[]),(16,[],[]),(17,[],[]),(18,[],[]),(19,[],[]),(20,[],[]),(21,[],[]),(22,[],[])] (by kernel_rfl) ?_) | (with_reducible refine zG (i:=6) [(0,[],[]),(1,[],[]),(2,[],[]),(3,[],[13]),(4,[],[]),(5,[],[]),(6,[],[]),(7,[],[13]),(8,[],[]),(9,[],[13]),(10,[],[]),(11,[],[]),(12,[],[]),(13,[],[]),(14,[],[]),(15,[],[])] (by kernel_rfl) ?_) | (with_reducible refine zG (i:=11) [(0,[],[]),(1,[],[]),(2,[],[]),(3,[],[]),(4,[],[]),(5,[],[]),(6,[],[]),(7,[],[])] (by kernel_rfl) ?_) | (with_reducible refine zG (i:=13) [(0,[],[]),(1,[],[]),(2,[],[]),(3,[],[]),(4,[],[]),(5,[],[]),(6,[],[]),(7,[],[]),(8,[],[]),(9,[],[]),(10,[],[])] (by kernel_rfl) ?_)) <;> simp [-qt,-qd,-ql,rgs,o1,t1,t3,k1,k2,k3,k4,k5,k6,k7,k9,yE,bv,zJ hnx]) | ((first | (with_reducible refine zQ ?_ ?_) | (with_reducible refine zE ?_ ?_) | (with_reducible refine zA ?_ ?_)) <;> intro qb <;> (have qp:=qb;try simp only [psq] at qp) <;> simp [-qt,-qd,-ql,rgs,o1,t1,t3,k1,k2,k3,k4,k5,k6,k7,k9,yE,bv,zJ hnx,qb])
  generalize hH:upd (upd _ p _) p _ = H2
  obtain ⟨X2,hX2⟩:∃ X2,X2 = (X.setTop 1 (nx + 47)).setTop 3 (nx + 54):=⟨_,rfl⟩
  have o2:H2 p = some (.obj (zD5 X2 (vH w x))):=by rw [← hH,zM,hX2];simp [zD5,WI.setTop,vH,mkW]
  have V2:WV H2 X2 (vH w x):=by
   rw [hX2]
   refine V1.lay2 (by omega) (by omega) (by omega) (fun hm=>by have:=hin _ hm;omega) (fun hm=>by have:=hin _ hm;omega) (by omega) ?_ ?_ (fun k hk h6 h5 => ?_) rfl rfl (fun j hj h6 h5 => ?_)
   ·rw [← hH];simp [zJ1,vH,mkW,yE,k9,k7,k10,k11]
   ·rw [← hH];simp [zJ1,vH,mkW,bv,k9,k10,k11]
   ·rcases lt15 hk with rfl | rfl | rfl | rfl | rfl | rfl | rfl | rfl | rfl | rfl | rfl | rfl | rfl | rfl | rfl <;> first | rfl | exact absurd rfl h6 | exact absurd rfl h5
   ·have:=hin j hj
    have hjp:j ≠ p:=fun e=>hpX (e ▸ hj)
    rw [← hH]
    simp [hjp,h5,h6,show ∀ k,(j = nx + k) = False from fun k=>by simp only [eq_iff_iff,iff_false];omega]
  have z2:H2 (nx + 10) = some (.obj (yE x)):=by rw [← hH];simp [yE,k9,k10,k11]
  have K2:∀ j,j < nx → j ≠ p → j ∉ X.ids → H2 j = h j:=fun j hj hjp hjX=>by
   have h5:j ≠ X.top 1:=fun e=>hjX (e ▸ WI.top_mem (by omega))
   have h6:j ≠ X.top 3:=fun e=>hjX (e ▸ WI.top_mem (by omega))
   rw [← hH]
   simp [hjp,h5,h6,show ∀ k,(j = nx + k) = False from fun k=>by simp only [eq_iff_iff,iff_false];omega]
  have hid2:∀ j ∈ X2.ids,j ∈ X.ids ∨ nx ≤ j ∧ j < nx + 74:=fun j hj=>by
   rw [hX2] at hj
   rcases WI.setTop_ids hj with q | q
   ·rcases WI.setTop_ids q with q | q
    ·exact .inl q
    ·right;omega
   ·right;omega
  clear hH
  have e1:X2.top 1 = nx + 47:=by rw [hX2];rfl
  have e2:X2.top 2 = X.top 2:=by rw [hX2];rfl
  have u1:=V2.top 1 (by omega)
  have u2:=V2.top 2 (by omega)
  rw [e1] at u1
  rw [e2] at u2
  simp only [zJ1] at u1 u2
  have o3:=o2
  simp only [zD5] at o3
  have hn2:w.tree.length < (w.tree ++ [x]).length:=by simp
  refine yL (c_firstOf (p:=false) (q:=false) (t:=w.tree ++ [x]) (l:=w.events) (n:=w.tree.length) ht2 (by omega) (by omega)) (tup2_cl (evt_cl _) (.bool _)) ?hb2 ?_
  case hb2=>exact .cons (.ref0 (by simpa [vH,mkW] using u1) (by simp) (by simp)) (.cons (.ref0 (by simpa [vH,mkW] using u2) (by simp) (by simp)) (.cons (.same _) .nil))
  have hpn:∀ k,(p = nx + k) = False:=k1
  have hX2p:p ∉ X2.ids:=V2.obj o2
  have hl2:∀ j ∈ X2.ids,j < nx + 74:=fun j hj=>by rcases hid2 j hj with r | r;(have:=hin j r;omega);omega
  have hwk2:(vH w x).spread.work.length ≤ 1048576:=show w.spread.work.length ≤ 1048576 by omega
  have nX2:∀ j,j < nx → j ∉ X.ids → j ∉ X2.ids:=fun j hj hjX hm=>by rcases hid2 j hm with r | r;(exact hjX r);omega
  have ids3:∀ {X3:WI} {a b:Nat},(∀ id ∈ X3.ids,id ∈ X2.ids ∨ a ≤ id ∧ id < b) → nx ≤ a → nx + 74 ≤ b → ∀ id ∈ X3.ids,id ∈ X.ids ∨ nx ≤ id ∧ id < b:=fun h3 ha hb id hm=>by
   rcases h3 id hm with r | r
   ·rcases hid2 id r with r | r
    ·exact .inl r
    ·right;omega
   ·right;omega
  by_cases hf:(uL (w.tree ++ [x]) w.events w.tree.length).isSome = true
  ·have hB:nodB (vH w x) x w.tree.length = zE2 (vH w x) w.tree.length:=by unfold nodB;exact if_pos hf
   have hW:nodW (vH w x) x w.tree.length = begW (vH w x) w.tree.length:=by unfold nodW;exact if_pos hf
   rw [hB,hW]
   try simp [-qt,-qd,-ql,rgs,hf,o3,z2,k1,k9,yJ]
   repeat' first | done | ((first | ((with_reducible show zV _ _ _ _ _ _);refine zB rfl fun _ => ?_) | ((with_reducible show vS _ _ _ _ _ _ _ _);refine zR rfl rfl (by decide) (by decide) (by first | (simp [-qt,-qd,-ql,rgs,hf,o3,z2,k1,k9,yJ];done) | (simp [-qt,-qd,-ql,rgs,hf,o3,z2,k1,k9,yJ];rfl)) (by first | (simp [-qt,-qd,-ql,rgs,hf,o3,z2,k1,k9,yJ];done) | (simp [-qt,-qd,-ql,rgs,hf,o3,z2,k1,k9,yJ];rfl)) (by first | (simp;done) | (simp;omega)) (by first | (simp only [zY,LIM] at *; simp;omega) | (simp only [zY];simp;omega)) (by simp [iv,bv]) ?_) | (with_reducible refine zG (i:=2) [(0,[],[]),(1,[],[]),(2,[],[]),(3,[],[]),(4,[],[]),(5,[],[]),(6,[],[]),(7,[],[]),(8,[],[]),(9,[],[]),(10,[],[]),(11,[],[]),(12,[],[]),(13,[],[]),(14,[],[]),(15,[],[]),(16,[],[]),(17,[],[]),(18,[],[]),(19,[],[])] (by kernel_rfl) ?_) | (with_reducible refine zG (i:=5) [(0,[],[]),(1,[],[]),(2,[],[]),(3,[],[]),(4,[],[]),(5,[],[7,14]),(6,[],[14]),(9,[],[]),(10,[],[]),(11,[],[]),(12,[],[]),(13,[],[7,14]),(7,[],[]),(8,[.tmp 62],[14]),(14,[],[]),(15,[],[]),(16,[],[]),(17,[],[]),(18,[],[]),(19,[],[]),(20,[],[]),(21,[],[]),(22,[],[])] (by kernel_rfl) ?_) | (with_reducible refine zG (i:=6) [(0,[],[]),(1,[],[]),(2,[],[]),(3,[],[13]),(4,[],[]),(5,[],[]),(6,[],[]),(7,[],[13]),(8,[],[]),(9,[],[13]),(10,[],[]),(11,[],[]),(12,[],[]),(13,[],[]),(14,[],[]),(15,[],[])] (by kernel_rfl) ?_) | (with_reducible refine zG (i:=11) [(0,[],[]),(1,[],[]),(2,[],[]),(3,[],[]),(4,[],[]),(5,[],[]),(6,[],[]),(7,[],[])] (by kernel_rfl) ?_) | (with_reducible refine zG (i:=13) [(0,[],[]),(1,[],[]),(2,[],[]),(3,[],[]),(4,[],[]),(5,[],[]),(6,[],[]),(7,[],[]),(8,[],[]),(9,[],[]),(10,[],[])] (by kernel_rfl) ?_)) <;> simp [-qt,-qd,-ql,rgs,hf,o3,z2,k1,k9,yJ]) | ((first | (with_reducible refine zQ ?_ ?_) | (with_reducible refine zE ?_ ?_) | (with_reducible refine zA ?_ ?_)) <;> intro qb <;> (have qp:=qb;try simp only [psq] at qp) <;> simp [-qt,-qd,-ql,rgs,hf,o3,z2,k1,k9,yJ,qb])
   refine yX (m_begin (X:=X2) (w:=vH w x) (p:=p) (n:=w.tree.length) hwk2) ⟨by simp [k1,k9,o2],V2.keep fun id hm=>by have:=hl2 id hm;dsimp only;repeat rw [zK _ _ _ _ (by omega)]⟩ ?_
   rintro r h1 n1 ⟨rfl,⟨X3,o4,V3,hid3⟩,hf3⟩ hle3 hfr3
   dsimp only at hid3 hf3 hle3
   try simp [-qt,-qd,-ql,rgs,k1]
   repeat' first | done | ((first | ((with_reducible show zV _ _ _ _ _ _);refine zB rfl fun _ => ?_) | ((with_reducible show vS _ _ _ _ _ _ _ _);refine zR rfl rfl (by decide) (by decide) (by first | (simp [-qt,-qd,-ql,rgs,k1];done) | (simp [-qt,-qd,-ql,rgs,k1];rfl)) (by first | (simp [-qt,-qd,-ql,rgs,k1];done) | (simp [-qt,-qd,-ql,rgs,k1];rfl)) (by first | (simp;done) | (simp;omega)) (by first | (simp only [zY,LIM] at *; simp;omega) | (simp only [zY];simp;omega)) (by simp [iv,bv]) ?_) | (with_reducible refine zG (i:=2) [(0,[],[]),(1,[],[]),(2,[],[]),(3,[],[]),(4,[],[]),(5,[],[]),(6,[],[]),(7,[],[]),(8,[],[]),(9,[],[]),(10,[],[]),(11,[],[]),(12,[],[]),(13,[],[]),(14,[],[]),(15,[],[]),(16,[],[]),(17,[],[]),(18,[],[]),(19,[],[])] (by kernel_rfl) ?_) | (with_reducible refine zG (i:=5) [(0,[],[]),(1,[],[]),(2,[],[]),(3,[],[]),(4,[],[]),(5,[],[7,14]),(6,[],[14]),(9,[],[]),(10,[],[]),(11,[],[]),(12,[],[]),(13,[],[7,14]),(7,[],[]),(8,[.tmp 62],[14]),(14,[],[]),(15,[],[]),(16,[],[]),(17,[],[]),(18,[],[]),(19,[],[]),(20,[],[]),(21,[],[]),(22,[],[])] (by kernel_rfl) ?_) | (with_reducible refine zG (i:=6) [(0,[],[]),(1,[],[]),(2,[],[]),(3,[],[13]),(4,[],[]),(5,[],[]),(6,[],[]),(7,[],[13]),(8,[],[]),(9,[],[13]),(10,[],[]),(11,[],[]),(12,[],[]),(13,[],[]),(14,[],[]),(15,[],[])] (by kernel_rfl) ?_) | (with_reducible refine zG (i:=11) [(0,[],[]),(1,[],[]),(2,[],[]),(3,[],[]),(4,[],[]),(5,[],[]),(6,[],[]),(7,[],[])] (by kernel_rfl) ?_) | (with_reducible refine zG (i:=13) [(0,[],[]),(1,[],[]),(2,[],[]),(3,[],[]),(4,[],[]),(5,[],[]),(6,[],[]),(7,[],[]),(8,[],[]),(9,[],[]),(10,[],[])] (by kernel_rfl) ?_)) <;> simp [-qt,-qd,-ql,rgs,k1]) | ((first | (with_reducible refine zQ ?_ ?_) | (with_reducible refine zE ?_ ?_) | (with_reducible refine zA ?_ ?_)) <;> intro qb <;> (have qp:=qb;try simp only [psq] at qp) <;> simp [-qt,-qd,-ql,rgs,k1,qb])
   exact ⟨rfl,⟨X3,o4,V3,fun id hm=>ids3 hid3 (by omega) (by omega) id hm⟩,fun j hj hjp hjX=>by rw [hf3 j (by omega) hjp (nX2 j hj hjX)];(repeat rw [zK _ _ _ _ (by omega)]);exact K2 j hj hjp hjX⟩
  ·have hff:(uL (w.tree ++ [x]) w.events w.tree.length).isSome = false:=by simpa using hf
   have hns:¬ (uL (vH w x).tree (vH w x).events w.tree.length).isSome = true:=hf
   by_cases hk:kind = 2
   ·have hkb:(kind != 2) = false:=by simpa using hk
    by_cases hd:x.due = uJ
    ·have hdb:(x.due == 9223372036854775807) = true:=by simpa [uJ] using hd
     have hB:nodB (vH w x) x w.tree.length = true:=by unfold nodB;rw [if_neg hns,if_pos (.inr hd)]
     have hW:nodW (vH w x) x w.tree.length = vH w x:=by unfold nodW;rw [if_neg hns,if_pos (.inr hd)]
     rw [hB,hW]
     try simp [-qt,-qd,-ql,rgs,hff,hkb,hdb,o3,z2,k1,k9,yJ,yE]
     repeat' first | done | ((first | ((with_reducible show zV _ _ _ _ _ _);refine zB rfl fun _ => ?_) | ((with_reducible show vS _ _ _ _ _ _ _ _);refine zR rfl rfl (by decide) (by decide) (by first | (simp [-qt,-qd,-ql,rgs,hff,hkb,hdb,o3,z2,k1,k9,yJ,yE];done) | (simp [-qt,-qd,-ql,rgs,hff,hkb,hdb,o3,z2,k1,k9,yJ,yE];rfl)) (by first | (simp [-qt,-qd,-ql,rgs,hff,hkb,hdb,o3,z2,k1,k9,yJ,yE];done) | (simp [-qt,-qd,-ql,rgs,hff,hkb,hdb,o3,z2,k1,k9,yJ,yE];rfl)) (by first | (simp;done) | (simp;omega)) (by first | (simp only [zY,LIM] at *; simp;omega) | (simp only [zY];simp;omega)) (by simp [iv,bv]) ?_) | (with_reducible refine zG (i:=2) [(0,[],[]),(1,[],[]),(2,[],[]),(3,[],[]),(4,[],[]),(5,[],[]),(6,[],[]),(7,[],[]),(8,[],[]),(9,[],[]),(10,[],[]),(11,[],[]),(12,[],[]),(13,[],[]),(14,[],[]),(15,[],[]),(16,[],[]),(17,[],[]),(18,[],[]),(19,[],[])] (by kernel_rfl) ?_) | (with_reducible refine zG (i:=5) [(0,[],[]),(1,[],[]),(2,[],[]),(3,[],[]),(4,[],[]),(5,[],[7,14]),(6,[],[14]),(9,[],[]),(10,[],[]),(11,[],[]),(12,[],[]),(13,[],[7,14]),(7,[],[]),(8,[.tmp 62],[14]),(14,[],[]),(15,[],[]),(16,[],[]),(17,[],[]),(18,[],[]),(19,[],[]),(20,[],[]),(21,[],[]),(22,[],[])] (by kernel_rfl) ?_) | (with_reducible refine zG (i:=6) [(0,[],[]),(1,[],[]),(2,[],[]),(3,[],[13]),(4,[],[]),(5,[],[]),(6,[],[]),(7,[],[13]),(8,[],[]),(9,[],[13]),(10,[],[]),(11,[],[]),(12,[],[]),(13,[],[]),(14,[],[]),(15,[],[])] (by kernel_rfl) ?_) | (with_reducible refine zG (i:=11) [(0,[],[]),(1,[],[]),(2,[],[]),(3,[],[]),(4,[],[]),(5,[],[]),(6,[],[]),(7,[],[])] (by kernel_rfl) ?_) | (with_reducible refine zG (i:=13) [(0,[],[]),(1,[],[]),(2,[],[]),(3,[],[]),(4,[],[]),(5,[],[]),(6,[],[]),(7,[],[]),(8,[],[]),(9,[],[]),(10,[],[])] (by kernel_rfl) ?_)) <;> simp [-qt,-qd,-ql,rgs,hff,hkb,hdb,o3,z2,k1,k9,yJ,yE]) | ((first | (with_reducible refine zQ ?_ ?_) | (with_reducible refine zE ?_ ?_) | (with_reducible refine zA ?_ ?_)) <;> intro qb <;> (have qp:=qb;try simp only [psq] at qp) <;> simp [-qt,-qd,-ql,rgs,hff,hkb,hdb,o3,z2,k1,k9,yJ,yE,qb])
     exact ⟨rfl,⟨X2,by simp [k1,k9,o2],V2.keep fun id hm=>by have:=hl2 id hm;repeat rw [zK _ _ _ _ (by omega)],fun id hm=>by rcases hid2 id hm with r | r <;> first | exact .inl r | (right;omega)⟩,fun j hj hjp hjX=>by (repeat rw [zK _ _ _ _ (by omega)]);exact K2 j hj hjp hjX⟩
    ·have hdb:(x.due == 9223372036854775807) = false:=by simpa [uJ] using hd
     have hnd:¬ (x.kind ≠ 2 ∨ x.due = uJ):=fun q=>q.elim (fun q=>q (hxk.trans hk)) hd
     by_cases hdu:zG5 w.now x.due = true
     ·have hB:nodB (vH w x) x w.tree.length = zH5 (vH w x) (dueEv (vH w x) w.tree.length):=by unfold nodB;rw [if_neg hns,if_neg hnd,if_pos (show zG5 (vH w x).now x.due = true from hdu)]
      have hW:nodW (vH w x) x w.tree.length = cutW (vH w x) (dueEv (vH w x) w.tree.length):=by unfold nodW;rw [if_neg hns,if_neg hnd,if_pos (show zG5 (vH w x).now x.due = true from hdu)]
      rw [hB,hW]
      try simp [-qt,-qd,-ql,rgs,hff,hkb,hdb,hdu,o3,z2,k1,k9,yJ,yE,show (vH w x).now = w.now from rfl]
      repeat' first | done | ((first | ((with_reducible show zV _ _ _ _ _ _);refine zB rfl fun _ => ?_) | ((with_reducible show zF _ _ _ 134 _ _);refine zD (c_IsDue) ?_) | ((with_reducible show vS _ _ _ _ _ _ _ _);refine zR rfl rfl (by decide) (by decide) (by first | (simp [-qt,-qd,-ql,rgs,hff,hkb,hdb,hdu,o3,z2,k1,k9,yJ,yE,show (vH w x).now = w.now from rfl];done) | (simp [-qt,-qd,-ql,rgs,hff,hkb,hdb,hdu,o3,z2,k1,k9,yJ,yE,show (vH w x).now = w.now from rfl];rfl)) (by first | (simp [-qt,-qd,-ql,rgs,hff,hkb,hdb,hdu,o3,z2,k1,k9,yJ,yE,show (vH w x).now = w.now from rfl];done) | (simp [-qt,-qd,-ql,rgs,hff,hkb,hdb,hdu,o3,z2,k1,k9,yJ,yE,show (vH w x).now = w.now from rfl];rfl)) (by first | (simp;done) | (simp;omega)) (by first | (simp only [zY,LIM] at *; simp;omega) | (simp only [zY];simp;omega)) (by simp [iv,bv]) ?_) | (with_reducible refine zG (i:=2) [(0,[],[]),(1,[],[]),(2,[],[]),(3,[],[]),(4,[],[]),(5,[],[]),(6,[],[]),(7,[],[]),(8,[],[]),(9,[],[]),(10,[],[]),(11,[],[]),(12,[],[]),(13,[],[]),(14,[],[]),(15,[],[]),(16,[],[]),(17,[],[]),(18,[],[]),(19,[],[])] (by kernel_rfl) ?_) | (with_reducible refine zG (i:=5) [(0,[],[]),(1,[],[]),(2,[],[]),(3,[],[]),(4,[],[]),(5,[],[7,14]),(6,[],[14]),(9,[],[]),(10,[],[]),(11,[],[]),(12,[],[]),(13,[],[7,14]),(7,[],[]),(8,[.tmp 62],[14]),(14,[],[]),(15,[],[]),(16,[],[]),(17,[],[]),(18,[],[]),(19,[],[]),(20,[],[]),(21,[],[]),(22,[],[])] (by kernel_rfl) ?_) | (with_reducible refine zG (i:=6) [(0,[],[]),(1,[],[]),(2,[],[]),(3,[],[13]),(4,[],[]),(5,[],[]),(6,[],[]),(7,[],[13]),(8,[],[]),(9,[],[13]),(10,[],[]),(11,[],[]),(12,[],[]),(13,[],[]),(14,[],[]),(15,[],[])] (by kernel_rfl) ?_) | (with_reducible refine zG (i:=11) [(0,[],[]),(1,[],[]),(2,[],[]),(3,[],[]),(4,[],[]),(5,[],[]),(6,[],[]),(7,[],[])] (by kernel_rfl) ?_) | (with_reducible refine zG (i:=13) [(0,[],[]),(1,[],[]),(2,[],[]),(3,[],[]),(4,[],[]),(5,[],[]),(6,[],[]),(7,[],[]),(8,[],[]),(9,[],[]),(10,[],[])] (by kernel_rfl) ?_)) <;> simp [-qt,-qd,-ql,rgs,hff,hkb,hdb,hdu,o3,z2,k1,k9,yJ,yE,show (vH w x).now = w.now from rfl]) | ((first | (with_reducible refine zQ ?_ ?_) | (with_reducible refine zE ?_ ?_) | (with_reducible refine zA ?_ ?_)) <;> intro qb <;> (have qp:=qb;try simp only [psq] at qp) <;> simp [-qt,-qd,-ql,rgs,hff,hkb,hdb,hdu,o3,z2,k1,k9,yJ,yE,show (vH w x).now = w.now from rfl,qb])
      refine yX (m_cancel (X:=X2) (w:=vH w x) (p:=p) (n:=w.tree.length) (er:=2) (ca:=0) ht2 hwk2 (show w.events.length ≤ 1048576 by omega)) ⟨by simp [k1,k9,o2],V2.keep fun id hm=>by have:=hl2 id hm;dsimp only;repeat rw [zK _ _ _ _ (by omega)]⟩ ?_
      rintro r h1 n1 ⟨rfl,⟨X3,o4,V3,hid3⟩,hf3⟩ hle3 hfr3
      dsimp only at hid3 hf3 hle3
      try simp [-qt,-qd,-ql,rgs,k1]
      repeat' first | done | ((first | ((with_reducible show zV _ _ _ _ _ _);refine zB rfl fun _ => ?_) | ((with_reducible show vS _ _ _ _ _ _ _ _);refine zR rfl rfl (by decide) (by decide) (by first | (simp [-qt,-qd,-ql,rgs,k1];done) | (simp [-qt,-qd,-ql,rgs,k1];rfl)) (by first | (simp [-qt,-qd,-ql,rgs,k1];done) | (simp [-qt,-qd,-ql,rgs,k1];rfl)) (by first | (simp;done) | (simp;omega)) (by first | (simp only [zY,LIM] at *; simp;omega) | (simp only [zY];simp;omega)) (by simp [iv,bv]) ?_) | (with_reducible refine zG (i:=2) [(0,[],[]),(1,[],[]),(2,[],[]),(3,[],[]),(4,[],[]),(5,[],[]),(6,[],[]),(7,[],[]),(8,[],[]),(9,[],[]),(10,[],[]),(11,[],[]),(12,[],[]),(13,[],[]),(14,[],[]),(15,[],[]),(16,[],[]),(17,[],[]),(18,[],[]),(19,[],[])] (by kernel_rfl) ?_) | (with_reducible refine zG (i:=5) [(0,[],[]),(1,[],[]),(2,[],[]),(3,[],[]),(4,[],[]),(5,[],[7,14]),(6,[],[14]),(9,[],[]),(10,[],[]),(11,[],[]),(12,[],[]),(13,[],[7,14]),(7,[],[]),(8,[.tmp 62],[14]),(14,[],[]),(15,[],[]),(16,[],[]),(17,[],[]),(18,[],[]),(19,[],[]),(20,[],[]),(21,[],[]),(22,[],[])] (by kernel_rfl) ?_) | (with_reducible refine zG (i:=6) [(0,[],[]),(1,[],[]),(2,[],[]),(3,[],[13]),(4,[],[]),(5,[],[]),(6,[],[]),(7,[],[13]),(8,[],[]),(9,[],[13]),(10,[],[]),(11,[],[]),(12,[],[]),(13,[],[]),(14,[],[]),(15,[],[])] (by kernel_rfl) ?_) | (with_reducible refine zG (i:=11) [(0,[],[]),(1,[],[]),(2,[],[]),(3,[],[]),(4,[],[]),(5,[],[]),(6,[],[]),(7,[],[])] (by kernel_rfl) ?_) | (with_reducible refine zG (i:=13) [(0,[],[]),(1,[],[]),(2,[],[]),(3,[],[]),(4,[],[]),(5,[],[]),(6,[],[]),(7,[],[]),(8,[],[]),(9,[],[]),(10,[],[])] (by kernel_rfl) ?_)) <;> simp [-qt,-qd,-ql,rgs,k1]) | ((first | (with_reducible refine zQ ?_ ?_) | (with_reducible refine zE ?_ ?_) | (with_reducible refine zA ?_ ?_)) <;> intro qb <;> (have qp:=qb;try simp only [psq] at qp) <;> simp [-qt,-qd,-ql,rgs,k1,qb])
      exact ⟨rfl,⟨X3,o4,V3,fun id hm=>ids3 hid3 (by omega) (by omega) id hm⟩,fun j hj hjp hjX=>by rw [hf3 j (by omega) hjp (nX2 j hj hjX)];(repeat rw [zK _ _ _ _ (by omega)]);exact K2 j hj hjp hjX⟩
     ·have hdf:zG5 w.now x.due = false:=by simpa using hdu
      have hnn:0 ≤ w.timers.next:=(zK2.1 htm).1.1
      have hA:decide (0 ≤ armI w.timers 0 w.tree.length) = zD3 w.timers 0 w.tree.length:=by
       unfold armI
       cases zD3 w.timers 0 w.tree.length <;> simp [hnn]
      have hB:nodB (vH w x) x w.tree.length = zD3 w.timers 0 w.tree.length:=by unfold nodB;rw [if_neg hns,if_neg hnd,if_neg (show ¬ zG5 (vH w x).now x.due = true from hdu)];rfl
      have hW:nodW (vH w x) x w.tree.length = setT (vH w x) (armT (vH w x).timers x.due 0 w.tree.length):=by unfold nodW;rw [if_neg hns,if_neg hnd,if_neg (show ¬ zG5 (vH w x).now x.due = true from hdu)]
      rw [hB,hW]
      try simp [-qt,-qd,-ql,rgs,hff,hkb,hdb,hdf,o3,z2,k1,k9,yJ,yE,show (vH w x).now = w.now from rfl]
      repeat' first | done | ((first | ((with_reducible show zV _ _ _ _ _ _);refine zB rfl fun _ => ?_) | ((with_reducible show zF _ _ _ 134 _ _);refine zD (c_IsDue) ?_) | ((with_reducible show vS _ _ _ _ _ _ _ _);refine zR rfl rfl (by decide) (by decide) (by first | (simp [-qt,-qd,-ql,rgs,hff,hkb,hdb,hdf,o3,z2,k1,k9,yJ,yE,show (vH w x).now = w.now from rfl];done) | (simp [-qt,-qd,-ql,rgs,hff,hkb,hdb,hdf,o3,z2,k1,k9,yJ,yE,show (vH w x).now = w.now from rfl];rfl)) (by first | (simp [-qt,-qd,-ql,rgs,hff,hkb,hdb,hdf,o3,z2,k1,k9,yJ,yE,show (vH w x).now = w.now from rfl];done) | (simp [-qt,-qd,-ql,rgs,hff,hkb,hdb,hdf,o3,z2,k1,k9,yJ,yE,show (vH w x).now = w.now from rfl];rfl)) (by first | (simp;done) | (simp;omega)) (by first | (simp only [zY,LIM] at *; simp;omega) | (simp only [zY];simp;omega)) (by simp [iv,bv]) ?_) | (with_reducible refine zG (i:=2) [(0,[],[]),(1,[],[]),(2,[],[]),(3,[],[]),(4,[],[]),(5,[],[]),(6,[],[]),(7,[],[]),(8,[],[]),(9,[],[]),(10,[],[]),(11,[],[]),(12,[],[]),(13,[],[]),(14,[],[]),(15,[],[]),(16,[],[]),(17,[],[]),(18,[],[]),(19,[],[])] (by kernel_rfl) ?_) | (with_reducible refine zG (i:=5) [(0,[],[]),(1,[],[]),(2,[],[]),(3,[],[]),(4,[],[]),(5,[],[7,14]),(6,[],[14]),(9,[],[]),(10,[],[]),(11,[],[]),(12,[],[]),(13,[],[7,14]),(7,[],[]),(8,[.tmp 62],[14]),(14,[],[]),(15,[],[]),(16,[],[]),(17,[],[]),(18,[],[]),(19,[],[]),(20,[],[]),(21,[],[]),(22,[],[])] (by kernel_rfl) ?_) | (with_reducible refine zG (i:=6) [(0,[],[]),(1,[],[]),(2,[],[]),(3,[],[13]),(4,[],[]),(5,[],[]),(6,[],[]),(7,[],[13]),(8,[],[]),(9,[],[13]),(10,[],[]),(11,[],[]),(12,[],[]),(13,[],[]),(14,[],[]),(15,[],[])] (by kernel_rfl) ?_) | (with_reducible refine zG (i:=11) [(0,[],[]),(1,[],[]),(2,[],[]),(3,[],[]),(4,[],[]),(5,[],[]),(6,[],[]),(7,[],[])] (by kernel_rfl) ?_) | (with_reducible refine zG (i:=13) [(0,[],[]),(1,[],[]),(2,[],[]),(3,[],[]),(4,[],[]),(5,[],[]),(6,[],[]),(7,[],[]),(8,[],[]),(9,[],[]),(10,[],[])] (by kernel_rfl) ?_)) <;> simp [-qt,-qd,-ql,rgs,hff,hkb,hdb,hdf,o3,z2,k1,k9,yJ,yE,show (vH w x).now = w.now from rfl]) | ((first | (with_reducible refine zQ ?_ ?_) | (with_reducible refine zE ?_ ?_) | (with_reducible refine zA ?_ ?_)) <;> intro qb <;> (have qp:=qb;try simp only [psq] at qp) <;> simp [-qt,-qd,-ql,rgs,hff,hkb,hdb,hdf,o3,z2,k1,k9,yJ,yE,show (vH w x).now = w.now from rfl,qb])
      refine yX (m_arm (X:=X2) (w:=vH w x) (p:=p) (d:=x.due) (what:=0) (whom:=w.tree.length) htm) ⟨by simp [k1,k9,o2],V2.keep fun id hm=>by have:=hl2 id hm;dsimp only;repeat rw [zK _ _ _ _ (by omega)]⟩ ?_
      rintro r h1 n1 ⟨rfl,⟨X3,o4,V3,hid3⟩,hf3⟩ hle3 hfr3
      dsimp only at hid3 hf3 hle3
      try simp [-qt,-qd,-ql,rgs,k1,hA,show (vH w x).timers = w.timers from rfl]
      repeat' first | done | ((first | ((with_reducible show zV _ _ _ _ _ _);refine zB rfl fun _ => ?_) | ((with_reducible show vS _ _ _ _ _ _ _ _);refine zR rfl rfl (by decide) (by decide) (by first | (simp [-qt,-qd,-ql,rgs,k1,hA,show (vH w x).timers = w.timers from rfl];done) | (simp [-qt,-qd,-ql,rgs,k1,hA,show (vH w x).timers = w.timers from rfl];rfl)) (by first | (simp [-qt,-qd,-ql,rgs,k1,hA,show (vH w x).timers = w.timers from rfl];done) | (simp [-qt,-qd,-ql,rgs,k1,hA,show (vH w x).timers = w.timers from rfl];rfl)) (by first | (simp;done) | (simp;omega)) (by first | (simp only [zY,LIM] at *; simp;omega) | (simp only [zY];simp;omega)) (by simp [iv,bv]) ?_) | (with_reducible refine zG (i:=2) [(0,[],[]),(1,[],[]),(2,[],[]),(3,[],[]),(4,[],[]),(5,[],[]),(6,[],[]),(7,[],[]),(8,[],[]),(9,[],[]),(10,[],[]),(11,[],[]),(12,[],[]),(13,[],[]),(14,[],[]),(15,[],[]),(16,[],[]),(17,[],[]),(18,[],[]),(19,[],[])] (by kernel_rfl) ?_) | (with_reducible refine zG (i:=5) [(0,[],[]),(1,[],[]),(2,[],[]),(3,[],[]),(4,[],[]),(5,[],[7,14]),(6,[],[14]),(9,[],[]),(10,[],[]),(11,[],[]),(12,[],[]),(13,[],[7,14]),(7,[],[]),(8,[.tmp 62],[14]),(14,[],[]),(15,[],[]),(16,[],[]),(17,[],[]),(18,[],[]),(19,[],[]),(20,[],[]),(21,[],[]),(22,[],[])] (by kernel_rfl) ?_) | (with_reducible refine zG (i:=6) [(0,[],[]),(1,[],[]),(2,[],[]),(3,[],[13]),(4,[],[]),(5,[],[]),(6,[],[]),(7,[],[13]),(8,[],[]),(9,[],[13]),(10,[],[]),(11,[],[]),(12,[],[]),(13,[],[]),(14,[],[]),(15,[],[])] (by kernel_rfl) ?_) | (with_reducible refine zG (i:=11) [(0,[],[]),(1,[],[]),(2,[],[]),(3,[],[]),(4,[],[]),(5,[],[]),(6,[],[]),(7,[],[])] (by kernel_rfl) ?_) | (with_reducible refine zG (i:=13) [(0,[],[]),(1,[],[]),(2,[],[]),(3,[],[]),(4,[],[]),(5,[],[]),(6,[],[]),(7,[],[]),(8,[],[]),(9,[],[]),(10,[],[])] (by kernel_rfl) ?_)) <;> simp [-qt,-qd,-ql,rgs,k1,hA,show (vH w x).timers = w.timers from rfl]) | ((first | (with_reducible refine zQ ?_ ?_) | (with_reducible refine zE ?_ ?_) | (with_reducible refine zA ?_ ?_)) <;> intro qb <;> (have qp:=qb;try simp only [psq] at qp) <;> simp [-qt,-qd,-ql,rgs,k1,hA,show (vH w x).timers = w.timers from rfl,qb])
      exact ⟨rfl,⟨X3,o4,V3,fun id hm=>ids3 hid3 (by omega) (by omega) id hm⟩,fun j hj hjp hjX=>by rw [hf3 j (by omega) hjp (nX2 j hj hjX)];(repeat rw [zK _ _ _ _ (by omega)]);exact K2 j hj hjp hjX⟩
   ·have hkb:(kind != 2) = true:=by simpa using hk
    have hB:nodB (vH w x) x w.tree.length = true:=by unfold nodB;rw [if_neg hns,if_pos (.inl (fun q=>hk (hxk.symm.trans q)))]
    have hW:nodW (vH w x) x w.tree.length = vH w x:=by unfold nodW;rw [if_neg hns,if_pos (.inl (fun q=>hk (hxk.symm.trans q)))]
    rw [hB,hW]
    try simp [-qt,-qd,-ql,rgs,hff,hkb,o3,z2,k1,k9,yJ,yE]
    repeat' first | done | ((first | ((with_reducible show zV _ _ _ _ _ _);refine zB rfl fun _ => ?_) | ((with_reducible show vS _ _ _ _ _ _ _ _);refine zR rfl rfl (by decide) (by decide) (by first | (simp [-qt,-qd,-ql,rgs,hff,hkb,o3,z2,k1,k9,yJ,yE];done) | (simp [-qt,-qd,-ql,rgs,hff,hkb,o3,z2,k1,k9,yJ,yE];rfl)) (by first | (simp [-qt,-qd,-ql,rgs,hff,hkb,o3,z2,k1,k9,yJ,yE];done) | (simp [-qt,-qd,-ql,rgs,hff,hkb,o3,z2,k1,k9,yJ,yE];rfl)) (by first | (simp;done) | (simp;omega)) (by first | (simp only [zY,LIM] at *; simp;omega) | (simp only [zY];simp;omega)) (by simp [iv,bv]) ?_) | (with_reducible refine zG (i:=2) [(0,[],[]),(1,[],[]),(2,[],[]),(3,[],[]),(4,[],[]),(5,[],[]),(6,[],[]),(7,[],[]),(8,[],[]),(9,[],[]),(10,[],[]),(11,[],[]),(12,[],[]),(13,[],[]),(14,[],[]),(15,[],[]),(16,[],[]),(17,[],[]),(18,[],[]),(19,[],[])] (by kernel_rfl) ?_) | (with_reducible refine zG (i:=5) [(0,[],[]),(1,[],[]),(2,[],[]),(3,[],[]),(4,[],[]),(5,[],[7,14]),(6,[],[14]),(9,[],[]),(10,[],[]),(11,[],[]),(12,[],[]),(13,[],[7,14]),(7,[],[]),(8,[.tmp 62],[14]),(14,[],[]),(15,[],[]),(16,[],[]),(17,[],[]),(18,[],[]),(19,[],[]),(20,[],[]),(21,[],[]),(22,[],[])] (by kernel_rfl) ?_) | (with_reducible refine zG (i:=6) [(0,[],[]),(1,[],[]),(2,[],[]),(3,[],[13]),(4,[],[]),(5,[],[]),(6,[],[]),(7,[],[13]),(8,[],[]),(9,[],[13]),(10,[],[]),(11,[],[]),(12,[],[]),(13,[],[]),(14,[],[]),(15,[],[])] (by kernel_rfl) ?_) | (with_reducible refine zG (i:=11) [(0,[],[]),(1,[],[]),(2,[],[]),(3,[],[]),(4,[],[]),(5,[],[]),(6,[],[]),(7,[],[])] (by kernel_rfl) ?_) | (with_reducible refine zG (i:=13) [(0,[],[]),(1,[],[]),(2,[],[]),(3,[],[]),(4,[],[]),(5,[],[]),(6,[],[]),(7,[],[]),(8,[],[]),(9,[],[]),(10,[],[])] (by kernel_rfl) ?_)) <;> simp [-qt,-qd,-ql,rgs,hff,hkb,o3,z2,k1,k9,yJ,yE]) | ((first | (with_reducible refine zQ ?_ ?_) | (with_reducible refine zE ?_ ?_) | (with_reducible refine zA ?_ ?_)) <;> intro qb <;> (have qp:=qb;try simp only [psq] at qp) <;> simp [-qt,-qd,-ql,rgs,hff,hkb,o3,z2,k1,k9,yJ,yE,qb])
    exact ⟨rfl,⟨X2,by simp [k1,k9,o2],V2.keep fun id hm=>by have:=hl2 id hm;repeat rw [zK _ _ _ _ (by omega)],fun id hm=>by rcases hid2 id hm with r | r <;> first | exact .inl r | (right;omega)⟩,fun j hj hjp hjX=>by (repeat rw [zK _ _ _ _ (by omega)]);exact K2 j hj hjp hjX⟩
 ·have hW:zN3 w kind up a b = w:=by simp [zN3,hc]
  have hB:zN5 w kind up a b = false:=by simp [zN5,hc]
  have hI:growI w kind up a b = -1:=by simp [growI,hc]
  rw [hW,hB,hI]
  by_cases c1:zC3 kind a b = true
  ·by_cases c2:w.tree.length = 60
   ·have c2p:((w.tree.length:Int) == 60) = true:=by simp;omega
    try simp [-qt,-qd,-ql,rgs,o1,c1,c2p,k1,k2,k3]
    repeat' first | done | ((first | ((with_reducible show zV _ _ _ _ _ _);refine zB rfl fun _ => ?_) | (refine zD (hnf) ?_) | ((with_reducible show vS _ _ _ _ _ _ _ _);refine zR rfl rfl (by decide) (by decide) (by first | (simp [-qt,-qd,-ql,rgs,o1,c1,c2p,k1,k2,k3];done) | (simp [-qt,-qd,-ql,rgs,o1,c1,c2p,k1,k2,k3];rfl)) (by first | (simp [-qt,-qd,-ql,rgs,o1,c1,c2p,k1,k2,k3];done) | (simp [-qt,-qd,-ql,rgs,o1,c1,c2p,k1,k2,k3];rfl)) (by first | (simp;done) | (simp;omega)) (by first | (simp only [zY,LIM] at *; simp;omega) | (simp only [zY];simp;omega)) (by simp [iv,bv]) ?_) | (with_reducible refine zG (i:=2) [(0,[],[]),(1,[],[]),(2,[],[]),(3,[],[]),(4,[],[]),(5,[],[]),(6,[],[]),(7,[],[]),(8,[],[]),(9,[],[]),(10,[],[]),(11,[],[]),(12,[],[]),(13,[],[]),(14,[],[]),(15,[],[]),(16,[],[]),(17,[],[]),(18,[],[]),(19,[],[])] (by kernel_rfl) ?_) | (with_reducible refine zG (i:=5) [(0,[],[]),(1,[],[]),(2,[],[]),(3,[],[]),(4,[],[]),(5,[],[7,14]),(6,[],[14]),(9,[],[]),(10,[],[]),(11,[],[]),(12,[],[]),(13,[],[7,14]),(7,[],[]),(8,[.tmp 62],[14]),(14,[],[]),(15,[],[]),(16,[],[]),(17,[],[]),(18,[],[]),(19,[],[]),(20,[],[]),(21,[],[]),(22,[],[])] (by kernel_rfl) ?_) | (with_reducible refine zG (i:=6) [(0,[],[]),(1,[],[]),(2,[],[]),(3,[],[13]),(4,[],[]),(5,[],[]),(6,[],[]),(7,[],[13]),(8,[],[]),(9,[],[13]),(10,[],[]),(11,[],[]),(12,[],[]),(13,[],[]),(14,[],[]),(15,[],[])] (by kernel_rfl) ?_) | (with_reducible refine zG (i:=11) [(0,[],[]),(1,[],[]),(2,[],[]),(3,[],[]),(4,[],[]),(5,[],[]),(6,[],[]),(7,[],[])] (by kernel_rfl) ?_) | (with_reducible refine zG (i:=13) [(0,[],[]),(1,[],[]),(2,[],[]),(3,[],[]),(4,[],[]),(5,[],[]),(6,[],[]),(7,[],[]),(8,[],[]),(9,[],[]),(10,[],[])] (by kernel_rfl) ?_)) <;> simp [-qt,-qd,-ql,rgs,o1,c1,c2p,k1,k2,k3]) | ((first | (with_reducible refine zQ ?_ ?_) | (with_reducible refine zE ?_ ?_) | (with_reducible refine zA ?_ ?_)) <;> intro qb <;> (have qp:=qb;try simp only [psq] at qp) <;> simp [-qt,-qd,-ql,rgs,o1,c1,c2p,k1,k2,k3,qb])
    exact ⟨rfl,⟨X,by simp [k1,o0],V1.keep fun id hm=>by have:=hin id hm;(repeat rw [zK _ _ _ _ (by omega)]),fun id hm=>.inl hm⟩,fun j hj _ _=>by repeat rw [zK _ _ _ _ (by omega)]⟩
   ·have c2p:((w.tree.length:Int) == 60) = false:=by simp;omega
    have c3:zD1 x w.tree.length = false:=by
     cases hq:zD1 x w.tree.length with
     | false=>rfl
     | true=>exact absurd (by simp [growC,zF7,c1,c2,← hx,hq]) hc
    try simp [-qt,-qd,-ql,rgs,o1,c1,c2p,c3,k1,k2,k3]
    repeat' first | done | ((first | ((with_reducible show zV _ _ _ _ _ _);refine zB rfl fun _ => ?_) | (refine zD (hnf) ?_) | (refine zD (hin0) ?_) | ((with_reducible show vS _ _ _ _ _ _ _ _);refine zR rfl rfl (by decide) (by decide) (by first | (simp [-qt,-qd,-ql,rgs,o1,c1,c2p,c3,k1,k2,k3];done) | (simp [-qt,-qd,-ql,rgs,o1,c1,c2p,c3,k1,k2,k3];rfl)) (by first | (simp [-qt,-qd,-ql,rgs,o1,c1,c2p,c3,k1,k2,k3];done) | (simp [-qt,-qd,-ql,rgs,o1,c1,c2p,c3,k1,k2,k3];rfl)) (by first | (simp;done) | (simp;omega)) (by first | (simp only [zY,LIM] at *; simp;omega) | (simp only [zY];simp;omega)) (by simp [iv,bv]) ?_) | (with_reducible refine zG (i:=2) [(0,[],[]),(1,[],[]),(2,[],[]),(3,[],[]),(4,[],[]),(5,[],[]),(6,[],[]),(7,[],[]),(8,[],[]),(9,[],[]),(10,[],[]),(11,[],[]),(12,[],[]),(13,[],[]),(14,[],[]),(15,[],[]),(16,[],[]),(17,[],[]),(18,[],[]),(19,[],[])] (by kernel_rfl) ?_) | (with_reducible refine zG (i:=5) [(0,[],[]),(1,[],[]),(2,[],[]),(3,[],[]),(4,[],[]),(5,[],[7,14]),(6,[],[14]),(9,[],[]),(10,[],[]),(11,[],[]),(12,[],[]),(13,[],[7,14]),(7,[],[]),(8,[.tmp 62],[14]),(14,[],[]),(15,[],[]),(16,[],[]),(17,[],[]),(18,[],[]),(19,[],[]),(20,[],[]),(21,[],[]),(22,[],[])] (by kernel_rfl) ?_) | (with_reducible refine zG (i:=6) [(0,[],[]),(1,[],[]),(2,[],[]),(3,[],[13]),(4,[],[]),(5,[],[]),(6,[],[]),(7,[],[13]),(8,[],[]),(9,[],[13]),(10,[],[]),(11,[],[]),(12,[],[]),(13,[],[]),(14,[],[]),(15,[],[])] (by kernel_rfl) ?_) | (with_reducible refine zG (i:=11) [(0,[],[]),(1,[],[]),(2,[],[]),(3,[],[]),(4,[],[]),(5,[],[]),(6,[],[]),(7,[],[])] (by kernel_rfl) ?_) | (with_reducible refine zG (i:=13) [(0,[],[]),(1,[],[]),(2,[],[]),(3,[],[]),(4,[],[]),(5,[],[]),(6,[],[]),(7,[],[]),(8,[],[]),(9,[],[]),(10,[],[])] (by kernel_rfl) ?_)) <;> simp [-qt,-qd,-ql,rgs,o1,c1,c2p,c3,k1,k2,k3]) | ((first | (with_reducible refine zQ ?_ ?_) | (with_reducible refine zE ?_ ?_) | (with_reducible refine zA ?_ ?_)) <;> intro qb <;> (have qp:=qb;try simp only [psq] at qp) <;> simp [-qt,-qd,-ql,rgs,o1,c1,c2p,c3,k1,k2,k3,qb])
    exact ⟨rfl,⟨X,by simp [k1,o0],V1.keep fun id hm=>by have:=hin id hm;(repeat rw [zK _ _ _ _ (by omega)]),fun id hm=>.inl hm⟩,fun j hj _ _=>by repeat rw [zK _ _ _ _ (by omega)]⟩
  ·have c1f:zC3 kind a b = false:=by simpa using c1
   try simp [-qt,-qd,-ql,rgs,o1,c1f,k1,k2,k3]
   repeat' first | done | ((first | ((with_reducible show zV _ _ _ _ _ _);refine zB rfl fun _ => ?_) | (refine zD (hnf) ?_) | ((with_reducible show vS _ _ _ _ _ _ _ _);refine zR rfl rfl (by decide) (by decide) (by first | (simp [-qt,-qd,-ql,rgs,o1,c1f,k1,k2,k3];done) | (simp [-qt,-qd,-ql,rgs,o1,c1f,k1,k2,k3];rfl)) (by first | (simp [-qt,-qd,-ql,rgs,o1,c1f,k1,k2,k3];done) | (simp [-qt,-qd,-ql,rgs,o1,c1f,k1,k2,k3];rfl)) (by first | (simp;done) | (simp;omega)) (by first | (simp only [zY,LIM] at *; simp;omega) | (simp only [zY];simp;omega)) (by simp [iv,bv]) ?_) | (with_reducible refine zG (i:=2) [(0,[],[]),(1,[],[]),(2,[],[]),(3,[],[]),(4,[],[]),(5,[],[]),(6,[],[]),(7,[],[]),(8,[],[]),(9,[],[]),(10,[],[]),(11,[],[]),(12,[],[]),(13,[],[]),(14,[],[]),(15,[],[]),(16,[],[]),(17,[],[]),(18,[],[]),(19,[],[])] (by kernel_rfl) ?_) | (with_reducible refine zG (i:=5) [(0,[],[]),(1,[],[]),(2,[],[]),(3,[],[]),(4,[],[]),(5,[],[7,14]),(6,[],[14]),(9,[],[]),(10,[],[]),(11,[],[]),(12,[],[]),(13,[],[7,14]),(7,[],[]),(8,[.tmp 62],[14]),(14,[],[]),(15,[],[]),(16,[],[]),(17,[],[]),(18,[],[]),(19,[],[]),(20,[],[]),(21,[],[]),(22,[],[])] (by kernel_rfl) ?_) | (with_reducible refine zG (i:=6) [(0,[],[]),(1,[],[]),(2,[],[]),(3,[],[13]),(4,[],[]),(5,[],[]),(6,[],[]),(7,[],[13]),(8,[],[]),(9,[],[13]),(10,[],[]),(11,[],[]),(12,[],[]),(13,[],[]),(14,[],[]),(15,[],[])] (by kernel_rfl) ?_) | (with_reducible refine zG (i:=11) [(0,[],[]),(1,[],[]),(2,[],[]),(3,[],[]),(4,[],[]),(5,[],[]),(6,[],[]),(7,[],[])] (by kernel_rfl) ?_) | (with_reducible refine zG (i:=13) [(0,[],[]),(1,[],[]),(2,[],[]),(3,[],[]),(4,[],[]),(5,[],[]),(6,[],[]),(7,[],[]),(8,[],[]),(9,[],[]),(10,[],[])] (by kernel_rfl) ?_)) <;> simp [-qt,-qd,-ql,rgs,o1,c1f,k1,k2,k3]) | ((first | (with_reducible refine zQ ?_ ?_) | (with_reducible refine zE ?_ ?_) | (with_reducible refine zA ?_ ?_)) <;> intro qb <;> (have qp:=qb;try simp only [psq] at qp) <;> simp [-qt,-qd,-ql,rgs,o1,c1f,k1,k2,k3,qb])
   exact ⟨rfl,⟨X,by simp [k1,o0],V1.keep fun id hm=>by have:=hin id hm;(repeat rw [zK _ _ _ _ (by omega)]),fun id hm=>.inl hm⟩,fun j hj _ _=>by repeat rw [zK _ _ _ _ (by omega)]⟩
theorem d_Node {w:Wld} {kind up a b:Int} {q1 q2 q3 q4 q5:Nat} (h1:q1 ≠ q5) (h2:q2 ≠ q5) (h3:q3 ≠ q5) (h4:q4 ≠ q5) (hw:vQ w = true) :
 DoOk ctx.P 45 [(q1,[.int .i64 kind],[.int .i64 kind]),(q2,[.int .i64 up],[.int .i64 up]),(q3,[.int .i64 a],[.int .i64 a]),(q4,[.int .i64 b],[.int .i64 b]),(q5,[.int .i64 (-1)],[.int .i64 (growI w kind up a b)])] w (zN3 w kind up a b) (zN5 w kind up a b):=by
 intro p X
 have hgr:=m_grow (X:=X) (p:=p) (kind:=kind) (up:=up) (a:=a) (b:=b) hw
 generalize zN3 w kind up a b = w' at *
 generalize zN5 w kind up a b = gb at *
 generalize growI w kind up a b = gi at *
 refine AC.o okC Tryz.func45 rfl fun h nx hfr hnx hpre => ?_
 obtain ⟨o1,V1,hq⟩:=hpre
 obtain ⟨a1,b1⟩:=hq _ (List.mem_cons_self ..)
 obtain ⟨a2,b2⟩:=hq _ (List.mem_cons_of_mem _ (List.mem_cons_self ..))
 obtain ⟨a3,b3⟩:=hq _ (List.mem_cons_of_mem _ (List.mem_cons_of_mem _ (List.mem_cons_self ..)))
 obtain ⟨a4,b4⟩:=hq _ (List.mem_cons_of_mem _ (List.mem_cons_of_mem _ (List.mem_cons_of_mem _ (List.mem_cons_self ..))))
 obtain ⟨a5,b5⟩:=hq _ (List.mem_cons_of_mem _ (List.mem_cons_of_mem _ (List.mem_cons_of_mem _ (List.mem_cons_of_mem _ (List.mem_cons_self ..)))))
 dsimp only at a1 a2 a3 a4 a5 b1 b2 b3 b4 b5
 have hp:p < nx:=hnx p (by rw [o1];simp)
 have i1:q1 < nx:=hnx q1 (by rw [a1];simp)
 have i2:q2 < nx:=hnx q2 (by rw [a2];simp)
 have i3:q3 < nx:=hnx q3 (by rw [a3];simp)
 have i4:q4 < nx:=hnx q4 (by rw [a4];simp)
 have i5:q5 < nx:=hnx q5 (by rw [a5];simp)
 have hpX:=V1.obj o1
 have x1:=V1.obj a1
 have x2:=V1.obj a2
 have x3:=V1.obj a3
 have x4:=V1.obj a4
 have x5:=V1.obj a5
 try simp [-qt,-qd,-ql,rgs,a1,a2,a3,a4]
 refine yX hgr ⟨o1,V1⟩ ?_
 rintro r h1' n1 ⟨rfl,⟨X1,o2,V2,hid⟩,hf1⟩ hle1 hfr1
 dsimp only at hid hf1 hle1
 have r1:=hf1 q1 (by omega) b1 x1
 have r2:=hf1 q2 (by omega) b2 x2
 have r3:=hf1 q3 (by omega) b3 x3
 have r4:=hf1 q4 (by omega) b4 x4
 have r5:=hf1 q5 (by omega) b5 x5
 rw [a1] at r1
 rw [a2] at r2
 rw [a3] at r3
 rw [a4] at r4
 rw [a5] at r5
 try simp [-qt,-qd,-ql,rgs,r5]
 refine ⟨rfl,fun _=>⟨X1,by rw [zK _ _ _ _ (fun e=>b5 e.symm)];exact o2,V2.keep fun id hm => ?_,fun id hm=>by rcases hid id hm with r | r <;> first | exact .inl r | (right;omega)⟩,fun q hm => ?_,fun j hj hjp hjX hjq => ?_⟩
 ·rcases hid id hm with r | r
  ·rw [zK _ _ _ _ (fun (e:id = q5)=>x5 (e ▸ r))]
  ·rw [zK _ _ _ _ (by omega)]
 ·simp only [List.mem_cons,List.not_mem_nil,or_false] at hm
  rcases hm with rfl | rfl | rfl | rfl | rfl <;> dsimp only
  ·rw [zK _ _ _ _ h1];exact r1
  ·rw [zK _ _ _ _ h2];exact r2
  ·rw [zK _ _ _ _ h3];exact r3
  ·rw [zK _ _ _ _ h4];exact r4
  ·rw [zM]
 ·have hjc:=hjq (q5,_,_) (List.mem_cons_of_mem _ (List.mem_cons_of_mem _ (List.mem_cons_of_mem _ (List.mem_cons_of_mem _ (List.mem_cons_self ..)))))
  rw [zK _ _ _ _ hjc]
  exact hf1 j (by omega) hjp hjX
theorem w_NodeIn {F:Nat → Bool} {w:Wld} {kind up a b:Int} (hs:zD4 w ≤ 1048576):WC ctx.P 10 [.agg (wldV F w),.int .i64 kind,.int .i64 up,.int .i64 a,.int .i64 b]
 (fun X=>.tup [.agg (zD5 X (zC8 w kind up a b)),.int .i64 (zF8 w kind up a b)]) (zC8 w kind up a b):=by
 obtain ⟨g1,g2⟩:=grow_ask (w:=w) (kind:=kind) (up:=up) (a:=a) (b:=b)
 rw [← g1,← g2]
 refine WC.of ?_
 have hdo:vQ w = true → ∀ q1 q2 q3 q4 q5,q1 ≠ q5 → q2 ≠ q5 → q3 ≠ q5 → q4 ≠ q5 → DoOk ctx.P 45 [(q1,[.int .i64 kind],[.int .i64 kind]),(q2,[.int .i64 up],[.int .i64 up]),(q3,[.int .i64 a],[.int .i64 a]),(q4,[.int .i64 b],[.int .i64 b]),(q5,[.int .i64 (-1)],[.int .i64 (growI w kind up a b)])] w (zN3 w kind up a b) (zN5 w kind up a b) :=
  fun hw q1 q2 q3 q4 q5 h1 h2 h3 h4=>d_Node h1 h2 h3 h4 hw
 clear g1 g2
 generalize zN3 w kind up a b = w' at *
 generalize zN5 w kind up a b = gb at *
 generalize growI w kind up a b = gi at *
 refine AC.o okC Tryz.func10 rfl fun h nx hfr hnx hpre => ?_
 try simp [-qt,-qd,-ql,rgs,zA2,wldV_len,wldV_take]
 repeat' first | done | ((first | (with_reducible refine zG (i:=5) [(0,[],[]),(1,[],[]),(2,[.tmp 12],[]),(3,[],[])] (by kernel_rfl) ?_)) <;> simp [-qt,-qd,-ql,rgs,zA2,wldV_len,wldV_take]) | ((first | (with_reducible refine zA ?_ ?_)) <;> intro qb <;> (have qp:=qb;try simp only [psq] at qp) <;> simp [-qt,-qd,-ql,rgs,zA2,wldV_len,wldV_take,qb])
 refine yX (w_asked (F:=F) (qs:=[(nx + 1,[.int .i64 kind],[.int .i64 kind]),(nx + 2,[.int .i64 up],[.int .i64 up]),(nx + 3,[.int .i64 a],[.int .i64 a]),(nx + 4,[.int .i64 b],[.int .i64 b]),(nx + 7,[.int .i64 (-1)],[.int .i64 gi])]) hs (fun hw=>hdo hw _ _ _ _ _ (by omega) (by omega) (by omega) (by omega))) ?_ ?_
 ·intro q hm
  simp only [List.mem_cons,List.not_mem_nil,or_false] at hm
  rcases hm with rfl | rfl | rfl | rfl | rfl <;> dsimp only <;> repeat (first | exact zM .. | rw [zK _ _ _ _ (by omega)])
 ·rintro r h1 n1 ⟨⟨X,rfl,V1,hid1⟩,hq1,hf1⟩ hle1 hfr1
  dsimp only at hid1 hf1 hle1
  have q3:=hq1 (nx + 7,_,_) (List.mem_cons_of_mem _ (List.mem_cons_of_mem _ (List.mem_cons_of_mem _ (List.mem_cons_of_mem _ (List.mem_cons_self ..)))))
  dsimp only at q3
  have K1:=fun j (hj:j < nx + 18) (a1:j ≠ nx + 1) (a2:j ≠ nx + 2) (a3:j ≠ nx + 3) (a4:j ≠ nx + 4) (a5:j ≠ nx + 7)=>hf1 j hj (fun q hm=>by
   simp only [List.mem_cons,List.not_mem_nil,or_false] at hm
   rcases hm with rfl | rfl | rfl | rfl | rfl <;> assumption)
  have z1:=K1 (nx + 5) (by omega) (by omega) (by omega) (by omega) (by omega) (by omega)
  simp at z1
  by_cases hb:askB w w' gb = true
  ·have hw:vQ w = true:=by simp only [askB,Bool.and_eq_true] at hb;exact hb.1
   rw [if_pos hw] at q3
   rw [if_pos hb,hb]
   try simp [-qt,-qd,-ql,rgs,z1,q3,zS X _,yH,yB]
   repeat' first | done | ((first | (with_reducible refine zG (i:=5) [(0,[],[]),(1,[],[]),(2,[.tmp 12],[]),(3,[],[])] (by kernel_rfl) ?_)) <;> simp [-qt,-qd,-ql,rgs,z1,q3,zS X _,yH,yB]) | ((first | (with_reducible refine zA ?_ ?_)) <;> intro qb <;> (have qp:=qb;try simp only [psq] at qp) <;> simp [-qt,-qd,-ql,rgs,z1,q3,zS X _,yH,yB,qb])
   refine ⟨fun j hj => ?_,X,rfl,V1.keep fun id hid => ?_,fun id hid=>by have:=hid1 id hid;omega⟩
   ·repeat rw [zK _ _ _ _ (by omega)]
    rw [K1 j (by omega) (by omega) (by omega) (by omega) (by omega) (by omega)]
    repeat rw [zK _ _ _ _ (by omega)]
   ·have:=hid1 id hid
    repeat rw [zK _ _ _ _ (by omega)]
  ·have hb2:askB w w' gb = false:=by simpa using hb
   rw [if_neg hb,hb2]
   try simp [-qt,-qd,-ql,rgs,z1,zS X _,yH,yB]
   repeat' first | done | ((first | (with_reducible refine zG (i:=5) [(0,[],[]),(1,[],[]),(2,[.tmp 12],[]),(3,[],[])] (by kernel_rfl) ?_)) <;> simp [-qt,-qd,-ql,rgs,z1,zS X _,yH,yB]) | ((first | (with_reducible refine zA ?_ ?_)) <;> intro qb <;> (have qp:=qb;try simp only [psq] at qp) <;> simp [-qt,-qd,-ql,rgs,z1,zS X _,yH,yB,qb])
   refine ⟨fun j hj => ?_,X,rfl,V1.keep fun id hid => ?_,fun id hid=>by have:=hid1 id hid;omega⟩
   ·repeat rw [zK _ _ _ _ (by omega)]
    rw [K1 j (by omega) (by omega) (by omega) (by omega) (by omega) (by omega)]
    repeat rw [zK _ _ _ _ (by omega)]
   ·have:=hid1 id hid
    repeat rw [zK _ _ _ _ (by omega)]
end Go.AE.Tryz
end
section
/- Contracts of the reference's changes of heaps. -/
set_option maxRecDepth 8000
set_option maxHeartbeats 2000000
namespace Go.AE.Tryz
open Go.Proofs
open List renaming map_take → qt,map_drop → qd,map_tail → ql
theorem s_l3Join {p q:Bool} {x:Twg} {l r:List Twg} (hl:isH l) (hr:isH r) (hm:l.length + r.length ≤ 1000):PC ctx.P 318 [.agg (yI x),.view p 3 (l.map yI),.view q 3 (r.map yI)] (.view true 3 ((zI1 x l r).map yI)):=by
 have r1:=rkI_of hl
 have r2:=rkI_of hr
 by_cases hk:rk0 l < rk0 r
 ·have hk2:(rkI l < rkI r) = True:=by simp only [eq_iff_iff,iff_true];omega
  have hj:(zI1 x l r).map yI = yI ⟨x.due,x.seq,r.length⟩ :: (r.map yI ++ l.map yI):=by simp [zI1,hk]
  rw [hj]
  refine PC.o okC Tryz.func318 rfl (by rw [← hj];exact .vmap yR) fun h nx hnx => ?_
  try simp [-qt,-qd,-ql,rgs,yI,hk2]
  repeat' first | done | ((first | ((with_reducible show zV _ _ _ _ _ _);refine zB rfl fun _ => ?_) | ((with_reducible show zF _ _ _ 316 _ _);refine zD (s_l3Rank) ?_) | ((with_reducible show vS _ _ _ _ _ _ _ _);refine zR rfl rfl (by decide) (by decide) (by first | (simp [-qt,-qd,-ql,rgs,yI,hk2];done) | (simp [-qt,-qd,-ql,rgs,yI,hk2];rfl)) (by first | (simp [-qt,-qd,-ql,rgs,yI,hk2];done) | (simp [-qt,-qd,-ql,rgs,yI,hk2];rfl)) (by first | (simp;done) | (simp;omega)) (by first | (simp only [zY,LIM] at *; simp;omega) | (simp only [zY];simp;omega)) (by simp [iv,bv]) ?_)) <;> simp [-qt,-qd,-ql,rgs,yI,hk2]) | ((first | (with_reducible refine zA ?_ ?_)) <;> intro qb <;> (have qp:=qb;try simp only [psq] at qp) <;> simp [-qt,-qd,-ql,rgs,yI,hk2,qb])
  rw [if_pos (by omega),List.take_of_length_le (by simp;omega)]
  exact (finP_some ..).mpr ⟨rfl,zL⟩
 ·have hk2:(rkI l < rkI r) = False:=by simp only [eq_iff_iff,iff_false];omega
  have hj:(zI1 x l r).map yI = yI ⟨x.due,x.seq,l.length⟩ :: (l.map yI ++ r.map yI):=by simp [zI1,hk]
  rw [hj]
  refine PC.o okC Tryz.func318 rfl (by rw [← hj];exact .vmap yR) fun h nx hnx => ?_
  try simp [-qt,-qd,-ql,rgs,yI,hk2]
  repeat' first | done | ((first | ((with_reducible show zV _ _ _ _ _ _);refine zB rfl fun _ => ?_) | ((with_reducible show zF _ _ _ 316 _ _);refine zD (s_l3Rank) ?_) | ((with_reducible show vS _ _ _ _ _ _ _ _);refine zR rfl rfl (by decide) (by decide) (by first | (simp [-qt,-qd,-ql,rgs,yI,hk2];done) | (simp [-qt,-qd,-ql,rgs,yI,hk2];rfl)) (by first | (simp [-qt,-qd,-ql,rgs,yI,hk2];done) | (simp [-qt,-qd,-ql,rgs,yI,hk2];rfl)) (by first | (simp;done) | (simp;omega)) (by first | (simp only [zY,LIM] at *; simp;omega) | (simp only [zY];simp;omega)) (by simp [iv,bv]) ?_)) <;> simp [-qt,-qd,-ql,rgs,yI,hk2]) | ((first | (with_reducible refine zA ?_ ?_)) <;> intro qb <;> (have qp:=qb;try simp only [psq] at qp) <;> simp [-qt,-qd,-ql,rgs,yI,hk2,qb])
  rw [if_pos (by omega),List.take_of_length_le (by simp;omega)]
  exact (finP_some ..).mpr ⟨rfl,zL⟩
theorem s_l3MergeN:∀ (n:Nat) (p q:Bool) (a b:List Twg),a.length + b.length ≤ n → n ≤ 1000 → isH a → isH b → apart a b → PC ctx.P 246 [.view p 3 (a.map yI),.view q 3 (b.map yI)] (.view true 3 ((zM9 n a b).map yI)):=by
 intro n
 induction n with
 | zero =>
   intro p q a b hn hm ha hb hd
   obtain rfl:a = []:=List.eq_nil_of_length_eq_zero (by omega)
   obtain rfl:b = []:=List.eq_nil_of_length_eq_zero (by simpa using hn)
   rw [mrgN_l]
   have hc:=s_l3Copy (p:=q) (xs:=[]) (by simp)
   refine PC.o okC Tryz.func246 rfl (.vmap yR) fun h nx hnx => ?_
   try simp [-qt,-qd,-ql,rgs]
   repeat' first | done | ((first | ((with_reducible show zV _ _ _ _ _ _);refine zB rfl fun _ => ?_) | ((with_reducible show zI _ _ _ _ _ _ _);refine zC rfl omA omA ?_) | (refine zD (hc) ?_) | (with_reducible refine zG (i:=5) [(0,[],[]),(1,[],[]),(2,[],[]),(3,[],[]),(4,[],[]),(5,[],[]),(6,[],[]),(7,[],[])] (by kernel_rfl) ?_) | (with_reducible refine zG (i:=10) [(0,[],[]),(1,[],[]),(2,[],[]),(3,[],[]),(4,[],[]),(5,[],[]),(6,[.tmp 37],[]),(7,[],[]),(8,[],[])] (by kernel_rfl) ?_)) <;> simp [-qt,-qd,-ql,rgs]) | ((first | (with_reducible refine zA ?_ ?_)) <;> intro qb <;> (have qp:=qb;try simp only [psq] at qp) <;> simp [-qt,-qd,-ql,rgs,qb])
 | succ n ih =>
   intro p q a b hn hm ha hb hd
   by_cases ha0:a.length = 0
   ·obtain rfl:a = []:=List.eq_nil_of_length_eq_zero ha0
    rw [mrgN_l]
    refine PC.o okC Tryz.func246 rfl (.vmap yR) fun h nx hnx => ?_
    try simp [-qt,-qd,-ql,rgs]
    repeat' first | done | ((first | ((with_reducible show zV _ _ _ _ _ _);refine zB rfl fun _ => ?_) | ((with_reducible show zI _ _ _ _ _ _ _);refine zC rfl omA omA ?_) | ((with_reducible show zF _ _ _ 191 _ _);refine zD (s_l3Copy (p:=q) (xs:=b) (by omega)) ?_) | (with_reducible refine zG (i:=5) [(0,[],[]),(1,[],[]),(2,[],[]),(3,[],[]),(4,[],[]),(5,[],[]),(6,[],[]),(7,[],[])] (by kernel_rfl) ?_) | (with_reducible refine zG (i:=10) [(0,[],[]),(1,[],[]),(2,[],[]),(3,[],[]),(4,[],[]),(5,[],[]),(6,[.tmp 37],[]),(7,[],[]),(8,[],[])] (by kernel_rfl) ?_)) <;> simp [-qt,-qd,-ql,rgs]) | ((first | (with_reducible refine zA ?_ ?_)) <;> intro qb <;> (have qp:=qb;try simp only [psq] at qp) <;> simp [-qt,-qd,-ql,rgs,qb])
   have hx0:((a.length:Int) == 0) = false:=by simp;intro e;exact ha0 (by simp [e])
   by_cases hb0:b.length = 0
   ·obtain rfl:b = []:=List.eq_nil_of_length_eq_zero hb0
    rw [mrgN_r]
    refine PC.o okC Tryz.func246 rfl (.vmap yR) fun h nx hnx => ?_
    try simp [-qt,-qd,-ql,rgs,hx0]
    repeat' first | done | ((first | ((with_reducible show zV _ _ _ _ _ _);refine zB rfl fun _ => ?_) | ((with_reducible show zI _ _ _ _ _ _ _);refine zC rfl omA omA ?_) | ((with_reducible show zF _ _ _ 191 _ _);refine zD (s_l3Copy (p:=p) (xs:=a) (by omega)) ?_) | (with_reducible refine zG (i:=5) [(0,[],[]),(1,[],[]),(2,[],[]),(3,[],[]),(4,[],[]),(5,[],[]),(6,[],[]),(7,[],[])] (by kernel_rfl) ?_) | (with_reducible refine zG (i:=10) [(0,[],[]),(1,[],[]),(2,[],[]),(3,[],[]),(4,[],[]),(5,[],[]),(6,[.tmp 37],[]),(7,[],[]),(8,[],[])] (by kernel_rfl) ?_)) <;> simp [-qt,-qd,-ql,rgs,hx0]) | ((first | (with_reducible refine zA ?_ ?_)) <;> intro qb <;> (have qp:=qb;try simp only [psq] at qp) <;> simp [-qt,-qd,-ql,rgs,hx0,qb])
   have hy0:((b.length:Int) == 0) = false:=by simp;intro e;exact hb0 (by simp [e])
   have ha0:0 < a.length:=by omega
   have hb0:0 < b.length:=by omega
   by_cases hyx:lt2 (gt b 0) (gt a 0)
   ·have hcmp:(uQ (gt a 0) (gt b 0) < 0) = False:=by simp only [eq_iff_iff,iff_false];exact fun h=>lt2_irr hyx (cmp_lt.1 h)
    have pp:=isH_part hb hb0
    have hl1:=mrgN_len n (b.drop ((gt b 0).lefts.toNat + 1)) a (by omega) pp.2.2.2.1 ha
    rw [mrgN_b ha0 hb0 hyx]
    have hq2:=ih q p (b.drop ((gt b 0).lefts.toNat + 1)) a (by omega) (by omega) pp.2.2.2.1 ha (zE5 (zJ6 hd) _)
    have hq3:=mrgN_isH (n:=n) (by omega) pp.2.2.2.1 ha (zE5 (zJ6 hd) _)
    refine PC.o okC Tryz.func246 rfl (.vmap yR) fun h nx hnx => ?_
    try simp [-qt,-qd,-ql,rgs,hx0,hy0,hcmp]
    repeat' first | done | ((first | ((with_reducible show zV _ _ _ _ _ _);refine zB rfl fun _ => ?_) | ((with_reducible show zI _ _ _ _ _ _ _);refine zC rfl omA omA ?_) | ((with_reducible show zF _ _ _ 317 _ _);refine zD (s_l3Ahead) ?_) | ((with_reducible show zF _ _ _ 245 _ _);refine zD (s_l3Parts hb0 pp.1 pp.2.1) ?_) | (refine zD (hq2) ?_) | ((with_reducible show zF _ _ _ 318 _ _);refine zD (s_l3Join pp.2.2.1 hq3 (by omega)) ?_) | (with_reducible refine zG (i:=5) [(0,[],[]),(1,[],[]),(2,[],[]),(3,[],[]),(4,[],[]),(5,[],[]),(6,[],[]),(7,[],[])] (by kernel_rfl) ?_) | (with_reducible refine zG (i:=10) [(0,[],[]),(1,[],[]),(2,[],[]),(3,[],[]),(4,[],[]),(5,[],[]),(6,[.tmp 37],[]),(7,[],[]),(8,[],[])] (by kernel_rfl) ?_)) <;> simp [-qt,-qd,-ql,rgs,hx0,hy0,hcmp]) | ((first | (with_reducible refine zA ?_ ?_)) <;> intro qb <;> (have qp:=qb;try simp only [psq] at qp) <;> simp [-qt,-qd,-ql,rgs,hx0,hy0,hcmp,qb])
   ·have hcmp:(uQ (gt a 0) (gt b 0) < 0) = True:=by simp only [eq_iff_iff,iff_true];exact cmp_lt.2 (lt2_flip (hd _ (gt0_mem ha0) _ (gt0_mem hb0)) hyx)
    have pp:=isH_part ha ha0
    have hl1:=mrgN_len n (a.drop ((gt a 0).lefts.toNat + 1)) b (by omega) pp.2.2.2.1 hb
    rw [mrgN_a ha0 hb0 hyx]
    have hq2:=ih p q (a.drop ((gt a 0).lefts.toNat + 1)) b (by omega) (by omega) pp.2.2.2.1 hb (zE5 hd _)
    have hq3:=mrgN_isH (n:=n) (by omega) pp.2.2.2.1 hb (zE5 hd _)
    refine PC.o okC Tryz.func246 rfl (.vmap yR) fun h nx hnx => ?_
    try simp [-qt,-qd,-ql,rgs,hx0,hy0,hcmp]
    repeat' first | done | ((first | ((with_reducible show zV _ _ _ _ _ _);refine zB rfl fun _ => ?_) | ((with_reducible show zI _ _ _ _ _ _ _);refine zC rfl omA omA ?_) | ((with_reducible show zF _ _ _ 317 _ _);refine zD (s_l3Ahead) ?_) | ((with_reducible show zF _ _ _ 245 _ _);refine zD (s_l3Parts ha0 pp.1 pp.2.1) ?_) | (refine zD (hq2) ?_) | ((with_reducible show zF _ _ _ 318 _ _);refine zD (s_l3Join pp.2.2.1 hq3 (by omega)) ?_) | (with_reducible refine zG (i:=5) [(0,[],[]),(1,[],[]),(2,[],[]),(3,[],[]),(4,[],[]),(5,[],[]),(6,[],[]),(7,[],[])] (by kernel_rfl) ?_) | (with_reducible refine zG (i:=10) [(0,[],[]),(1,[],[]),(2,[],[]),(3,[],[]),(4,[],[]),(5,[],[]),(6,[.tmp 37],[]),(7,[],[]),(8,[],[])] (by kernel_rfl) ?_)) <;> simp [-qt,-qd,-ql,rgs,hx0,hy0,hcmp]) | ((first | (with_reducible refine zA ?_ ?_)) <;> intro qb <;> (have qp:=qb;try simp only [psq] at qp) <;> simp [-qt,-qd,-ql,rgs,hx0,hy0,hcmp,qb])
theorem s_l3Merge {p q:Bool} {a b:List Twg} (hl:a.length + b.length ≤ 1000) (ha:isH a) (hb:isH b) (hd:apart a b):PC ctx.P 246 [.view p 3 (a.map yI),.view q 3 (b.map yI)] (.view true 3 ((mrg a b).map yI)) :=
 s_l3MergeN _ p q a b (Nat.le_refl _) hl ha hb hd
theorem s_Merged {p q:Bool} {a b:List Twg} (ha:zC2 a = true) (hb:zC2 b = true) (hl:a.length + b.length ≤ 64) (hd:zI7 (a ++ b) = true):PC ctx.P 265 [.view p 3 (a.map yI),.view q 3 (b.map yI)] (.tup [.view true 3 ((mrg a b).map yI),.bool true]):=by
 obtain ⟨a1,a2,a3⟩:=zG9.1 ha
 obtain ⟨b1,b2,b3⟩:=zG9.1 hb
 have hap:apart a b:=(List.pairwise_append.1 (seqs_once.1 hd)).2.2
 have hl2:(64 < (a.length:Int) + b.length) = False:=by simp only [eq_iff_iff,iff_false];omega
 have hw:IntKind.i64.wrap ((a.length:Int) + b.length) = a.length + b.length:=zH (by omega)
 have htw:=s_l3Twice (p:=false) (l:=a ++ b)
 rw [List.map_append] at htw
 refine PC.o okC Tryz.func265 rfl (.tup _ (by simp only [List.mem_cons,List.not_mem_nil,or_false];rintro c (rfl | rfl);exact .vmap yR;exact .bool _)) fun h nx hnx => ?_
 try simp [-qt,-qd,-ql,rgs,ha,hb,hw,hl2,hd]
 repeat' first | done | ((first | ((with_reducible show zV _ _ _ _ _ _);refine zB rfl fun _ => ?_) | ((with_reducible show zF _ _ _ 244 _ _);refine zD (s_HeapOk (l:=a)) ?_) | ((with_reducible show zF _ _ _ 244 _ _);refine zD (s_HeapOk (l:=b)) ?_) | ((with_reducible show zF _ _ _ 191 _ _);refine yA (f_l3Copy (p:=p) (xs:=a) (by omega)) ?_) | (refine yL (htw) (by first | exact .bool _ | exact .int _ _ | exact .str _) (by repeat' first | exact Bors.nil | refine Bors.cons ?_ ?_ | exact Bor.same _ | refine Bor.fn1 ?_ | refine Bor.bnd1 ?_ | refine Bor.agg1 ?_ | refine Bor.ptr0 (by first | (simp;done) | (simp;rfl) | assumption | (simp [*];done)) ?_ | refine Bor.ref0 (by first | (simp;done) | (simp;rfl) | (simp [iv,bv];done)) (by simp) (by simp)) ?_) | ((with_reducible show zF _ _ _ 246 _ _);refine zD (s_l3Merge (by omega) a3 b3 hap) ?_) | ((with_reducible show vS _ _ _ _ _ _ _ _);refine zR rfl rfl (by decide) (by decide) (by first | (simp [-qt,-qd,-ql,rgs,ha,hb,hw,hl2,hd];done) | (simp [-qt,-qd,-ql,rgs,ha,hb,hw,hl2,hd];rfl)) (by first | (simp [-qt,-qd,-ql,rgs,ha,hb,hw,hl2,hd];done) | (simp [-qt,-qd,-ql,rgs,ha,hb,hw,hl2,hd];rfl)) (by first | (simp;done) | (simp;omega)) (by first | (simp only [zY,LIM] at *; simp;omega) | (simp only [zY];simp;omega)) (by simp [iv,bv]) ?_)) <;> simp [-qt,-qd,-ql,rgs,ha,hb,hw,hl2,hd]) | ((first | (with_reducible refine zE ?_ ?_) | (with_reducible refine zA ?_ ?_)) <;> intro qb <;> (have qp:=qb;try simp only [psq] at qp) <;> simp [-qt,-qd,-ql,rgs,ha,hb,hw,hl2,hd,qb])
theorem s_Put {p:Bool} {a:List Twg} {d s:Int} (ha:zC2 a = true) (hl:a.length + 1 ≤ 64) (hd:∀ x ∈ a,x.seq ≠ s):PC ctx.P 196 [.view p 3 (a.map yI),.int .i64 d,.int .i64 s] (.tup [.view true 3 ((putH a d s).map yI),.bool true]):=by
 have hb:zC2 [⟨d,s,0⟩] = true:=zG9.2 ⟨by simp,by simp [once],isH_one d s⟩
 have hs:zI7 (a ++ [⟨d,s,0⟩]) = true:=seqs_once.2 (List.pairwise_append.2 ⟨(zG9.1 ha).2.1,by simp,fun y hy z hz=>by simp at hz;subst hz;exact hd y hy⟩)
 refine PC.o okC Tryz.func196 rfl (.tup _ (by simp only [List.mem_cons,List.not_mem_nil,or_false];rintro c (rfl | rfl);exact .vmap yR;exact .bool _)) fun h nx hnx => ?_
 try simp [-qt,-qd,-ql,rgs]
 refine yL (s_Merged (p:=p) (q:=false) (b:=[⟨d,s,0⟩]) ha hb (by simpa using hl) hs) (.tup _ fun c hc => ?_) (.cons (.same _) (.cons (Bor.ref0 (by first | (simp;done) | (simp;rfl)) rfl rfl) .nil)) ?_
 ·simp only [List.mem_cons,List.not_mem_nil,or_false] at hc
  rcases hc with rfl | rfl
  ·exact .view _ _ fun i j x hx=>by exact twg_cl _ i j x hx
  ·exact .bool _
 try simp [-qt,-qd,-ql,rgs,putH]
end Go.AE.Tryz
end
section
/- Contracts of the reference's request to create a node. -/
set_option maxRecDepth 8000
set_option maxHeartbeats 4000000
namespace Go.AE.Tryz
open Go.Proofs
open List renaming map_take → qt,map_drop → qd,map_tail → ql
theorem s_Grown {p:Bool} {t:List Nod} {x:Nod} (ht:vV t = true):PC ctx.P 111 [.view p 5 (t.map yE),.agg (yE x)] (.tup [.view true 5 ((if zF7 t x = true then t ++ [x] else t).map yE),.int .i64 (if zF7 t x = true then t.length else -1)]):=by
 have hl:=zE3 ht
 have hl2:t.length ≤ 1048576:=by omega
 have e:vV (t ++ [x]) = zF7 t x:=by rw [zO9,ht];rfl
 by_cases hc:zF7 t x = true
 ·rw [hc] at e
  simp only [if_pos hc]
  refine PC.o okC Tryz.func111 rfl (.tup _ (by simp only [List.mem_cons,List.not_mem_nil,or_false];rintro c (rfl | rfl);exact .vmap zK6;exact .int _ _)) fun h nx hnx => ?_
  try simp [-qt,-qd,-ql,rgs,ht,yE,zO,zJ hnx]
  repeat' first | done | ((first | ((with_reducible show zV _ _ _ _ _ _);refine zB rfl fun _ => ?_) | ((with_reducible show zF _ _ _ 183 _ _);refine zD (zI6 (t:=t)) ?_) | ((with_reducible show zF _ _ _ 104 _ _);refine yA (f_l5Copy hl2) ?_) | ((with_reducible show vS _ _ _ _ _ _ _ _);refine zR rfl rfl (by decide) (by decide) (by first | (simp [-qt,-qd,-ql,rgs,ht,yE,zO,zJ hnx];done) | (simp [-qt,-qd,-ql,rgs,ht,yE,zO,zJ hnx];rfl)) (by first | (simp [-qt,-qd,-ql,rgs,ht,yE,zO,zJ hnx];done) | (simp [-qt,-qd,-ql,rgs,ht,yE,zO,zJ hnx];rfl)) (by first | (simp;done) | (simp;omega)) (by first | (simp only [zY,LIM] at *; simp;omega) | (simp only [zY];simp;omega)) (by simp [iv,bv]) ?_) | (with_reducible refine zG (i:=3) [(0,[],[]),(2,[],[]),(1,[.tmp 3],[3]),(3,[],[]),(4,[],[]),(5,[],[])] (by kernel_rfl) ?_)) <;> simp [-qt,-qd,-ql,rgs,ht,yE,zO,zJ hnx]) | ((first | (with_reducible refine zA ?_ ?_)) <;> intro qb <;> (have qp:=qb;try simp only [psq] at qp) <;> simp [-qt,-qd,-ql,rgs,ht,yE,zO,zJ hnx,qb])
  refine yL (zI6 (p:=false) (t:=t ++ [x])) (.bool _) ?hb ?_
  case hb=>exact .cons (.ref0 (by simp [yE]) (by simp) (by simp)) .nil
  try simp [-qt,-qd,-ql,rgs,e,yE,zO,zJ hnx]
  repeat' first | done | ((first | ((with_reducible show zV _ _ _ _ _ _);refine zB rfl fun _ => ?_) | ((with_reducible show vS _ _ _ _ _ _ _ _);refine zR rfl rfl (by decide) (by decide) (by first | (simp [-qt,-qd,-ql,rgs,e,yE,zO,zJ hnx];done) | (simp [-qt,-qd,-ql,rgs,e,yE,zO,zJ hnx];rfl)) (by first | (simp [-qt,-qd,-ql,rgs,e,yE,zO,zJ hnx];done) | (simp [-qt,-qd,-ql,rgs,e,yE,zO,zJ hnx];rfl)) (by first | (simp;done) | (simp;omega)) (by first | (simp only [zY,LIM] at *; simp;omega) | (simp only [zY];simp;omega)) (by simp [iv,bv]) ?_) | (with_reducible refine zG (i:=3) [(0,[],[]),(2,[],[]),(1,[.tmp 3],[3]),(3,[],[]),(4,[],[]),(5,[],[])] (by kernel_rfl) ?_)) <;> simp [-qt,-qd,-ql,rgs,e,yE,zO,zJ hnx]) | ((first | (with_reducible refine zA ?_ ?_)) <;> intro qb <;> (have qp:=qb;try simp only [psq] at qp) <;> simp [-qt,-qd,-ql,rgs,e,yE,zO,zJ hnx,qb])
 ·have hc2:zF7 t x = false:=by simpa using hc
  rw [hc2] at e
  simp only [if_neg hc]
  refine PC.o okC Tryz.func111 rfl (.tup _ (by simp only [List.mem_cons,List.not_mem_nil,or_false];rintro c (rfl | rfl);exact .vmap zK6;exact .int _ _)) fun h nx hnx => ?_
  try simp [-qt,-qd,-ql,rgs,ht,yE,zO,zJ hnx]
  repeat' first | done | ((first | ((with_reducible show zV _ _ _ _ _ _);refine zB rfl fun _ => ?_) | ((with_reducible show zF _ _ _ 183 _ _);refine zD (zI6 (t:=t)) ?_) | ((with_reducible show zF _ _ _ 104 _ _);refine yA (f_l5Copy hl2) ?_) | ((with_reducible show vS _ _ _ _ _ _ _ _);refine zR rfl rfl (by decide) (by decide) (by first | (simp [-qt,-qd,-ql,rgs,ht,yE,zO,zJ hnx];done) | (simp [-qt,-qd,-ql,rgs,ht,yE,zO,zJ hnx];rfl)) (by first | (simp [-qt,-qd,-ql,rgs,ht,yE,zO,zJ hnx];done) | (simp [-qt,-qd,-ql,rgs,ht,yE,zO,zJ hnx];rfl)) (by first | (simp;done) | (simp;omega)) (by first | (simp only [zY,LIM] at *; simp;omega) | (simp only [zY];simp;omega)) (by simp [iv,bv]) ?_) | (with_reducible refine zG (i:=3) [(0,[],[]),(2,[],[]),(1,[.tmp 3],[3]),(3,[],[]),(4,[],[]),(5,[],[])] (by kernel_rfl) ?_)) <;> simp [-qt,-qd,-ql,rgs,ht,yE,zO,zJ hnx]) | ((first | (with_reducible refine zA ?_ ?_)) <;> intro qb <;> (have qp:=qb;try simp only [psq] at qp) <;> simp [-qt,-qd,-ql,rgs,ht,yE,zO,zJ hnx,qb])
  refine yL (zI6 (p:=false) (t:=t ++ [x])) (.bool _) ?hb ?_
  case hb=>exact .cons (.ref0 (by simp [yE]) (by simp) (by simp)) .nil
  try simp [-qt,-qd,-ql,rgs,e,yE,zO,zJ hnx]
  repeat' first | done | ((first | ((with_reducible show zV _ _ _ _ _ _);refine zB rfl fun _ => ?_) | ((with_reducible show zF _ _ _ 104 _ _);refine yA (f_l5Copy hl2) ?_) | ((with_reducible show vS _ _ _ _ _ _ _ _);refine zR rfl rfl (by decide) (by decide) (by first | (simp [-qt,-qd,-ql,rgs,e,yE,zO,zJ hnx];done) | (simp [-qt,-qd,-ql,rgs,e,yE,zO,zJ hnx];rfl)) (by first | (simp [-qt,-qd,-ql,rgs,e,yE,zO,zJ hnx];done) | (simp [-qt,-qd,-ql,rgs,e,yE,zO,zJ hnx];rfl)) (by first | (simp;done) | (simp;omega)) (by first | (simp only [zY,LIM] at *; simp;omega) | (simp only [zY];simp;omega)) (by simp [iv,bv]) ?_) | (with_reducible refine zG (i:=3) [(0,[],[]),(2,[],[]),(1,[.tmp 3],[3]),(3,[],[]),(4,[],[]),(5,[],[])] (by kernel_rfl) ?_)) <;> simp [-qt,-qd,-ql,rgs,e,yE,zO,zJ hnx]) | ((first | (with_reducible refine zA ?_ ?_)) <;> intro qb <;> (have qp:=qb;try simp only [psq] at qp) <;> simp [-qt,-qd,-ql,rgs,e,yE,zO,zJ hnx,qb])
theorem s_Begun {F:Nat → Bool} {p:Bool} {t:List Nod} {s:Spr} {n:Int} (ht:vV t = true) (hs:yW s t = true):PC ctx.P 113 [.view p 5 (t.map yE),.agg (vW F s),.int .i64 n] (.tup [.agg (vW (fun _=>true) (begR s n)),.bool (zC5 s n)]):=by
 have hl:=zE3 ht
 have h0:=hs
 simp only [yW,Bool.and_eq_true,beq_iff_eq,decide_eq_true_eq] at h0
 obtain ⟨h1,h2,-⟩:=h0
 have h3:s.told.length ≤ 1048576:=by omega
 have h4:s.work.length ≤ 1048576:=by omega
 have e1:vU n s.told = inR n 0 ((t.length:Int) - 1):=by simp only [vU,h1]
 have ew:IntKind.i64.wrap ((t.length:Int) - 1) = (t.length:Int) - 1:=zH (by omega)
 by_cases hi:inR n 0 ((t.length:Int) - 1) = true
 ·by_cases hw:s.work.length = 240
  ·have hc:zC5 s n = false:=by simp [zC5,hw]
   have hb:begR s n = s:=by simp [begR,hc]
   rw [hc,hb]
   refine PC.o okC Tryz.func113 rfl (.tup _ (by simp only [List.mem_cons,List.not_mem_nil,or_false];rintro c (rfl | rfl);exact .agg _ (sprV_fz s);exact .bool _)) fun h nx hnx => ?_
   try simp [-qt,-qd,-ql,rgs,ht,hs,ew,hi,hw,vW,zB5 hw,zJ hnx]
   repeat' first | done | ((first | ((with_reducible show zV _ _ _ _ _ _);refine zB rfl fun _ => ?_) | ((with_reducible show zF _ _ _ 96 _ _);refine zD (zM6 (F:=F) (t:=t) (s:=s)) ?_) | ((with_reducible show zF _ _ _ 184 _ _);refine zD (zA5) ?_) | ((with_reducible show zF _ _ _ 106 _ _);refine yA (f_l7Copy (F:=F) h3 h4) ?_) | ((with_reducible show vS _ _ _ _ _ _ _ _);refine zR rfl rfl (by decide) (by decide) (by first | (simp [-qt,-qd,-ql,rgs,ht,hs,ew,hi,hw,vW,zB5 hw,zJ hnx];done) | (simp [-qt,-qd,-ql,rgs,ht,hs,ew,hi,hw,vW,zB5 hw,zJ hnx];rfl)) (by first | (simp [-qt,-qd,-ql,rgs,ht,hs,ew,hi,hw,vW,zB5 hw,zJ hnx];done) | (simp [-qt,-qd,-ql,rgs,ht,hs,ew,hi,hw,vW,zB5 hw,zJ hnx];rfl)) (by first | (simp;done) | (simp;omega)) (by first | (simp only [zY,LIM] at *; simp;omega) | (simp only [zY];simp;omega)) (by simp [iv,bv]) ?_)) <;> simp [-qt,-qd,-ql,rgs,ht,hs,ew,hi,hw,vW,zB5 hw,zJ hnx]) | ((first | (with_reducible refine zE ?_ ?_) | (with_reducible refine zA ?_ ?_)) <;> intro qb <;> (have qp:=qb;try simp only [psq] at qp) <;> simp [-qt,-qd,-ql,rgs,ht,hs,ew,hi,hw,vW,zB5 hw,zJ hnx,qb])
  ·have hc:zC5 s n = true:=by simp [zC5,e1,hi,hw]
   have hb:begR s n = ⟨s.told,s.work ++ [n]⟩:=by simp [begR,hc]
   rw [hc,hb]
   refine PC.o okC Tryz.func113 rfl (.tup _ (by simp only [List.mem_cons,List.not_mem_nil,or_false];rintro c (rfl | rfl);exact .agg _ (sprV_fz _);exact .bool _)) fun h nx hnx => ?_
   have hw2:((s.work.length:Int) == 240) = false:=by simp;omega
   try simp [-qt,-qd,-ql,rgs,ht,hs,ew,hi,hw2,vW,zO,zJ hnx,iv]
   repeat' first | done | ((first | ((with_reducible show zV _ _ _ _ _ _);refine zB rfl fun _ => ?_) | ((with_reducible show zF _ _ _ 96 _ _);refine zD (zM6 (F:=F) (t:=t) (s:=s)) ?_) | ((with_reducible show zF _ _ _ 184 _ _);refine zD (zA5) ?_) | ((with_reducible show zF _ _ _ 106 _ _);refine yA (f_l7Copy (F:=F) h3 h4) ?_) | ((with_reducible show vS _ _ _ _ _ _ _ _);refine zR rfl rfl (by decide) (by decide) (by first | (simp [-qt,-qd,-ql,rgs,ht,hs,ew,hi,hw2,vW,zO,zJ hnx,iv];done) | (simp [-qt,-qd,-ql,rgs,ht,hs,ew,hi,hw2,vW,zO,zJ hnx,iv];rfl)) (by first | (simp [-qt,-qd,-ql,rgs,ht,hs,ew,hi,hw2,vW,zO,zJ hnx,iv];done) | (simp [-qt,-qd,-ql,rgs,ht,hs,ew,hi,hw2,vW,zO,zJ hnx,iv];rfl)) (by first | (simp;done) | (simp;omega)) (by first | (simp only [zY,LIM] at *; simp;omega) | (simp only [zY];simp;omega)) (by simp [iv,bv]) ?_)) <;> simp [-qt,-qd,-ql,rgs,ht,hs,ew,hi,hw2,vW,zO,zJ hnx,iv]) | ((first | (with_reducible refine zE ?_ ?_) | (with_reducible refine zA ?_ ?_)) <;> intro qb <;> (have qp:=qb;try simp only [psq] at qp) <;> simp [-qt,-qd,-ql,rgs,ht,hs,ew,hi,hw2,vW,zO,zJ hnx,iv,qb])
 ·have hi2:inR n 0 ((t.length:Int) - 1) = false:=by simpa using hi
  have hc:zC5 s n = false:=by simp [zC5,e1,hi2]
  have hb:begR s n = s:=by simp [begR,hc]
  rw [hc,hb]
  refine PC.o okC Tryz.func113 rfl (.tup _ (by simp only [List.mem_cons,List.not_mem_nil,or_false];rintro c (rfl | rfl);exact .agg _ (sprV_fz s);exact .bool _)) fun h nx hnx => ?_
  try simp [-qt,-qd,-ql,rgs,ht,hs,ew,hi2,vW,zJ hnx]
  repeat' first | done | ((first | ((with_reducible show zV _ _ _ _ _ _);refine zB rfl fun _ => ?_) | ((with_reducible show zF _ _ _ 96 _ _);refine zD (zM6 (F:=F) (t:=t) (s:=s)) ?_) | ((with_reducible show zF _ _ _ 184 _ _);refine zD (zA5) ?_) | ((with_reducible show zF _ _ _ 106 _ _);refine yA (f_l7Copy (F:=F) h3 h4) ?_) | ((with_reducible show vS _ _ _ _ _ _ _ _);refine zR rfl rfl (by decide) (by decide) (by first | (simp [-qt,-qd,-ql,rgs,ht,hs,ew,hi2,vW,zJ hnx];done) | (simp [-qt,-qd,-ql,rgs,ht,hs,ew,hi2,vW,zJ hnx];rfl)) (by first | (simp [-qt,-qd,-ql,rgs,ht,hs,ew,hi2,vW,zJ hnx];done) | (simp [-qt,-qd,-ql,rgs,ht,hs,ew,hi2,vW,zJ hnx];rfl)) (by first | (simp;done) | (simp;omega)) (by first | (simp only [zY,LIM] at *; simp;omega) | (simp only [zY];simp;omega)) (by simp [iv,bv]) ?_)) <;> simp [-qt,-qd,-ql,rgs,ht,hs,ew,hi2,vW,zJ hnx]) | ((first | (with_reducible refine zE ?_ ?_) | (with_reducible refine zA ?_ ?_)) <;> intro qb <;> (have qp:=qb;try simp only [psq] at qp) <;> simp [-qt,-qd,-ql,rgs,ht,hs,ew,hi2,vW,zJ hnx,qb])
theorem s_LetGo {p q:Bool} {t:List Nod} {l:List Evt} {e:Evt}:PC ctx.P 164 [.view p 5 (t.map yE),.view q 4 (l.map yJ),.agg (yJ e)]
 (.tup [.view true 4 ((if yC t l = true then (if yC t (l ++ [e]) = true then l ++ [e] else l) else []).map yJ),.bool (yC t l && yC t (l ++ [e]))]):=by
 by_cases h1:yC t l = true
 ·have hl:l.length ≤ 1048576:=by have:=events_len h1;omega
  by_cases h2:yC t (l ++ [e]) = true
  ·simp only [if_pos h1,if_pos h2,h1,h2,Bool.and_self]
   refine PC.o okC Tryz.func164 rfl (.tup _ (by simp only [List.mem_cons,List.not_mem_nil,or_false];rintro c (rfl | rfl);exact .vmap zI8;exact .bool _)) fun h nx hnx => ?_
   try simp [-qt,-qd,-ql,rgs,h1,yJ,zO,zJ hnx]
   repeat' first | done | ((first | ((with_reducible show zF _ _ _ 182 _ _);refine zD (zG8 (t:=t) (l:=l)) ?_) | ((with_reducible show zF _ _ _ 105 _ _);refine yA (f_l6Copy hl) ?_) | ((with_reducible show vS _ _ _ _ _ _ _ _);refine zR rfl rfl (by decide) (by decide) (by first | (simp [-qt,-qd,-ql,rgs,h1,yJ,zO,zJ hnx];done) | (simp [-qt,-qd,-ql,rgs,h1,yJ,zO,zJ hnx];rfl)) (by first | (simp [-qt,-qd,-ql,rgs,h1,yJ,zO,zJ hnx];done) | (simp [-qt,-qd,-ql,rgs,h1,yJ,zO,zJ hnx];rfl)) (by first | (simp;done) | (simp;omega)) (by first | (simp only [zY,LIM] at *; simp;omega) | (simp only [zY];simp;omega)) (by simp [iv,bv]) ?_) | (with_reducible refine zG (i:=3) [(0,[],[]),(2,[],[]),(1,[.tmp 5],[3]),(3,[],[]),(4,[],[]),(5,[],[])] (by kernel_rfl) ?_)) <;> simp [-qt,-qd,-ql,rgs,h1,yJ,zO,zJ hnx]) | ((first | (with_reducible refine zA ?_ ?_)) <;> intro qb <;> (have qp:=qb;try simp only [psq] at qp) <;> simp [-qt,-qd,-ql,rgs,h1,yJ,zO,zJ hnx,qb])
   refine yL (zG8 (p:=p) (q:=false) (t:=t) (l:=l ++ [e])) (.bool _) ?hb ?_
   case hb=>exact .cons (.same _) (.cons (.ref0 (by simp [yJ]) (by simp) (by simp)) .nil)
   try simp [-qt,-qd,-ql,rgs,h2,yJ,zO]
   repeat' first | done | ((first | ((with_reducible show vS _ _ _ _ _ _ _ _);refine zR rfl rfl (by decide) (by decide) (by first | (simp [-qt,-qd,-ql,rgs,h2,yJ,zO];done) | (simp [-qt,-qd,-ql,rgs,h2,yJ,zO];rfl)) (by first | (simp [-qt,-qd,-ql,rgs,h2,yJ,zO];done) | (simp [-qt,-qd,-ql,rgs,h2,yJ,zO];rfl)) (by first | (simp;done) | (simp;omega)) (by first | (simp only [zY,LIM] at *; simp;omega) | (simp only [zY];simp;omega)) (by simp [iv,bv]) ?_) | (with_reducible refine zG (i:=3) [(0,[],[]),(2,[],[]),(1,[.tmp 5],[3]),(3,[],[]),(4,[],[]),(5,[],[])] (by kernel_rfl) ?_)) <;> simp [-qt,-qd,-ql,rgs,h2,yJ,zO]) | ((first | (with_reducible refine zA ?_ ?_)) <;> intro qb <;> (have qp:=qb;try simp only [psq] at qp) <;> simp [-qt,-qd,-ql,rgs,h2,yJ,zO,qb])
  ·have h3:yC t (l ++ [e]) = false:=by simpa using h2
   simp only [if_pos h1,if_neg h2,h1,h3,Bool.and_false]
   refine PC.o okC Tryz.func164 rfl (.tup _ (by simp only [List.mem_cons,List.not_mem_nil,or_false];rintro c (rfl | rfl);exact .vmap zI8;exact .bool _)) fun h nx hnx => ?_
   try simp [-qt,-qd,-ql,rgs,h1,yJ,zO,zJ hnx]
   repeat' first | done | ((first | ((with_reducible show zF _ _ _ 182 _ _);refine zD (zG8 (t:=t) (l:=l)) ?_) | ((with_reducible show zF _ _ _ 105 _ _);refine yA (f_l6Copy hl) ?_) | ((with_reducible show vS _ _ _ _ _ _ _ _);refine zR rfl rfl (by decide) (by decide) (by first | (simp [-qt,-qd,-ql,rgs,h1,yJ,zO,zJ hnx];done) | (simp [-qt,-qd,-ql,rgs,h1,yJ,zO,zJ hnx];rfl)) (by first | (simp [-qt,-qd,-ql,rgs,h1,yJ,zO,zJ hnx];done) | (simp [-qt,-qd,-ql,rgs,h1,yJ,zO,zJ hnx];rfl)) (by first | (simp;done) | (simp;omega)) (by first | (simp only [zY,LIM] at *; simp;omega) | (simp only [zY];simp;omega)) (by simp [iv,bv]) ?_) | (with_reducible refine zG (i:=3) [(0,[],[]),(2,[],[]),(1,[.tmp 5],[3]),(3,[],[]),(4,[],[]),(5,[],[])] (by kernel_rfl) ?_)) <;> simp [-qt,-qd,-ql,rgs,h1,yJ,zO,zJ hnx]) | ((first | (with_reducible refine zA ?_ ?_)) <;> intro qb <;> (have qp:=qb;try simp only [psq] at qp) <;> simp [-qt,-qd,-ql,rgs,h1,yJ,zO,zJ hnx,qb])
   refine yL (zG8 (p:=p) (q:=false) (t:=t) (l:=l ++ [e])) (.bool _) ?hb ?_
   case hb=>exact .cons (.same _) (.cons (.ref0 (by simp [yJ]) (by simp) (by simp)) .nil)
   try simp [-qt,-qd,-ql,rgs,h3,yJ,zO,zJ hnx]
   repeat' first | done | ((first | ((with_reducible show zF _ _ _ 105 _ _);refine yA (f_l6Copy hl) ?_) | ((with_reducible show vS _ _ _ _ _ _ _ _);refine zR rfl rfl (by decide) (by decide) (by first | (simp [-qt,-qd,-ql,rgs,h3,yJ,zO,zJ hnx];done) | (simp [-qt,-qd,-ql,rgs,h3,yJ,zO,zJ hnx];rfl)) (by first | (simp [-qt,-qd,-ql,rgs,h3,yJ,zO,zJ hnx];done) | (simp [-qt,-qd,-ql,rgs,h3,yJ,zO,zJ hnx];rfl)) (by first | (simp;done) | (simp;omega)) (by first | (simp only [zY,LIM] at *; simp;omega) | (simp only [zY];simp;omega)) (by simp [iv,bv]) ?_) | (with_reducible refine zG (i:=3) [(0,[],[]),(2,[],[]),(1,[.tmp 5],[3]),(3,[],[]),(4,[],[]),(5,[],[])] (by kernel_rfl) ?_)) <;> simp [-qt,-qd,-ql,rgs,h3,yJ,zO,zJ hnx]) | ((first | (with_reducible refine zA ?_ ?_)) <;> intro qb <;> (have qp:=qb;try simp only [psq] at qp) <;> simp [-qt,-qd,-ql,rgs,h3,yJ,zO,zJ hnx,qb])
 ·have h3:yC t l = false:=by simpa using h1
  simp only [if_neg h1,h3,Bool.false_and]
  refine PC.o okC Tryz.func164 rfl (.tup _ (by simp only [List.mem_cons,List.not_mem_nil,or_false];rintro c (rfl | rfl);exact .vmap zI8;exact .bool _)) fun h nx hnx => ?_
  try simp [-qt,-qd,-ql,rgs,h3,yJ,zO,zJ hnx]
  repeat' first | done | ((first | ((with_reducible show zF _ _ _ 182 _ _);refine zD (zG8 (t:=t) (l:=l)) ?_) | ((with_reducible show vS _ _ _ _ _ _ _ _);refine zR rfl rfl (by decide) (by decide) (by first | (simp [-qt,-qd,-ql,rgs,h3,yJ,zO,zJ hnx];done) | (simp [-qt,-qd,-ql,rgs,h3,yJ,zO,zJ hnx];rfl)) (by first | (simp [-qt,-qd,-ql,rgs,h3,yJ,zO,zJ hnx];done) | (simp [-qt,-qd,-ql,rgs,h3,yJ,zO,zJ hnx];rfl)) (by first | (simp;done) | (simp;omega)) (by first | (simp only [zY,LIM] at *; simp;omega) | (simp only [zY];simp;omega)) (by simp [iv,bv]) ?_) | (with_reducible refine zG (i:=3) [(0,[],[]),(2,[],[]),(1,[.tmp 5],[3]),(3,[],[]),(4,[],[]),(5,[],[])] (by kernel_rfl) ?_)) <;> simp [-qt,-qd,-ql,rgs,h3,yJ,zO,zJ hnx]) | ((first | (with_reducible refine zA ?_ ?_)) <;> intro qb <;> (have qp:=qb;try simp only [psq] at qp) <;> simp [-qt,-qd,-ql,rgs,h3,yJ,zO,zJ hnx,qb])
theorem s_Armed {F:Nat → Bool} {t:Tms} {d what whom:Int} (ht:uD t = true):PC ctx.P 115 [.agg (vG F t),.int .i64 d,.int .i64 what,.int .i64 whom] (.tup [.agg (vG (fun _=>true) (armT t d what whom)),.int .i64 (armI t what whom)]):=by
 obtain ⟨h1,h2,⟨h3,h4,h5⟩,h6,h7,h8⟩:=zK2.1 ht
 have l1:t.heap.length ≤ 1048576:=by omega
 have l2:t.list.length ≤ 1048576:=by omega
 have ew:IntKind.i64.wrap (t.next + 1) = t.next + 1:=zH (by omega)
 have hlb:(((t.list.length:Int) == 64) = decide (t.list.length = 64)):=by by_cases h:t.list.length = 64 <;> simp [h];omega
 have hlp:(((t.list.length:Int) = 64) = (t.list.length = 64)):=by simp only [eq_iff_iff];omega
 by_cases hl:t.list.length = 64
 ·have hc:zD3 t what whom = false:=by simp [zD3,hl]
  have e1:armT t d what whom = t:=by simp [armT,hc]
  have e2:armI t what whom = -1:=by simp [armI,hc]
  rw [e1,e2]
  refine PC.o okC Tryz.func115 rfl (.tup _ (by simp only [List.mem_cons,List.not_mem_nil,or_false];rintro c (rfl | rfl);exact .agg _ (tmsV_fz t);exact .int _ _)) fun h nx hnx => ?_
  try simp [-qt,-qd,-ql,rgs,ht,hl,hlb,hlp,zB5 hl,vG,yU,zO,zJ hnx]
  repeat' first | done | ((first | ((with_reducible show zV _ _ _ _ _ _);refine zB rfl fun _ => ?_) | ((with_reducible show zF _ _ _ 160 _ _);refine zD (zJ2 (F:=F) (t:=t)) ?_) | ((with_reducible show zF _ _ _ 107 _ _);refine yA (zQ6 (F:=F) l1 l2) ?_) | ((with_reducible show vS _ _ _ _ _ _ _ _);refine zR rfl rfl (by decide) (by decide) (by first | (simp [-qt,-qd,-ql,rgs,ht,hl,hlb,hlp,zB5 hl,vG,yU,zO,zJ hnx];done) | (simp [-qt,-qd,-ql,rgs,ht,hl,hlb,hlp,zB5 hl,vG,yU,zO,zJ hnx];rfl)) (by first | (simp [-qt,-qd,-ql,rgs,ht,hl,hlb,hlp,zB5 hl,vG,yU,zO,zJ hnx];done) | (simp [-qt,-qd,-ql,rgs,ht,hl,hlb,hlp,zB5 hl,vG,yU,zO,zJ hnx];rfl)) (by first | (simp;done) | (simp;omega)) (by first | (simp only [zY,LIM] at *; simp;omega) | (simp only [zY];simp;omega)) (by simp [iv,bv]) ?_) | (with_reducible refine zG (i:=10) [(0,[],[]),(1,[],[]),(2,[],[]),(3,[.tmp 63],[]),(4,[],[])] (by kernel_rfl) ?_)) <;> simp [-qt,-qd,-ql,rgs,ht,hl,hlb,hlp,zB5 hl,vG,yU,zO,zJ hnx]) | ((first | (with_reducible refine zE ?_ ?_) | (with_reducible refine zA ?_ ?_)) <;> intro qb <;> (have qp:=qb;try simp only [psq] at qp) <;> simp [-qt,-qd,-ql,rgs,ht,hl,hlb,hlp,zB5 hl,vG,yU,zO,zJ hnx,qb])
 ·by_cases hn2:t.next = 1000000
  ·have hn:(t.next == 1000000) = true:=by simp [hn2]
   have hnp:(t.next = 1000000) = True:=by simp [hn2]
   have hc:zD3 t what whom = false:=by simp [zD3,hn2]
   have e1:armT t d what whom = t:=by simp [armT,hc]
   have e2:armI t what whom = -1:=by simp [armI,hc]
   rw [e1,e2]
   refine PC.o okC Tryz.func115 rfl (.tup _ (by simp only [List.mem_cons,List.not_mem_nil,or_false];rintro c (rfl | rfl);exact .agg _ (tmsV_fz t);exact .int _ _)) fun h nx hnx => ?_
   try simp [-qt,-qd,-ql,rgs,ht,hl,hlb,hlp,hn,hnp,vG,yU,zO,zJ hnx]
   repeat' first | done | ((first | ((with_reducible show zV _ _ _ _ _ _);refine zB rfl fun _ => ?_) | ((with_reducible show zF _ _ _ 160 _ _);refine zD (zJ2 (F:=F) (t:=t)) ?_) | ((with_reducible show zF _ _ _ 107 _ _);refine yA (zQ6 (F:=F) l1 l2) ?_) | ((with_reducible show vS _ _ _ _ _ _ _ _);refine zR rfl rfl (by decide) (by decide) (by first | (simp [-qt,-qd,-ql,rgs,ht,hl,hlb,hlp,hn,hnp,vG,yU,zO,zJ hnx];done) | (simp [-qt,-qd,-ql,rgs,ht,hl,hlb,hlp,hn,hnp,vG,yU,zO,zJ hnx];rfl)) (by first | (simp [-qt,-qd,-ql,rgs,ht,hl,hlb,hlp,hn,hnp,vG,yU,zO,zJ hnx];done) | (simp [-qt,-qd,-ql,rgs,ht,hl,hlb,hlp,hn,hnp,vG,yU,zO,zJ hnx];rfl)) (by first | (simp;done) | (simp;omega)) (by first | (simp only [zY,LIM] at *; simp;omega) | (simp only [zY];simp;omega)) (by simp [iv,bv]) ?_) | (with_reducible refine zG (i:=10) [(0,[],[]),(1,[],[]),(2,[],[]),(3,[.tmp 63],[]),(4,[],[])] (by kernel_rfl) ?_)) <;> simp [-qt,-qd,-ql,rgs,ht,hl,hlb,hlp,hn,hnp,vG,yU,zO,zJ hnx]) | ((first | (with_reducible refine zE ?_ ?_) | (with_reducible refine zA ?_ ?_)) <;> intro qb <;> (have qp:=qb;try simp only [psq] at qp) <;> simp [-qt,-qd,-ql,rgs,ht,hl,hlb,hlp,hn,hnp,vG,yU,zO,zJ hnx,qb])
  ·have hn:(t.next == 1000000) = false:=by simpa using hn2
   have hnp:(t.next = 1000000) = False:=by simp [hn2]
   have hx:tmr1 ⟨t.next,d,what,whom,true⟩ (t.next + 1) = (inR what 0 2 && inR whom 0 99):=by
    have:inR t.next 0 (t.next + 1 - 1) = true:=by rw [uX];omega
    simp only [tmr1,this,Bool.true_and]
   have hx2:=s_l4Timer (x:=⟨t.next,d,what,whom,true⟩) (n:=t.next + 1) (by omega)
   rw [hx] at hx2
   obtain ⟨r1,r2⟩:=arm_room ht hl
   by_cases hr:(inR what 0 2 && inR whom 0 99) = true
   ·have hc:zD3 t what whom = true:=by simp only [zD3,hr,Bool.and_true,Bool.and_eq_true,decide_eq_true_eq,bne_iff_ne,ne_eq];exact ⟨hl,hn2⟩
    have e1:armT t d what whom = armS t d what whom:=by simp [armT,hc]
    have e2:armI t what whom = t.next:=by simp [armI,hc]
    have hp:=s_Put (p:=F 6) (a:=t.heap) (d:=d) (s:=t.next) (zG9.2 ⟨h3,h4,h5⟩) r1 r2
    rw [e1,e2]
    rw [hr] at hx2
    refine PC.o okC Tryz.func115 rfl (.tup _ (by simp only [List.mem_cons,List.not_mem_nil,or_false];rintro c (rfl | rfl);exact .agg _ (tmsV_fz _);exact .int _ _)) fun h nx hnx => ?_
    try simp [-qt,-qd,-ql,rgs,ht,hl,hlb,hlp,hn,hnp,ew,vG,yU,zO,zJ hnx,armS]
    repeat' first | done | ((first | ((with_reducible show zV _ _ _ _ _ _);refine zB rfl fun _ => ?_) | ((with_reducible show zF _ _ _ 160 _ _);refine zD (zJ2 (F:=F) (t:=t)) ?_) | ((with_reducible show zF _ _ _ 107 _ _);refine yA (zQ6 (F:=F) l1 l2) ?_) | (refine zD (hx2) ?_) | (refine zD (hp) ?_) | ((with_reducible show vS _ _ _ _ _ _ _ _);refine zR rfl rfl (by decide) (by decide) (by first | (simp [-qt,-qd,-ql,rgs,ht,hl,hlb,hlp,hn,hnp,ew,vG,yU,zO,zJ hnx,armS];done) | (simp [-qt,-qd,-ql,rgs,ht,hl,hlb,hlp,hn,hnp,ew,vG,yU,zO,zJ hnx,armS];rfl)) (by first | (simp [-qt,-qd,-ql,rgs,ht,hl,hlb,hlp,hn,hnp,ew,vG,yU,zO,zJ hnx,armS];done) | (simp [-qt,-qd,-ql,rgs,ht,hl,hlb,hlp,hn,hnp,ew,vG,yU,zO,zJ hnx,armS];rfl)) (by first | (simp;done) | (simp;omega)) (by first | (simp only [zY,LIM] at *; simp;omega) | (simp only [zY];simp;omega)) (by simp [iv,bv]) ?_) | (with_reducible refine zG (i:=10) [(0,[],[]),(1,[],[]),(2,[],[]),(3,[.tmp 63],[]),(4,[],[])] (by kernel_rfl) ?_)) <;> simp [-qt,-qd,-ql,rgs,ht,hl,hlb,hlp,hn,hnp,ew,vG,yU,zO,zJ hnx,armS]) | ((first | (with_reducible refine zE ?_ ?_) | (with_reducible refine zA ?_ ?_)) <;> intro qb <;> (have qp:=qb;try simp only [psq] at qp) <;> simp [-qt,-qd,-ql,rgs,ht,hl,hlb,hlp,hn,hnp,ew,vG,yU,zO,zJ hnx,armS,qb])
   ·have hr2:(inR what 0 2 && inR whom 0 99) = false:=by simpa using hr
    have hc:zD3 t what whom = false:=by simp only [zD3,hr2,Bool.and_false]
    have e1:armT t d what whom = t:=by simp [armT,hc]
    have e2:armI t what whom = -1:=by simp [armI,hc]
    rw [e1,e2]
    rw [hr2] at hx2
    refine PC.o okC Tryz.func115 rfl (.tup _ (by simp only [List.mem_cons,List.not_mem_nil,or_false];rintro c (rfl | rfl);exact .agg _ (tmsV_fz t);exact .int _ _)) fun h nx hnx => ?_
    try simp [-qt,-qd,-ql,rgs,ht,hl,hlb,hlp,hn,hnp,ew,vG,yU,zO,zJ hnx]
    repeat' first | done | ((first | ((with_reducible show zV _ _ _ _ _ _);refine zB rfl fun _ => ?_) | ((with_reducible show zF _ _ _ 160 _ _);refine zD (zJ2 (F:=F) (t:=t)) ?_) | ((with_reducible show zF _ _ _ 107 _ _);refine yA (zQ6 (F:=F) l1 l2) ?_) | (refine zD (hx2) ?_) | ((with_reducible show vS _ _ _ _ _ _ _ _);refine zR rfl rfl (by decide) (by decide) (by first | (simp [-qt,-qd,-ql,rgs,ht,hl,hlb,hlp,hn,hnp,ew,vG,yU,zO,zJ hnx];done) | (simp [-qt,-qd,-ql,rgs,ht,hl,hlb,hlp,hn,hnp,ew,vG,yU,zO,zJ hnx];rfl)) (by first | (simp [-qt,-qd,-ql,rgs,ht,hl,hlb,hlp,hn,hnp,ew,vG,yU,zO,zJ hnx];done) | (simp [-qt,-qd,-ql,rgs,ht,hl,hlb,hlp,hn,hnp,ew,vG,yU,zO,zJ hnx];rfl)) (by first | (simp;done) | (simp;omega)) (by first | (simp only [zY,LIM] at *; simp;omega) | (simp only [zY];simp;omega)) (by simp [iv,bv]) ?_) | (with_reducible refine zG (i:=10) [(0,[],[]),(1,[],[]),(2,[],[]),(3,[.tmp 63],[]),(4,[],[])] (by kernel_rfl) ?_)) <;> simp [-qt,-qd,-ql,rgs,ht,hl,hlb,hlp,hn,hnp,ew,vG,yU,zO,zJ hnx]) | ((first | (with_reducible refine zE ?_ ?_) | (with_reducible refine zA ?_ ?_)) <;> intro qb <;> (have qp:=qb;try simp only [psq] at qp) <;> simp [-qt,-qd,-ql,rgs,ht,hl,hlb,hlp,hn,hnp,ew,vG,yU,zO,zJ hnx,qb])
theorem s_l14LetGo {w:Wld} {n er ca:Int} (ht:vV w.tree = true) (hs:yW w.spread w.tree = true):PC ctx.P 81 [.agg (wldV (fun _=>true) w),.int .i64 n,.int .i64 er,.int .i64 ca]
 (.tup [.agg (wldV (fun _=>true) (zQ0 w ⟨n,er,ca,w.now⟩)),.bool (zD9 w ⟨n,er,ca,w.now⟩)]):=by
 by_cases h1:(yC w.tree w.events && yC w.tree (w.events ++ [⟨n,er,ca,w.now⟩])) = true
 ·by_cases h2:zC5 w.spread n = true
  ·have hc:zD9 w ⟨n,er,ca,w.now⟩ = true:=by simp only [zD9,h1,zE2,h2,Bool.and_self]
   have e1:zQ0 w ⟨n,er,ca,w.now⟩ = cutS w ⟨n,er,ca,w.now⟩:=by simp [zQ0,hc]
   have e2:begR w.spread n = ⟨w.spread.told,w.spread.work ++ [n]⟩:=by simp [begR,h2]
   have hb:=s_Begun (F:=fun i=>true) (p:=true) (t:=w.tree) (s:=w.spread) (n:=n) ht hs
   have hg:=s_LetGo (p:=true) (q:=true) (t:=w.tree) (l:=w.events) (e:=⟨n,er,ca,w.now⟩)
   simp only [Bool.and_eq_true] at h1
   rw [e2,h2] at hb
   simp only [if_pos h1.1,if_pos h1.2,h1.1,h1.2,Bool.and_self] at hg
   rw [hc,e1]
   refine PC.o okC Tryz.func81 rfl (.tup _ (by simp only [List.mem_cons,List.not_mem_nil,or_false];rintro c (rfl | rfl);exact wldV_fz _;exact .bool _)) fun h nx hnx => ?_
   try simp [-qt,-qd,-ql,rgs,wldV,vW,yJ,cutS,mkW]
   repeat' first | done | ((first | (refine zD (hb) ?_) | (refine zD (hg) ?_)) <;> simp [-qt,-qd,-ql,rgs,wldV,vW,yJ,cutS,mkW]) | ((first | (with_reducible refine zE ?_ ?_) | (with_reducible refine zA ?_ ?_)) <;> intro qb <;> (have qp:=qb;try simp only [psq] at qp) <;> simp [-qt,-qd,-ql,rgs,wldV,vW,yJ,cutS,mkW,qb])
  ·have h3:zC5 w.spread n = false:=by simpa using h2
   have hc:zD9 w ⟨n,er,ca,w.now⟩ = false:=by simp only [zD9,zE2,h3,Bool.and_false]
   have e1:zQ0 w ⟨n,er,ca,w.now⟩ = w:=by simp [zQ0,hc]
   have e2:begR w.spread n = w.spread:=by simp [begR,h3]
   have hb:=s_Begun (F:=fun i=>true) (p:=true) (t:=w.tree) (s:=w.spread) (n:=n) ht hs
   have hg:=s_LetGo (p:=true) (q:=true) (t:=w.tree) (l:=w.events) (e:=⟨n,er,ca,w.now⟩)
   simp only [Bool.and_eq_true] at h1
   rw [e2,h3] at hb
   simp only [if_pos h1.1,if_pos h1.2,h1.1,h1.2,Bool.and_self] at hg
   rw [hc,e1]
   refine PC.o okC Tryz.func81 rfl (.tup _ (by simp only [List.mem_cons,List.not_mem_nil,or_false];rintro c (rfl | rfl);exact wldV_fz _;exact .bool _)) fun h nx hnx => ?_
   try simp [-qt,-qd,-ql,rgs,wldV,vW,yJ]
   repeat' first | done | ((first | (refine zD (hb) ?_) | (refine zD (hg) ?_)) <;> simp [-qt,-qd,-ql,rgs,wldV,vW,yJ]) | ((first | (with_reducible refine zE ?_ ?_) | (with_reducible refine zA ?_ ?_)) <;> intro qb <;> (have qp:=qb;try simp only [psq] at qp) <;> simp [-qt,-qd,-ql,rgs,wldV,vW,yJ,qb])
 ·have h3:(yC w.tree w.events && yC w.tree (w.events ++ [⟨n,er,ca,w.now⟩])) = false:=by simpa using h1
  have hc:zD9 w ⟨n,er,ca,w.now⟩ = false:=by simp only [zD9,h3,Bool.false_and]
  have e1:zQ0 w ⟨n,er,ca,w.now⟩ = w:=by simp [zQ0,hc]
  have hb:=s_Begun (F:=fun i=>true) (p:=true) (t:=w.tree) (s:=w.spread) (n:=n) ht hs
  have hg:=s_LetGo (p:=true) (q:=true) (t:=w.tree) (l:=w.events) (e:=⟨n,er,ca,w.now⟩)
  rw [h3] at hg
  rw [hc,e1]
  refine PC.o okC Tryz.func81 rfl (.tup _ (by simp only [List.mem_cons,List.not_mem_nil,or_false];rintro c (rfl | rfl);exact wldV_fz _;exact .bool _)) fun h nx hnx => ?_
  try simp [-qt,-qd,-ql,rgs,wldV,vW,yJ]
  repeat' first | done | ((first | (refine zD (hb) ?_) | (refine zD (hg) ?_)) <;> simp [-qt,-qd,-ql,rgs,wldV,vW,yJ]) | ((first | (with_reducible refine zE ?_ ?_) | (with_reducible refine zA ?_ ?_)) <;> intro qb <;> (have qp:=qb;try simp only [psq] at qp) <;> simp [-qt,-qd,-ql,rgs,wldV,vW,yJ,qb])
theorem s_l14Either {F:Nat → Bool} {w u:Wld} (hs:zD4 w ≤ 1048576):PC ctx.P 33 [.agg (wldV F w),.agg (wldV (fun _=>true) u)] (.tup [.agg (wldV (fun _=>true) (if vQ u = true then u else w)),.bool (vQ u)]):=by
 by_cases hw:vQ u = true
 ·rw [if_pos hw,hw]
  refine PC.o okC Tryz.func33 rfl (.tup _ (by simp only [List.mem_cons,List.not_mem_nil,or_false];rintro c (rfl | rfl);exact wldV_fz _;exact .bool _)) fun h nx hnx => ?_
  try simp [-qt,-qd,-ql,rgs,hw,wldV]
  repeat' first | done | ((first | ((with_reducible show zF _ _ _ 30 _ _);refine zD (zG3 (w:=u) (F:=fun _=>true)) ?_)) <;> simp [-qt,-qd,-ql,rgs,hw,wldV]) | ((first | (with_reducible refine zA ?_ ?_)) <;> intro qb <;> (have qp:=qb;try simp only [psq] at qp) <;> simp [-qt,-qd,-ql,rgs,hw,wldV,qb])
 ·have h2:vQ u = false:=by simpa using hw
  rw [if_neg hw,h2]
  refine PC.o okC Tryz.func33 rfl (.tup _ (by simp only [List.mem_cons,List.not_mem_nil,or_false];rintro c (rfl | rfl);exact wldV_fz _;exact .bool _)) fun h nx hnx => ?_
  try simp [-qt,-qd,-ql,rgs,h2,wldV]
  repeat' first | done | ((first | ((with_reducible show zF _ _ _ 30 _ _);refine zD (zG3 (w:=u) (F:=fun _=>true)) ?_) | ((with_reducible show zF _ _ _ 31 _ _);refine zD (zK0 (w:=w) (F:=F) hs) ?_)) <;> simp [-qt,-qd,-ql,rgs,h2,wldV]) | ((first | (with_reducible refine zA ?_ ?_)) <;> intro qb <;> (have qp:=qb;try simp only [psq] at qp) <;> simp [-qt,-qd,-ql,rgs,h2,wldV,qb])
theorem s_l14Node {w:Wld} {x:Nod} {id:Nat} (hw:vQ w = true):AC ctx.P 32 [.agg (zF6 w id),.agg (yE x)] (fun h _=>h id = some (.row 1 (w.spread.told.map bv)))
 (fun h nx r h' nx'=>r = .tup [.agg (wldV (fun _=>true) (zO7 w x)),.int .i64 (nodeI w x)] ∧ ∀ j,j < nx → j ≠ id → h' j = h j):=by
 refine AC.frz ?_
 have he:=wldOk_ev hw
 have ht:=zC0 he
 have hs:yW w.spread w.tree = true:=(zL5 hw).2.2.2.2.1
 have htm:uD w.timers = true:=(zL5 hw).2.2.2.2.2.2.1
 have hlt:=zE3 ht
 have hwk:w.spread.work.length ≤ 240:=by simp only [yW,Bool.and_eq_true,decide_eq_true_eq] at hs;exact hs.2.1
 have htl:w.spread.told.length ≤ 60:=by simp only [yW,Bool.and_eq_true,beq_iff_eq] at hs;omega
 have hg:=s_Grown (p:=true) (t:=w.tree) (x:=x) ht
 refine AC.o okC Tryz.func32 rfl fun h nx hfr hnx hpre => ?_
 have hid:id < nx:=hnx id (by rw [hpre];simp)
 have k0:(id = nx) = False:=by simp only [eq_iff_iff,iff_false];omega
 have k1:∀ k,(id = nx + k) = False:=fun k=>by simp only [eq_iff_iff,iff_false];omega
 have k2:(nx = id) = False:=by simp only [eq_iff_iff,iff_false];omega
 have k3:∀ k,(nx + k = id) = False:=fun k=>by simp only [eq_iff_iff,iff_false];omega
 by_cases hc:zF7 w.tree x = true
 ·have ht2:vV (w.tree ++ [x]) = true:=by rw [zO9,ht];exact hc
  have hs2:=spr_add (x:=x) hs
  simp only [if_pos hc] at hg
  have hn0:((w.tree.length:Int) < 0) = False:=by simp only [eq_iff_iff,iff_false];omega
  have hlen2:(w.tree ++ [x]).length = w.tree.length + 1:=by simp
  have hfst:=s_l6First (p:=true) (q:=true) (t:=w.tree ++ [x]) (l:=w.events) (n:=w.tree.length) ht2 (by omega) (by omega)
  have hfi:=firstOf_idx (t:=w.tree ++ [x]) (l:=w.events) (n:=w.tree.length)
  have hnB:∀ c,zQ1 (vH w x) x w.tree.length = c → nodeB w x = c:=fun c h=>by simp [nodeB,hc,h]
  have hnW:zO7 w x = zO6 (vH w x) x w.tree.length:=by simp [zO7,hc]
  simp only [List.map_append,List.map_cons,List.map_nil] at hfst
  generalize yS (fun e=>(zH8 (w.tree ++ [x]) w.tree.length).contains e.node) w.events 0 = z at *
  by_cases hz:0 ≤ z
  ·have hz2:(z < 0) = False:=by simp only [eq_iff_iff,iff_false];omega
   have hsome:(uL (vH w x).tree (vH w x).events w.tree.length).isSome = true:=by
    show (uL (w.tree ++ [x]) w.events w.tree.length).isSome = true
    rw [hfi];simp [hz2]
   have hB:zQ1 (vH w x) x w.tree.length = zE2 (vH w x) w.tree.length:=by unfold zQ1;rw [if_pos hsome]
   have hW:zO6 (vH w x) x w.tree.length = begW (vH w x) w.tree.length:=by unfold zO6;rw [if_pos hsome]
   have hbg:=s_Begun (F:=fun i=>i != 4) (p:=true) (t:=w.tree ++ [x]) (s:=(vH w x).spread) (n:=w.tree.length) ht2 hs2
   rw [hnW,hW]
   unfold nodeI
   rw [hnB _ hB]
   simp only [List.map_append,List.map_cons,List.map_nil] at hbg
   try simp [-qt,-qd,-ql,rgs,zF6,wldV,hn0,hpre,bv,k0,k1,k2,k3,zJ hnx,hz]
   repeat' first | done | ((first | (refine zD (hg) ?_) | (refine zD (hfst) ?_) | ((with_reducible show vS _ _ _ _ _ _ _ _);refine zR rfl rfl (by decide) (by decide) (by first | (simp [-qt,-qd,-ql,rgs,zF6,wldV,hn0,hpre,bv,k0,k1,k2,k3,zJ hnx,hz];done) | (simp [-qt,-qd,-ql,rgs,zF6,wldV,hn0,hpre,bv,k0,k1,k2,k3,zJ hnx,hz];rfl)) (by first | (simp [-qt,-qd,-ql,rgs,zF6,wldV,hn0,hpre,bv,k0,k1,k2,k3,zJ hnx,hz];done) | (simp [-qt,-qd,-ql,rgs,zF6,wldV,hn0,hpre,bv,k0,k1,k2,k3,zJ hnx,hz];rfl)) (by first | (simp;done) | (simp;omega)) (by first | (simp only [zY,LIM] at *; simp;omega) | (simp only [zY];simp;omega)) (by simp [iv,bv]) ?_)) <;> simp [-qt,-qd,-ql,rgs,zF6,wldV,hn0,hpre,bv,k0,k1,k2,k3,zJ hnx,hz]) | ((first | (with_reducible refine zE ?_ ?_) | (with_reducible refine zA ?_ ?_)) <;> intro qb <;> (have qp:=qb;try simp only [psq] at qp) <;> simp [-qt,-qd,-ql,rgs,zF6,wldV,hn0,hpre,bv,k0,k1,k2,k3,zJ hnx,hz,qb])
   refine yL hbg (tup2_cl (spr_cl _) (.bool _)) ?hb ?_
   case hb=>exact .cons (.same _) (.cons (.agg1 (.cons (.ref0 (by simp [vH,mkW,bv]) (by simp [vH,mkW]) (by simp [vH,mkW])) (.cons (.same _) .nil))) (.cons (.same _) .nil))
   by_cases hcb:zC5 (vH w x).spread w.tree.length = true
   ·have e3:begR (vH w x).spread w.tree.length = ⟨w.spread.told ++ [false],w.spread.work ++ [(w.tree.length:Int)]⟩:=by unfold begR;rw [if_pos hcb];rfl
    have e4:zE2 (vH w x) w.tree.length = true:=hcb
    have e5:begW (vH w x) w.tree.length = begS (vH w x) w.tree.length:=by simp [begW,e4]
    rw [e3,hcb,e4,e5,if_pos rfl]
    try simp [-qt,-qd,-ql,rgs,vW,k0,k1,k2,k3,zJ hnx]
    repeat' first | done | ((first | ((with_reducible show vS _ _ _ _ _ _ _ _);refine zR rfl rfl (by decide) (by decide) (by first | (simp [-qt,-qd,-ql,rgs,vW,k0,k1,k2,k3,zJ hnx];done) | (simp [-qt,-qd,-ql,rgs,vW,k0,k1,k2,k3,zJ hnx];rfl)) (by first | (simp [-qt,-qd,-ql,rgs,vW,k0,k1,k2,k3,zJ hnx];done) | (simp [-qt,-qd,-ql,rgs,vW,k0,k1,k2,k3,zJ hnx];rfl)) (by first | (simp;done) | (simp;omega)) (by first | (simp only [zY,LIM] at *; simp;omega) | (simp only [zY];simp;omega)) (by simp [iv,bv]) ?_)) <;> simp [-qt,-qd,-ql,rgs,vW,k0,k1,k2,k3,zJ hnx]) | ((first | (with_reducible refine zE ?_ ?_) | (with_reducible refine zA ?_ ?_)) <;> intro qb <;> (have qp:=qb;try simp only [psq] at qp) <;> simp [-qt,-qd,-ql,rgs,vW,k0,k1,k2,k3,zJ hnx,qb])
    refine ⟨_,_,⟨rfl,rfl⟩,by simp [yE,iv,bv,zO,begS,vH,mkW],fun j hj hji => ?_⟩
    have fj:∀ k,(j = nx + k) = False:=fun k=>by simp only [eq_iff_iff,iff_false];omega
    have fj0:(j = nx) = False:=by simp only [eq_iff_iff,iff_false];omega
    simp [fj,fj0,hji]
   ·have hcb2:zC5 (vH w x).spread w.tree.length = false:=by simpa using hcb
    have e3:begR (vH w x).spread w.tree.length = (vH w x).spread:=by simp [begR,hcb2]
    have e4:zE2 (vH w x) w.tree.length = false:=hcb2
    have e5:begW (vH w x) w.tree.length = vH w x:=by simp [begW,e4]
    rw [e3,hcb2,e4,e5,if_neg (by decide)]
    try simp [-qt,-qd,-ql,rgs,vW,k0,k1,k2,k3,zJ hnx]
    repeat' first | done | ((first | ((with_reducible show vS _ _ _ _ _ _ _ _);refine zR rfl rfl (by decide) (by decide) (by first | (simp [-qt,-qd,-ql,rgs,vW,k0,k1,k2,k3,zJ hnx];done) | (simp [-qt,-qd,-ql,rgs,vW,k0,k1,k2,k3,zJ hnx];rfl)) (by first | (simp [-qt,-qd,-ql,rgs,vW,k0,k1,k2,k3,zJ hnx];done) | (simp [-qt,-qd,-ql,rgs,vW,k0,k1,k2,k3,zJ hnx];rfl)) (by first | (simp;done) | (simp;omega)) (by first | (simp only [zY,LIM] at *; simp;omega) | (simp only [zY];simp;omega)) (by simp [iv,bv]) ?_)) <;> simp [-qt,-qd,-ql,rgs,vW,k0,k1,k2,k3,zJ hnx]) | ((first | (with_reducible refine zE ?_ ?_) | (with_reducible refine zA ?_ ?_)) <;> intro qb <;> (have qp:=qb;try simp only [psq] at qp) <;> simp [-qt,-qd,-ql,rgs,vW,k0,k1,k2,k3,zJ hnx,qb])
    refine ⟨_,_,⟨rfl,rfl⟩,by simp [yE,iv,bv,zO,vH,mkW],fun j hj hji => ?_⟩
    have fj:∀ k,(j = nx + k) = False:=fun k=>by simp only [eq_iff_iff,iff_false];omega
    have fj0:(j = nx) = False:=by simp only [eq_iff_iff,iff_false];omega
    simp [fj,fj0,hji]
  ·have hz2:z < 0:=by omega
   have hsome:¬ (uL (vH w x).tree (vH w x).events w.tree.length).isSome = true:=by
    show ¬ (uL (w.tree ++ [x]) w.events w.tree.length).isSome = true
    rw [hfi];simp [hz2]
   have hzf:(0 ≤ z) = False:=by simp only [eq_iff_iff,iff_false];exact hz
   by_cases hk:x.kind = 2
   ·have hkb:(x.kind == 2) = true:=by simpa using hk
    by_cases hd:x.due = uJ
    ·have hB:zQ1 (vH w x) x w.tree.length = true:=by unfold zQ1;rw [if_neg hsome,if_pos (.inr hd)]
     have hW:zO6 (vH w x) x w.tree.length = vH w x:=by unfold zO6;rw [if_neg hsome,if_pos (.inr hd)]
     have hdu:zG5 w.now x.due = false:=by simp [zG5,hd]
     have hdb:(x.due != 9223372036854775807) = false:=by simpa [uJ] using hd
     rw [hnW,hW]
     unfold nodeI
     rw [hnB _ hB,if_pos rfl]
     try simp [-qt,-qd,-ql,rgs,zF6,wldV,hn0,hpre,bv,k0,k1,k2,k3,zJ hnx,hzf,hkb,hdu,hdb,yE]
     repeat' first | done | ((first | (refine zD (hg) ?_) | (refine zD (hfst) ?_) | ((with_reducible show zF _ _ _ 114 _ _);refine zD (s_IsDue) ?_) | ((with_reducible show vS _ _ _ _ _ _ _ _);refine zR rfl rfl (by decide) (by decide) (by first | (simp [-qt,-qd,-ql,rgs,zF6,wldV,hn0,hpre,bv,k0,k1,k2,k3,zJ hnx,hzf,hkb,hdu,hdb,yE];done) | (simp [-qt,-qd,-ql,rgs,zF6,wldV,hn0,hpre,bv,k0,k1,k2,k3,zJ hnx,hzf,hkb,hdu,hdb,yE];rfl)) (by first | (simp [-qt,-qd,-ql,rgs,zF6,wldV,hn0,hpre,bv,k0,k1,k2,k3,zJ hnx,hzf,hkb,hdu,hdb,yE];done) | (simp [-qt,-qd,-ql,rgs,zF6,wldV,hn0,hpre,bv,k0,k1,k2,k3,zJ hnx,hzf,hkb,hdu,hdb,yE];rfl)) (by first | (simp;done) | (simp;omega)) (by first | (simp only [zY,LIM] at *; simp;omega) | (simp only [zY];simp;omega)) (by simp [iv,bv]) ?_)) <;> simp [-qt,-qd,-ql,rgs,zF6,wldV,hn0,hpre,bv,k0,k1,k2,k3,zJ hnx,hzf,hkb,hdu,hdb,yE]) | ((first | (with_reducible refine zE ?_ ?_) | (with_reducible refine zA ?_ ?_)) <;> intro qb <;> (have qp:=qb;try simp only [psq] at qp) <;> simp [-qt,-qd,-ql,rgs,zF6,wldV,hn0,hpre,bv,k0,k1,k2,k3,zJ hnx,hzf,hkb,hdu,hdb,yE,qb])
     refine ⟨_,_,⟨rfl,rfl⟩,by simp [yE,iv,bv,zO,vH,mkW],fun j hj hji => ?_⟩
     have fj:∀ k,(j = nx + k) = False:=fun k=>by simp only [eq_iff_iff,iff_false];omega
     have fj0:(j = nx) = False:=by simp only [eq_iff_iff,iff_false];omega
     simp [fj,fj0,hji]
    ·have hdb:(x.due != 9223372036854775807) = true:=by simpa [uJ] using hd
     by_cases hdu:zG5 w.now x.due = true
     ·have hB:zQ1 (vH w x) x w.tree.length = zD9 (vH w x) (dueEv (vH w x) w.tree.length):=by unfold zQ1;rw [if_neg hsome,if_neg (fun q=>q.elim (fun q=>q hk) hd),if_pos (show zG5 (vH w x).now x.due = true from hdu)]
      have hW:zO6 (vH w x) x w.tree.length = zQ0 (vH w x) (dueEv (vH w x) w.tree.length):=by unfold zO6;rw [if_neg hsome,if_neg (fun q=>q.elim (fun q=>q hk) hd),if_pos (show zG5 (vH w x).now x.due = true from hdu)]
      have hcut:=s_l14LetGo (w:=vH w x) (n:=w.tree.length) (er:=2) (ca:=0) ht2 hs2
      rw [hnW,hW]
      unfold nodeI
      rw [hnB _ hB]
      try simp [-qt,-qd,-ql,rgs,zF6,wldV,hn0,hpre,bv,k0,k1,k2,k3,zJ hnx,hzf,hkb,hdu,yE]
      repeat' first | done | ((first | (refine zD (hg) ?_) | (refine zD (hfst) ?_) | ((with_reducible show zF _ _ _ 114 _ _);refine zD (s_IsDue) ?_) | ((with_reducible show vS _ _ _ _ _ _ _ _);refine zR rfl rfl (by decide) (by decide) (by first | (simp [-qt,-qd,-ql,rgs,zF6,wldV,hn0,hpre,bv,k0,k1,k2,k3,zJ hnx,hzf,hkb,hdu,yE];done) | (simp [-qt,-qd,-ql,rgs,zF6,wldV,hn0,hpre,bv,k0,k1,k2,k3,zJ hnx,hzf,hkb,hdu,yE];rfl)) (by first | (simp [-qt,-qd,-ql,rgs,zF6,wldV,hn0,hpre,bv,k0,k1,k2,k3,zJ hnx,hzf,hkb,hdu,yE];done) | (simp [-qt,-qd,-ql,rgs,zF6,wldV,hn0,hpre,bv,k0,k1,k2,k3,zJ hnx,hzf,hkb,hdu,yE];rfl)) (by first | (simp;done) | (simp;omega)) (by first | (simp only [zY,LIM] at *; simp;omega) | (simp only [zY];simp;omega)) (by simp [iv,bv]) ?_)) <;> simp [-qt,-qd,-ql,rgs,zF6,wldV,hn0,hpre,bv,k0,k1,k2,k3,zJ hnx,hzf,hkb,hdu,yE]) | ((first | (with_reducible refine zE ?_ ?_) | (with_reducible refine zA ?_ ?_)) <;> intro qb <;> (have qp:=qb;try simp only [psq] at qp) <;> simp [-qt,-qd,-ql,rgs,zF6,wldV,hn0,hpre,bv,k0,k1,k2,k3,zJ hnx,hzf,hkb,hdu,yE,qb])
      refine call_frzW (w:=vH w x) (id:=nx + 22) (by simp [zF6,wldV,vH,mkW,yE]) (by simp [vH,mkW,bv]) ?_
      refine zD hcut ?_
      rw [show (⟨(w.tree.length:Int),2,0,(vH w x).now⟩:Evt) = dueEv (vH w x) w.tree.length from rfl]
      generalize zQ0 (vH w x) (dueEv (vH w x) w.tree.length) = W at *
      generalize zD9 (vH w x) (dueEv (vH w x) w.tree.length) = cb at *
      cases cb with
      | true =>
        try simp [-qt,-qd,-ql,rgs,wldV,k0,k1,k2,k3,zJ hnx]
        repeat' first | done | ((first | ((with_reducible show vS _ _ _ _ _ _ _ _);refine zR rfl rfl (by decide) (by decide) (by first | (simp [-qt,-qd,-ql,rgs,wldV,k0,k1,k2,k3,zJ hnx];done) | (simp [-qt,-qd,-ql,rgs,wldV,k0,k1,k2,k3,zJ hnx];rfl)) (by first | (simp [-qt,-qd,-ql,rgs,wldV,k0,k1,k2,k3,zJ hnx];done) | (simp [-qt,-qd,-ql,rgs,wldV,k0,k1,k2,k3,zJ hnx];rfl)) (by first | (simp;done) | (simp;omega)) (by first | (simp only [zY,LIM] at *; simp;omega) | (simp only [zY];simp;omega)) (by simp [iv,bv]) ?_)) <;> simp [-qt,-qd,-ql,rgs,wldV,k0,k1,k2,k3,zJ hnx]) | ((first | (with_reducible refine zE ?_ ?_) | (with_reducible refine zA ?_ ?_)) <;> intro qb <;> (have qp:=qb;try simp only [psq] at qp) <;> simp [-qt,-qd,-ql,rgs,wldV,k0,k1,k2,k3,zJ hnx,qb])
        refine ⟨_,_,⟨rfl,rfl⟩,by simp [yE,iv,bv,zO,wldV],fun j hj hji => ?_⟩
        have fj:∀ k,(j = nx + k) = False:=fun k=>by simp only [eq_iff_iff,iff_false];omega
        have fj0:(j = nx) = False:=by simp only [eq_iff_iff,iff_false];omega
        simp [fj,fj0,hji]
      | false =>
        try simp [-qt,-qd,-ql,rgs,wldV,k0,k1,k2,k3,zJ hnx]
        repeat' first | done | ((first | ((with_reducible show vS _ _ _ _ _ _ _ _);refine zR rfl rfl (by decide) (by decide) (by first | (simp [-qt,-qd,-ql,rgs,wldV,k0,k1,k2,k3,zJ hnx];done) | (simp [-qt,-qd,-ql,rgs,wldV,k0,k1,k2,k3,zJ hnx];rfl)) (by first | (simp [-qt,-qd,-ql,rgs,wldV,k0,k1,k2,k3,zJ hnx];done) | (simp [-qt,-qd,-ql,rgs,wldV,k0,k1,k2,k3,zJ hnx];rfl)) (by first | (simp;done) | (simp;omega)) (by first | (simp only [zY,LIM] at *; simp;omega) | (simp only [zY];simp;omega)) (by simp [iv,bv]) ?_)) <;> simp [-qt,-qd,-ql,rgs,wldV,k0,k1,k2,k3,zJ hnx]) | ((first | (with_reducible refine zE ?_ ?_) | (with_reducible refine zA ?_ ?_)) <;> intro qb <;> (have qp:=qb;try simp only [psq] at qp) <;> simp [-qt,-qd,-ql,rgs,wldV,k0,k1,k2,k3,zJ hnx,qb])
        refine ⟨_,_,⟨rfl,rfl⟩,by simp [yE,iv,bv,zO,wldV],fun j hj hji => ?_⟩
        have fj:∀ k,(j = nx + k) = False:=fun k=>by simp only [eq_iff_iff,iff_false];omega
        have fj0:(j = nx) = False:=by simp only [eq_iff_iff,iff_false];omega
        simp [fj,fj0,hji]
     ·have hdf:zG5 w.now x.due = false:=by simpa using hdu
      have hB:zQ1 (vH w x) x w.tree.length = zD3 w.timers 0 w.tree.length:=by unfold zQ1;rw [if_neg hsome,if_neg (fun q=>q.elim (fun q=>q hk) hd),if_neg (show ¬ zG5 (vH w x).now x.due = true from hdu)];rfl
      have hW:zO6 (vH w x) x w.tree.length = setT (vH w x) (armT w.timers x.due 0 w.tree.length):=by unfold zO6;rw [if_neg hsome,if_neg (fun q=>q.elim (fun q=>q hk) hd),if_neg (show ¬ zG5 (vH w x).now x.due = true from hdu)];rfl
      have harm:=s_Armed (F:=fun _=>true) (t:=w.timers) (d:=x.due) (what:=0) (whom:=w.tree.length) htm
      rw [hnW,hW]
      unfold nodeI
      rw [hnB _ hB]
      have hnn:0 ≤ w.timers.next:=(zK2.1 htm).1.1
      generalize armT w.timers x.due 0 w.tree.length = T at *
      by_cases hca:zD3 w.timers 0 w.tree.length = true
      ·have e2:armI w.timers 0 w.tree.length = w.timers.next:=by simp [armI,hca]
       have hnp:(0 ≤ w.timers.next) = True:=by simp [hnn]
       rw [e2] at harm
       rw [hca,if_pos rfl]
       try simp [-qt,-qd,-ql,rgs,zF6,wldV,hn0,hpre,bv,k0,k1,k2,k3,zJ hnx,hzf,hkb,hdf,hdb,yE,vG,hnp]
       repeat' first | done | ((first | (refine zD (hg) ?_) | (refine zD (hfst) ?_) | ((with_reducible show zF _ _ _ 114 _ _);refine zD (s_IsDue) ?_) | (refine zD (harm) ?_) | ((with_reducible show vS _ _ _ _ _ _ _ _);refine zR rfl rfl (by decide) (by decide) (by first | (simp [-qt,-qd,-ql,rgs,zF6,wldV,hn0,hpre,bv,k0,k1,k2,k3,zJ hnx,hzf,hkb,hdf,hdb,yE,vG,hnp];done) | (simp [-qt,-qd,-ql,rgs,zF6,wldV,hn0,hpre,bv,k0,k1,k2,k3,zJ hnx,hzf,hkb,hdf,hdb,yE,vG,hnp];rfl)) (by first | (simp [-qt,-qd,-ql,rgs,zF6,wldV,hn0,hpre,bv,k0,k1,k2,k3,zJ hnx,hzf,hkb,hdf,hdb,yE,vG,hnp];done) | (simp [-qt,-qd,-ql,rgs,zF6,wldV,hn0,hpre,bv,k0,k1,k2,k3,zJ hnx,hzf,hkb,hdf,hdb,yE,vG,hnp];rfl)) (by first | (simp;done) | (simp;omega)) (by first | (simp only [zY,LIM] at *; simp;omega) | (simp only [zY];simp;omega)) (by simp [iv,bv]) ?_)) <;> simp [-qt,-qd,-ql,rgs,zF6,wldV,hn0,hpre,bv,k0,k1,k2,k3,zJ hnx,hzf,hkb,hdf,hdb,yE,vG,hnp]) | ((first | (with_reducible refine zE ?_ ?_) | (with_reducible refine zA ?_ ?_)) <;> intro qb <;> (have qp:=qb;try simp only [psq] at qp) <;> simp [-qt,-qd,-ql,rgs,zF6,wldV,hn0,hpre,bv,k0,k1,k2,k3,zJ hnx,hzf,hkb,hdf,hdb,yE,vG,hnp,qb])
       refine ⟨_,_,⟨rfl,rfl⟩,by simp [yE,iv,bv,zO,setT,vH,mkW],fun j hj hji => ?_⟩
       have fj:∀ k,(j = nx + k) = False:=fun k=>by simp only [eq_iff_iff,iff_false];omega
       have fj0:(j = nx) = False:=by simp only [eq_iff_iff,iff_false];omega
       simp [fj,fj0,hji]
      ·have hca2:zD3 w.timers 0 w.tree.length = false:=by simpa using hca
       have e2:armI w.timers 0 w.tree.length = -1:=by simp [armI,hca]
       rw [e2] at harm
       rw [hca2,if_neg (by decide)]
       try simp [-qt,-qd,-ql,rgs,zF6,wldV,hn0,hpre,bv,k0,k1,k2,k3,zJ hnx,hzf,hkb,hdf,hdb,yE,vG]
       repeat' first | done | ((first | (refine zD (hg) ?_) | (refine zD (hfst) ?_) | ((with_reducible show zF _ _ _ 114 _ _);refine zD (s_IsDue) ?_) | (refine zD (harm) ?_) | ((with_reducible show vS _ _ _ _ _ _ _ _);refine zR rfl rfl (by decide) (by decide) (by first | (simp [-qt,-qd,-ql,rgs,zF6,wldV,hn0,hpre,bv,k0,k1,k2,k3,zJ hnx,hzf,hkb,hdf,hdb,yE,vG];done) | (simp [-qt,-qd,-ql,rgs,zF6,wldV,hn0,hpre,bv,k0,k1,k2,k3,zJ hnx,hzf,hkb,hdf,hdb,yE,vG];rfl)) (by first | (simp [-qt,-qd,-ql,rgs,zF6,wldV,hn0,hpre,bv,k0,k1,k2,k3,zJ hnx,hzf,hkb,hdf,hdb,yE,vG];done) | (simp [-qt,-qd,-ql,rgs,zF6,wldV,hn0,hpre,bv,k0,k1,k2,k3,zJ hnx,hzf,hkb,hdf,hdb,yE,vG];rfl)) (by first | (simp;done) | (simp;omega)) (by first | (simp only [zY,LIM] at *; simp;omega) | (simp only [zY];simp;omega)) (by simp [iv,bv]) ?_)) <;> simp [-qt,-qd,-ql,rgs,zF6,wldV,hn0,hpre,bv,k0,k1,k2,k3,zJ hnx,hzf,hkb,hdf,hdb,yE,vG]) | ((first | (with_reducible refine zE ?_ ?_) | (with_reducible refine zA ?_ ?_)) <;> intro qb <;> (have qp:=qb;try simp only [psq] at qp) <;> simp [-qt,-qd,-ql,rgs,zF6,wldV,hn0,hpre,bv,k0,k1,k2,k3,zJ hnx,hzf,hkb,hdf,hdb,yE,vG,qb])
       refine ⟨_,_,⟨rfl,rfl⟩,by simp [yE,iv,bv,zO,setT,vH,mkW],fun j hj hji => ?_⟩
       have fj:∀ k,(j = nx + k) = False:=fun k=>by simp only [eq_iff_iff,iff_false];omega
       have fj0:(j = nx) = False:=by simp only [eq_iff_iff,iff_false];omega
       simp [fj,fj0,hji]
   ·have hkb:(x.kind == 2) = false:=by simpa using hk
    have hB:zQ1 (vH w x) x w.tree.length = true:=by unfold zQ1;rw [if_neg hsome,if_pos (.inl hk)]
    have hW:zO6 (vH w x) x w.tree.length = vH w x:=by unfold zO6;rw [if_neg hsome,if_pos (.inl hk)]
    rw [hnW,hW]
    unfold nodeI
    rw [hnB _ hB,if_pos rfl]
    try simp [-qt,-qd,-ql,rgs,zF6,wldV,hn0,hpre,bv,k0,k1,k2,k3,zJ hnx,hzf,hkb,yE]
    repeat' first | done | ((first | (refine zD (hg) ?_) | (refine zD (hfst) ?_) | ((with_reducible show vS _ _ _ _ _ _ _ _);refine zR rfl rfl (by decide) (by decide) (by first | (simp [-qt,-qd,-ql,rgs,zF6,wldV,hn0,hpre,bv,k0,k1,k2,k3,zJ hnx,hzf,hkb,yE];done) | (simp [-qt,-qd,-ql,rgs,zF6,wldV,hn0,hpre,bv,k0,k1,k2,k3,zJ hnx,hzf,hkb,yE];rfl)) (by first | (simp [-qt,-qd,-ql,rgs,zF6,wldV,hn0,hpre,bv,k0,k1,k2,k3,zJ hnx,hzf,hkb,yE];done) | (simp [-qt,-qd,-ql,rgs,zF6,wldV,hn0,hpre,bv,k0,k1,k2,k3,zJ hnx,hzf,hkb,yE];rfl)) (by first | (simp;done) | (simp;omega)) (by first | (simp only [zY,LIM] at *; simp;omega) | (simp only [zY];simp;omega)) (by simp [iv,bv]) ?_)) <;> simp [-qt,-qd,-ql,rgs,zF6,wldV,hn0,hpre,bv,k0,k1,k2,k3,zJ hnx,hzf,hkb,yE]) | ((first | (with_reducible refine zE ?_ ?_) | (with_reducible refine zA ?_ ?_)) <;> intro qb <;> (have qp:=qb;try simp only [psq] at qp) <;> simp [-qt,-qd,-ql,rgs,zF6,wldV,hn0,hpre,bv,k0,k1,k2,k3,zJ hnx,hzf,hkb,yE,qb])
    refine ⟨_,_,⟨rfl,rfl⟩,by simp [yE,iv,bv,zO,vH,mkW],fun j hj hji => ?_⟩
    have fj:∀ k,(j = nx + k) = False:=fun k=>by simp only [eq_iff_iff,iff_false];omega
    have fj0:(j = nx) = False:=by simp only [eq_iff_iff,iff_false];omega
    simp [fj,fj0,hji]
 ·have hn:nodeB w x = false:=by simp [nodeB,hc]
  have e1:zO7 w x = w:=by simp [zO7,hc]
  have e2:nodeI w x = -1:=by simp [nodeI,hn]
  simp only [if_neg hc] at hg
  rw [e1,e2]
  try simp [-qt,-qd,-ql,rgs,zF6,wldV,hpre,k0,k1,k2,k3]
  repeat' first | done | ((first | (refine zD (hg) ?_) | ((with_reducible show vS _ _ _ _ _ _ _ _);refine zR rfl rfl (by decide) (by decide) (by first | (simp [-qt,-qd,-ql,rgs,zF6,wldV,hpre,k0,k1,k2,k3];done) | (simp [-qt,-qd,-ql,rgs,zF6,wldV,hpre,k0,k1,k2,k3];rfl)) (by first | (simp [-qt,-qd,-ql,rgs,zF6,wldV,hpre,k0,k1,k2,k3];done) | (simp [-qt,-qd,-ql,rgs,zF6,wldV,hpre,k0,k1,k2,k3];rfl)) (by first | (simp;done) | (simp;omega)) (by first | (simp only [zY,LIM] at *; simp;omega) | (simp only [zY];simp;omega)) (by simp [iv,bv]) ?_)) <;> simp [-qt,-qd,-ql,rgs,zF6,wldV,hpre,k0,k1,k2,k3]) | ((first | (with_reducible refine zE ?_ ?_) | (with_reducible refine zA ?_ ?_)) <;> intro qb <;> (have qp:=qb;try simp only [psq] at qp) <;> simp [-qt,-qd,-ql,rgs,zF6,wldV,hpre,k0,k1,k2,k3,qb])
  refine ⟨_,_,⟨rfl,rfl⟩,rfl,fun j hj hji => ?_⟩
  rw [zK _ _ _ _ hji]
  repeat rw [zK _ _ _ _ (by omega)]
theorem s_NodeIn {F:Nat → Bool} {w:Wld} {kind up a b:Int} (hs:zD4 w ≤ 1048576):PC ctx.P 8 [.agg (wldV F w),.int .i64 kind,.int .i64 up,.int .i64 a,.int .i64 b] (.tup [.agg (wldV (fun _=>true) (zC8 w kind up a b)),.int .i64 (zF8 w kind up a b)]):=by
 by_cases hw:vQ w = true
 ·obtain ⟨x,hx⟩:∃ x,x = vA kind up a b:=⟨_,rfl⟩
  by_cases hfit:zC7 kind a b = true
  ·have key:(kind == 2) = true ∧ (kind != 0) = true ∧ (b == 0) = true ∧ (b == 0) = true ∧ (b == 0) = true ∧ x = ⟨kind,up,a,0,0⟩ ∨ (kind == 2) = false ∧ (kind != 0) = true ∧ (kind == 3) = true ∧ (kind == 3) = true ∧ (kind == 3) = true ∧ x = ⟨kind,up,uJ,a,b⟩ ∨ (kind == 2) = false ∧ (kind != 0) = true ∧ (kind == 3) = false ∧ (a == 0) = true ∧ (b == 0) = true ∧ x = ⟨kind,up,uJ,0,0⟩:=by
    rw [hx]
    by_cases h2:kind = 2
    ·subst h2;simp [zC7] at hfit;simp [vA,hfit]
    ·by_cases h3:kind = 3
     ·subst h3;simp [vA]
     ·simp [zC7,h2,h3] at hfit;simp [vA,h2,h3,hfit]
   have g1:zC8 w kind up a b = if (nodeB w x && vQ (zO7 w x)) = true then zO7 w x else w:=by simp only [zC8,if_pos hw,hfit,← hx,Bool.true_and,Bool.and_eq_true]
   have g2:zF8 w kind up a b = if (nodeB w x && vQ (zO7 w x)) = true then (w.tree.length:Int) else -1:=by simp only [zF8,hw,hfit,← hx,Bool.true_and]
   rw [g1,g2]
   refine PC.o okC Tryz.func8 rfl (.tup _ (by simp only [List.mem_cons,List.not_mem_nil,or_false];rintro c (rfl | rfl);exact wldV_fz _;exact .int _ _)) fun h nx hnx => ?_
   have hI:nodeI w x = if nodeB w x = true then (w.tree.length:Int) else -1:=rfl
   have hL:=fun id=>s_l14Node (w:=w) (x:=x) (id:=id) hw
   simp only [hI] at hL
   clear g1 g2 hfit hI hx
   generalize zO7 w x = W at *
   generalize nodeB w x = cb at *
   rcases key with ⟨c1,c2,c3,c4,c5,hxe⟩ | ⟨c1,c2,c3,c4,c5,hxe⟩ | ⟨c1,c2,c3,c4,c5,hxe⟩
   all_goals
    subst hxe
    try simp [-qt,-qd,-ql,rgs,hw,c1,c2,c3,c4,c5,wldV,zJ hnx]
    repeat' first | done | ((first | ((with_reducible show zF _ _ _ 30 _ _);refine zD (zG3 (w:=w) (F:=F)) ?_) | (with_reducible refine zG (i:=15) [(0,[],[7]),(2,[],[7]),(1,[.tmp 12],[7]),(3,[],[7]),(4,[],[]),(5,[],[]),(6,[],[]),(7,[],[]),(8,[],[]),(9,[],[])] (by kernel_rfl) ?_)) <;> simp [-qt,-qd,-ql,rgs,hw,c1,c2,c3,c4,c5,wldV,zJ hnx]) | ((first | (with_reducible refine zE ?_ ?_) | (with_reducible refine zA ?_ ?_)) <;> intro qb <;> (have qp:=qb;try simp only [psq] at qp) <;> simp [-qt,-qd,-ql,rgs,hw,c1,c2,c3,c4,c5,wldV,zJ hnx,qb])
    refine call_wc (w_l13Copy (F:=F) hs) ?_
    intro X h1 n1 V1 hid1 hle1 hf1
    dsimp only at hid1 hle1 hf1
    have nX:∀ j,j < nx + 35 → j ∉ X.ids:=fun j hj hm=>by have:=hid1 j hm;omega
    have z0:h1 nx = some (.obj (wldV F w)):=by rw [hf1 nx (nX _ (by omega))];simp [wldV]
    have z1:h1 (nx + 1) = some (.obj zeroC):=by rw [hf1 _ (nX _ (by omega))];simp [zeroC]
    have z9:=hf1 (nx + 9) (nX _ (by omega))
    simp at z9
    have K1:KeepB nx h1 h:=fun j hj=>by rw [hf1 j (nX j (by omega))];repeat rw [zK _ _ _ _ (by omega)]
    try simp [-qt,-qd,-ql,rgs,z9,wR_ones X w,wR_len,wR_take,yE]
    repeat' first | done | ((first | (with_reducible refine zG (i:=15) [(0,[],[7]),(2,[],[7]),(1,[.tmp 12],[7]),(3,[],[7]),(4,[],[]),(5,[],[]),(6,[],[]),(7,[],[]),(8,[],[]),(9,[],[])] (by kernel_rfl) ?_)) <;> simp [-qt,-qd,-ql,rgs,z9,wR_ones X w,wR_len,wR_take,yE]) | ((first | (with_reducible refine zE ?_ ?_) | (with_reducible refine zA ?_ ?_)) <;> intro qb <;> (have qp:=qb;try simp only [psq] at qp) <;> simp [-qt,-qd,-ql,rgs,z9,wR_ones X w,wR_len,wR_take,yE,qb])
    refine ⟨by rw [hf1 _ (fun hm=>by have:=hid1 _ hm;omega)];simp [zJ hnx],?_⟩
    clear hf1
    refine call_frzD (args':=[.agg (zF6 w (X.top 3)),_]) (fun j=>if j ∈ X.ids ∧ j ≠ X.top 3 then h1 j else none) (fun j=>if j ∈ X.ids ∧ j ≠ X.top 3 then none else h1 j) (fun id e he => ?_) (fun id e he => ?_) (fun id => ?_) (.cons (.aggs (V1.frosT fun j hj hne=>if_pos ⟨hj,hne⟩)) (.cons (.same _) .nil)) ?_
    ·split at he
     ·exact he
     ·cases he
    ·split at he
     ·cases he
     ·exact he
    ·by_cases hc:id ∈ X.ids ∧ id ≠ X.top 3
     ·exact .inr (if_pos hc)
     ·exact .inl (if_neg hc)
    refine yX (hL (X.top 3)) ?_ ?_
    ·exact (if_neg (fun c=>c.2 rfl)).trans (V1.top 3 (by omega))
    rintro r h2 n2 ⟨rfl,K2⟩ hle2 hfr2
    dsimp only at K2 hle2
    have J:∀ j,j < nx + 35 → h2 j = h1 j:=fun j hj=>by rw [K2 j (by omega) (fun e=>nX j hj (e ▸ WI.top_mem (by omega)))];exact if_neg (fun c=>nX j hj c.1)
    have y0:=(J nx (by omega)).trans z0
    have y1:=(J (nx + 1) (by omega)).trans z1
    have KK:∀ j,j < nx → h2 j = h j:=fun j hj=>(J j (by omega)).trans (K1 j hj)
    have i0:∀ k,(nx = n1 + k) = False:=fun k=>by simp only [eq_iff_iff,iff_false];omega
    have i1:∀ k,(nx + 1 = n1 + k) = False:=fun k=>by simp only [eq_iff_iff,iff_false];omega
    have i2:∀ k,(nx = n2 + k) = False:=fun k=>by simp only [eq_iff_iff,iff_false];omega
    have i3:∀ k,(nx + 1 = n2 + k) = False:=fun k=>by simp only [eq_iff_iff,iff_false];omega
    clear J K2 K1 z0 z1 z9 V1
    simp only [wldV] at y0
    simp only [zeroC] at y1
    cases cb with
    | true =>
      have hn0:((w.tree.length:Int) < 0) = False:=by simp only [eq_iff_iff,iff_false];omega
      simp only [Bool.true_and,if_true]
      have hE:=s_l14Either (w:=w) (u:=W) (F:=F) hs
      by_cases hW:vQ W = true
      ·simp only [hW,if_true] at hE
       simp only [hW,if_true]
       try simp [-qt,-qd,-ql,rgs,y0,y1,hn0,wldV,i0,i1,i2,i3]
       repeat' first | done | ((first | (refine zD (hE) ?_) | (with_reducible refine zG (i:=15) [(0,[],[7]),(2,[],[7]),(1,[.tmp 12],[7]),(3,[],[7]),(4,[],[]),(5,[],[]),(6,[],[]),(7,[],[]),(8,[],[]),(9,[],[])] (by kernel_rfl) ?_)) <;> simp [-qt,-qd,-ql,rgs,y0,y1,hn0,wldV,i0,i1,i2,i3]) | ((first | (with_reducible refine zE ?_ ?_) | (with_reducible refine zA ?_ ?_)) <;> intro qb <;> (have qp:=qb;try simp only [psq] at qp) <;> simp [-qt,-qd,-ql,rgs,y0,y1,hn0,wldV,i0,i1,i2,i3,qb])
       trivial
      ·have hW2:vQ W = false:=by simpa using hW
       simp only [hW2,Bool.false_eq_true,if_false] at hE
       simp only [hW2,Bool.false_eq_true,if_false]
       try simp [-qt,-qd,-ql,rgs,y0,y1,hn0,wldV,i0,i1,i2,i3]
       repeat' first | done | ((first | (refine zD (hE) ?_) | (with_reducible refine zG (i:=15) [(0,[],[7]),(2,[],[7]),(1,[.tmp 12],[7]),(3,[],[7]),(4,[],[]),(5,[],[]),(6,[],[]),(7,[],[]),(8,[],[]),(9,[],[])] (by kernel_rfl) ?_)) <;> simp [-qt,-qd,-ql,rgs,y0,y1,hn0,wldV,i0,i1,i2,i3]) | ((first | (with_reducible refine zE ?_ ?_) | (with_reducible refine zA ?_ ?_)) <;> intro qb <;> (have qp:=qb;try simp only [psq] at qp) <;> simp [-qt,-qd,-ql,rgs,y0,y1,hn0,wldV,i0,i1,i2,i3,qb])
       trivial
    | false =>
      simp only [Bool.false_and,Bool.false_eq_true,if_false]
      try simp [-qt,-qd,-ql,rgs,y0,y1,wldV,i0,i1,i2,i3]
      repeat' first | done | ((first | ((with_reducible show zF _ _ _ 31 _ _);refine zD (zK0 (w:=w) (F:=F) hs) ?_) | (with_reducible refine zG (i:=15) [(0,[],[7]),(2,[],[7]),(1,[.tmp 12],[7]),(3,[],[7]),(4,[],[]),(5,[],[]),(6,[],[]),(7,[],[]),(8,[],[]),(9,[],[])] (by kernel_rfl) ?_)) <;> simp [-qt,-qd,-ql,rgs,y0,y1,wldV,i0,i1,i2,i3]) | ((first | (with_reducible refine zE ?_ ?_) | (with_reducible refine zA ?_ ?_)) <;> intro qb <;> (have qp:=qb;try simp only [psq] at qp) <;> simp [-qt,-qd,-ql,rgs,y0,y1,wldV,i0,i1,i2,i3,qb])
      trivial
  ·have hfit2:zC7 kind a b = false:=by simpa using hfit
   have g1:zC8 w kind up a b = w:=by simp [zC8,hw,hfit2]
   have g2:zF8 w kind up a b = -1:=by simp [zF8,hfit2]
   rw [g1,g2]
   refine PC.o okC Tryz.func8 rfl (.tup _ (by simp only [List.mem_cons,List.not_mem_nil,or_false];rintro c (rfl | rfl);exact wldV_fz _;exact .int _ _)) fun h nx hnx => ?_
   clear g1 g2
   by_cases h2:kind = 2
   ·subst h2
    have c2:(b == 0) = false:=by simpa [zC7] using hfit2
    try simp [-qt,-qd,-ql,rgs,hw,c2,wldV]
    repeat' first | done | ((first | ((with_reducible show zF _ _ _ 30 _ _);refine zD (zG3 (w:=w) (F:=F)) ?_) | ((with_reducible show zF _ _ _ 31 _ _);refine zD (zK0 (w:=w) (F:=F) hs) ?_) | (with_reducible refine zG (i:=15) [(0,[],[7]),(2,[],[7]),(1,[.tmp 12],[7]),(3,[],[7]),(4,[],[]),(5,[],[]),(6,[],[]),(7,[],[]),(8,[],[]),(9,[],[])] (by kernel_rfl) ?_)) <;> simp [-qt,-qd,-ql,rgs,hw,c2,wldV]) | ((first | (with_reducible refine zE ?_ ?_) | (with_reducible refine zA ?_ ?_)) <;> intro qb <;> (have qp:=qb;try simp only [psq] at qp) <;> simp [-qt,-qd,-ql,rgs,hw,c2,wldV,qb])
   ·by_cases h3:kind = 3
    ·subst h3;simp [zC7] at hfit2
    ·have c1:(kind == 2) = false:=by simpa using h2
     have c2:(kind == 3) = false:=by simpa using h3
     by_cases c3:kind = 0
     ·subst c3
      try simp [-qt,-qd,-ql,rgs,hw,wldV]
      repeat' first | done | ((first | ((with_reducible show zF _ _ _ 30 _ _);refine zD (zG3 (w:=w) (F:=F)) ?_) | ((with_reducible show zF _ _ _ 31 _ _);refine zD (zK0 (w:=w) (F:=F) hs) ?_) | (with_reducible refine zG (i:=15) [(0,[],[7]),(2,[],[7]),(1,[.tmp 12],[7]),(3,[],[7]),(4,[],[]),(5,[],[]),(6,[],[]),(7,[],[]),(8,[],[]),(9,[],[])] (by kernel_rfl) ?_)) <;> simp [-qt,-qd,-ql,rgs,hw,wldV]) | ((first | (with_reducible refine zE ?_ ?_) | (with_reducible refine zA ?_ ?_)) <;> intro qb <;> (have qp:=qb;try simp only [psq] at qp) <;> simp [-qt,-qd,-ql,rgs,hw,wldV,qb])
     ·have c4:(kind != 0) = true:=by simpa using c3
      by_cases ca:a = 0
      ·have c5:(a == 0) = true:=by simpa using ca
       have c6:(b == 0) = false:=by simp [zC7,h2,h3,c3,ca] at hfit2;simpa using hfit2
       try simp [-qt,-qd,-ql,rgs,hw,c1,c2,c4,c5,c6,wldV]
       repeat' first | done | ((first | ((with_reducible show zF _ _ _ 30 _ _);refine zD (zG3 (w:=w) (F:=F)) ?_) | ((with_reducible show zF _ _ _ 31 _ _);refine zD (zK0 (w:=w) (F:=F) hs) ?_) | (with_reducible refine zG (i:=15) [(0,[],[7]),(2,[],[7]),(1,[.tmp 12],[7]),(3,[],[7]),(4,[],[]),(5,[],[]),(6,[],[]),(7,[],[]),(8,[],[]),(9,[],[])] (by kernel_rfl) ?_)) <;> simp [-qt,-qd,-ql,rgs,hw,c1,c2,c4,c5,c6,wldV]) | ((first | (with_reducible refine zE ?_ ?_) | (with_reducible refine zA ?_ ?_)) <;> intro qb <;> (have qp:=qb;try simp only [psq] at qp) <;> simp [-qt,-qd,-ql,rgs,hw,c1,c2,c4,c5,c6,wldV,qb])
      ·have c5:(a == 0) = false:=by simpa using ca
       try simp [-qt,-qd,-ql,rgs,hw,c1,c2,c4,c5,wldV]
       repeat' first | done | ((first | ((with_reducible show zF _ _ _ 30 _ _);refine zD (zG3 (w:=w) (F:=F)) ?_) | ((with_reducible show zF _ _ _ 31 _ _);refine zD (zK0 (w:=w) (F:=F) hs) ?_) | (with_reducible refine zG (i:=15) [(0,[],[7]),(2,[],[7]),(1,[.tmp 12],[7]),(3,[],[7]),(4,[],[]),(5,[],[]),(6,[],[]),(7,[],[]),(8,[],[]),(9,[],[])] (by kernel_rfl) ?_)) <;> simp [-qt,-qd,-ql,rgs,hw,c1,c2,c4,c5,wldV]) | ((first | (with_reducible refine zE ?_ ?_) | (with_reducible refine zA ?_ ?_)) <;> intro qb <;> (have qp:=qb;try simp only [psq] at qp) <;> simp [-qt,-qd,-ql,rgs,hw,c1,c2,c4,c5,wldV,qb])
 ·have g1:zC8 w kind up a b = default:=by simp [zC8,hw]
  have g2:zF8 w kind up a b = -1:=by simp [zF8,hw]
  rw [g1,g2]
  refine PC.nv (r:=.tup [.agg zeroC,.int .i64 (-1)]) ?_ (.tups (.cons (.aggs nvs_world) (.cons (.same _) .nil)))
  refine PC.o okC Tryz.func8 rfl (.tup _ (by simp only [List.mem_cons,List.not_mem_nil,or_false];rintro c (rfl | rfl);exact zeroC_fz;exact .int _ _)) fun h nx hnx => ?_
  try simp [-qt,-qd,-ql,rgs,hw,wldV,zeroC]
  repeat' first | done | ((first | ((with_reducible show zF _ _ _ 30 _ _);refine zD (zG3 (w:=w) (F:=F)) ?_) | (with_reducible refine zG (i:=15) [(0,[],[7]),(2,[],[7]),(1,[.tmp 12],[7]),(3,[],[7]),(4,[],[]),(5,[],[]),(6,[],[]),(7,[],[]),(8,[],[]),(9,[],[])] (by kernel_rfl) ?_)) <;> simp [-qt,-qd,-ql,rgs,hw,wldV,zeroC]) | ((first | (with_reducible refine zE ?_ ?_) | (with_reducible refine zA ?_ ?_)) <;> intro qb <;> (have qp:=qb;try simp only [psq] at qp) <;> simp [-qt,-qd,-ql,rgs,hw,wldV,zeroC,qb])
end Go.AE.Tryz
end
section
/- The law of nodes that are created: what the program and the reference make of a world is the same, in memory of its own. -/
set_option maxRecDepth 8000
set_option maxHeartbeats 4000000
namespace Go.AE.Tryz
open Go.Proofs
open List renaming map_take → qt,map_drop → qd,map_tail → ql
theorem rrI_cl (X:WI) (w:Wld) (b:Int):Cl (.tup [.agg (zD5 X w),.int .i64 b]):=by
 refine .tup _ fun c hc => ?_
 simp only [List.mem_cons,List.not_mem_nil,or_false] at hc
 rcases hc with rfl | rfl
 ·have:=rrW_cl X w true
  cases this with
  | tup _ h=>exact h _ (by simp)
 ·exact .int _ _
theorem law_NodeIn {w:Wld} {kind up a b:Int}  : PC ctx.P 3 [.agg (wldV (fun _=>true) w),.int .i64 kind,.int .i64 up,.int .i64 a,.int .i64 b] (.bool true):=by
 by_cases hs:zD4 w ≤ 1048576
 ·have e:szR (zD4 w) 1048576 = 1048576 - zD4 w:=by rcases zA0 (zD4 w) 1048576 with q | q <;> omega
  have hs2:zD4 (zC8 w kind up a b) ≤ 1048576:=grow_ask.1 ▸ ask_sz hs
  have hcB:∀ (F:Nat → Bool),WC ctx.P 10 [.agg (wldV F w),.int .i64 kind,.int .i64 up,.int .i64 a,.int .i64 b] (fun X=>.tup [.agg (zD5 X (zC8 w kind up a b)),.int .i64 (zF8 w kind up a b)]) (zC8 w kind up a b):=fun F=>w_NodeIn hs
  have hcS:=s_NodeIn (F:=fun _=>true) (kind:=kind) (up:=up) (a:=a) (b:=b) hs
  generalize zC8 w kind up a b = W at *
  generalize zF8 w kind up a b = B at *
  refine PC.o okC Tryz.func3 rfl (.bool _) fun h nx hnx => ?_
  try simp [-qt,-qd,-ql,rgs,e,vC,vX,vD]
  repeat' first | done | ((first | ((with_reducible show zF _ _ _ 7 _ _);refine zD (c_szWorld (s:=w) (F:=fun _=>true) (by omega) (by omega)) ?_) | (with_reducible refine zG (i:=10) [(0,[],[]),(1,[],[]),(2,[.tmp 14],[]),(3,[],[]),(4,[],[])] (by kernel_rfl) ?_)) <;> simp [-qt,-qd,-ql,rgs,e,vC,vX,vD]) | ((first | (with_reducible refine zE ?_ ?_) | (with_reducible refine zA ?_ ?_)) <;> intro qb <;> (have qp:=qb;try simp only [psq] at qp) <;> simp [-qt,-qd,-ql,rgs,e,vC,vX,vD,qb])
  all_goals first | omega | skip
  refine zD (s_toWorld (s:=w) (F:=fun _=>true) hs) ?_
  try simp [-qt,-qd,-ql,rgs,vC,vX,vD]
  repeat' first | done | ((first | (refine zD (hcS) ?_) | (with_reducible refine zG (i:=10) [(0,[],[]),(1,[],[]),(2,[.tmp 14],[]),(3,[],[]),(4,[],[])] (by kernel_rfl) ?_)) <;> simp [-qt,-qd,-ql,rgs,vC,vX,vD]) | ((first | (with_reducible refine zE ?_ ?_) | (with_reducible refine zA ?_ ?_)) <;> intro qb <;> (have qp:=qb;try simp only [psq] at qp) <;> simp [-qt,-qd,-ql,rgs,vC,vX,vD,qb])
  refine yX (w_toWorld (F:=fun _=>true) hs) trivial ?_
  rintro r h1 n1 ⟨hK1,X,rfl,V1,hid1⟩ hle1 hfr1
  dsimp only at hK1 hid1 hle1
  try simp [-qt,-qd,-ql,rgs,zS X w,yH,yB]
  repeat' first | done | ((first | (with_reducible refine zG (i:=10) [(0,[],[]),(1,[],[]),(2,[.tmp 14],[]),(3,[],[]),(4,[],[])] (by kernel_rfl) ?_)) <;> simp [-qt,-qd,-ql,rgs,zS X w,yH,yB]) | ((first | (with_reducible refine zE ?_ ?_) | (with_reducible refine zA ?_ ?_)) <;> intro qb <;> (have qp:=qb;try simp only [psq] at qp) <;> simp [-qt,-qd,-ql,rgs,zS X w,yH,yB,qb])
  refine call_wcB (hcB FF) (fun X=>rrI_cl X W B) ?hb ?_
  case hb=>exact .cons (.agg1 (V1.keep fun id hid=>by have:=hid1 id hid;dsimp only;repeat rw [zK _ _ _ _ (by omega)]).bors) (.cons (.same _) (.cons (.same _) (.cons (.same _) (.cons (.same _) (.nil)))))
  intro X2 h2 n2 V2 hid2 hle2 hf2
  dsimp only at hid2 hle2 hf2
  have nX2:∀ j,j < n1 + 12 ∨ n2 ≤ j → j ∉ X2.ids:=fun j hj hm=>by have:=hid2 j hm;omega
  have oS2:h2 (nx + 19) = some (.obj (wldV (fun _=>true) W)):=by
   rw [hf2 _ (nX2 _ (by omega))]
   repeat rw [zK _ _ _ _ (by omega)]
   rw [hK1 _ (by omega),zM]
  have n16:(nx + 19 = n1 + 9) = False:=by simp only [eq_iff_iff,iff_false];omega
  try simp [-qt,-qd,-ql,rgs,n16,oS2,vC,vX,vD,zS X2 W,yH,yB]
  repeat' first | done | ((first | (with_reducible refine zG (i:=10) [(0,[],[]),(1,[],[]),(2,[.tmp 14],[]),(3,[],[]),(4,[],[])] (by kernel_rfl) ?_)) <;> simp [-qt,-qd,-ql,rgs,n16,oS2,vC,vX,vD,zS X2 W,yH,yB]) | ((first | (with_reducible refine zE ?_ ?_) | (with_reducible refine zA ?_ ?_)) <;> intro qb <;> (have qp:=qb;try simp only [psq] at qp) <;> simp [-qt,-qd,-ql,rgs,n16,oS2,vC,vX,vD,zS X2 W,yH,yB,qb])
  generalize hH:upd (upd h2 (n1 + 9) _) (n1 + 9) (some (Ent.obj (zD5 X2 W))) = H3
  have hX:∀ j ∈ X.ids,nx + 26 ≤ j ∧ j < n1:=hid1
  have hX2:∀ j ∈ X2.ids,n1 + 12 ≤ j ∧ j < n2:=hid2
  have nX:∀ j,j < nx + 26 ∨ n1 ≤ j → j ∉ X.ids:=fun j hj hm=>by have:=hX j hm;omega
  have V3:WV H3 X w:=hH ▸ (V1.keep fun id hid=>by have:=hX id hid;(repeat rw [zK _ _ _ _ (by omega)]);rw [hf2 id (nX2 _ (by omega))];repeat rw [zK _ _ _ _ (by omega)])
  have G3:WV H3 X2 W:=hH ▸ (V2.keep fun id hid=>by have:=hX2 id hid;repeat rw [zK _ _ _ _ (by omega)])
  have oG3:H3 (n1 + 9) = some (.obj (zD5 X2 W)):=by rw [← hH,zM]
  have oX3:H3 (nx + 24) = some (.obj (zD5 X w)):=by
   rw [← hH]
   repeat rw [zK _ _ _ _ (by omega)]
   rw [hf2 _ (nX2 _ (by omega)),zM]
  have oS3:H3 (nx + 19) = some (.obj (wldV (fun _=>true) W)):=by
   rw [← hH]
   repeat rw [zK _ _ _ _ (by omega)]
   rw [hf2 _ (nX2 _ (by omega))]
   repeat rw [zK _ _ _ _ (by omega)]
   rw [hK1 _ (by omega),zM]
  have oA3:H3 nx = some (.obj (wldV (fun _=>true) w)):=by
   rw [← hH]
   repeat rw [zK _ _ _ _ (by omega)]
   rw [hf2 _ (nX2 _ (by omega))]
   repeat rw [zK _ _ _ _ (by omega)]
   rw [hK1 _ (by omega)]
   repeat rw [zK _ _ _ _ (by omega)]
   rw [zM]
  have K3:KeepB nx H3 h:=fun j hj=>by
   rw [← hH]
   repeat rw [zK _ _ _ _ (by omega)]
   rw [hf2 _ (nX2 _ (by omega))]
   repeat rw [zK _ _ _ _ (by omega)]
   rw [hK1 _ (by omega)]
   repeat rw [zK _ _ _ _ (by omega)]
  clear hH hf2 hK1 V1 V2 hid1 hid2
  refine yL (zP7 (x:=W) (y:=W) (F1:=FF) (F2:=fun _=>true)) (.bool _) ?hb3 ?_
  case hb3=>exact .cons (.agg1 G3.bors) (.cons (.same _) .nil)
  try simp [-qt,-qd,-ql,rgs,oG3,oS3,oX3,oA3,vC,vX,vD,zS X w,zS X2 W,yH,yB]
  repeat' first | done | ((first | ((with_reducible show zF _ _ _ 9 _ _);refine zD (s_toWorld (s:=w) (F:=fun _=>true) hs) ?_) | (with_reducible refine zG (i:=10) [(0,[],[]),(1,[],[]),(2,[.tmp 14],[]),(3,[],[]),(4,[],[])] (by kernel_rfl) ?_)) <;> simp [-qt,-qd,-ql,rgs,oG3,oS3,oX3,oA3,vC,vX,vD,zS X w,zS X2 W,yH,yB]) | ((first | (with_reducible refine zE ?_ ?_) | (with_reducible refine zA ?_ ?_)) <;> intro qb <;> (have qp:=qb;try simp only [psq] at qp) <;> simp [-qt,-qd,-ql,rgs,oG3,oS3,oX3,oA3,vC,vX,vD,zS X w,zS X2 W,yH,yB,qb])
  refine yL (zP7 (x:=w) (y:=w) (F1:=FF) (F2:=fun _=>true)) (.bool _) ?hb4 ?_
  case hb4=>exact .cons (.agg1 V3.bors) (.cons (.same _) .nil)
  try simp [-qt,-qd,-ql,rgs,oX3,vC,vX,vD,zS X w,zS X2 W,yH,yB]
  repeat' first | done | ((first | (with_reducible refine zG (i:=10) [(0,[],[]),(1,[],[]),(2,[.tmp 14],[]),(3,[],[]),(4,[],[])] (by kernel_rfl) ?_)) <;> simp [-qt,-qd,-ql,rgs,oX3,vC,vX,vD,zS X w,zS X2 W,yH,yB]) | ((first | (with_reducible refine zE ?_ ?_) | (with_reducible refine zA ?_ ?_)) <;> intro qb <;> (have qp:=qb;try simp only [psq] at qp) <;> simp [-qt,-qd,-ql,rgs,oX3,vC,vX,vD,zS X w,zS X2 W,yH,yB,qb])
  refine yX (m_markWorld (X:=X) (w:=w) (k:=1) hs (by omega) (by omega)) V3 ?_
  rintro r H4 n4 ⟨rfl,V4,f4⟩ hle4 hfr4
  dsimp only at V4 f4 hle4
  have oG4:=f4 (n1 + 9) (by omega) (nX _ (by omega))
  have oS4:=f4 (nx + 19) (by omega) (nX _ (by omega))
  have oA4:=f4 nx (by omega) (nX _ (by omega))
  rw [oG3] at oG4
  rw [oS3] at oS4
  rw [oA3] at oA4
  have G4:WV H4 X2 W:=G3.keep fun id hid=>f4 id (by have:=hX2 id hid;omega) (nX _ (by have:=hX2 id hid;omega))
  have K4:KeepB nx H4 h:=fun j hj=>by rw [f4 j (by omega) (nX _ (by omega)),K3 j hj]
  have z4:(kZ w 1 < 0) = False:=by
   simp only [eq_iff_iff,iff_false]
   simp only [kZ,kR,kB,kV,kG,kK,kF,kU,kA,kL,kH,kW,kS,kE,kT];omega
  clear hfr4
  try simp [-qt,-qd,-ql,rgs,z4,oG4,oS4,vC,vX,vD,zS X w,zS X2 W,yH,yB]
  repeat' first | done | ((first | (with_reducible refine zG (i:=10) [(0,[],[]),(1,[],[]),(2,[.tmp 14],[]),(3,[],[]),(4,[],[])] (by kernel_rfl) ?_)) <;> simp [-qt,-qd,-ql,rgs,z4,oG4,oS4,vC,vX,vD,zS X w,zS X2 W,yH,yB]) | ((first | (with_reducible refine zE ?_ ?_) | (with_reducible refine zA ?_ ?_)) <;> intro qb <;> (have qp:=qb;try simp only [psq] at qp) <;> simp [-qt,-qd,-ql,rgs,z4,oG4,oS4,vC,vX,vD,zS X w,zS X2 W,yH,yB,qb])
  refine yL (zP7 (x:=W) (y:=W) (F1:=FF) (F2:=fun _=>true)) (.bool _) ?hb5 ?_
  case hb5=>exact .cons (.agg1 G4.bors) (.cons (.same _) .nil)
  try simp [-qt,-qd,-ql,rgs,z4,oG4,oS4,vC,vX,vD,zS X w,zS X2 W,yH,yB]
  repeat' first | done | ((first | (with_reducible refine zG (i:=10) [(0,[],[]),(1,[],[]),(2,[.tmp 14],[]),(3,[],[]),(4,[],[])] (by kernel_rfl) ?_)) <;> simp [-qt,-qd,-ql,rgs,z4,oG4,oS4,vC,vX,vD,zS X w,zS X2 W,yH,yB]) | ((first | (with_reducible refine zE ?_ ?_) | (with_reducible refine zA ?_ ?_)) <;> intro qb <;> (have qp:=qb;try simp only [psq] at qp) <;> simp [-qt,-qd,-ql,rgs,z4,oG4,oS4,vC,vX,vD,zS X w,zS X2 W,yH,yB,qb])
  refine yX (m_markWorld (X:=X2) (w:=W) (k:=1) hs2 (by omega) (by omega)) G4 ?_
  rintro r H5 n5 ⟨rfl,G5,f5⟩ hle5 hfr5
  dsimp only at G5 f5 hle5
  have oG5:=f5 (n1 + 9) (by omega) (nX2 _ (by omega))
  have oS5:=f5 (nx + 19) (by omega) (nX2 _ (by omega))
  have oA5:=f5 nx (by omega) (nX2 _ (by omega))
  rw [oG4] at oG5
  rw [oS4] at oS5
  rw [oA4] at oA5
  have K5:KeepB nx H5 h:=fun j hj=>by rw [f5 j (by omega) (nX2 _ (by omega)),K4 j hj]
  have z5:(kZ W 1 < 0) = False:=by
   simp only [eq_iff_iff,iff_false]
   simp only [kZ,kR,kB,kV,kG,kK,kF,kU,kA,kL,kH,kW,kS,kE,kT];omega
  clear hfr5
  try simp [-qt,-qd,-ql,rgs,z5,oG5,vC,vX,vD,zS X w,zS X2 W,yH,yB]
  repeat' first | done | ((first | (with_reducible refine zG (i:=10) [(0,[],[]),(1,[],[]),(2,[.tmp 14],[]),(3,[],[]),(4,[],[])] (by kernel_rfl) ?_)) <;> simp [-qt,-qd,-ql,rgs,z5,oG5,vC,vX,vD,zS X w,zS X2 W,yH,yB]) | ((first | (with_reducible refine zE ?_ ?_) | (with_reducible refine zA ?_ ?_)) <;> intro qb <;> (have qp:=qb;try simp only [psq] at qp) <;> simp [-qt,-qd,-ql,rgs,z5,oG5,vC,vX,vD,zS X w,zS X2 W,yH,yB,qb])
  refine yL (h_heldWorld (F:=FF) (w:=W) (k:=1) hs2 (by omega) (by omega)) (.int _ _) ?hb6 ?_
  case hb6=>exact .cons (.agg1 (wldR_mk X2 W 1 ▸ G5.bors)) (.cons (.same _) .nil)
  try simp [-qt,-qd,-ql,rgs,z5,oA5,vC,vX,vD,zS X w,zS X2 W,yH,yB]
  repeat' first | done | ((first | ((with_reducible show zF _ _ _ 9 _ _);refine zD (s_toWorld (s:=w) (F:=fun _=>true) hs) ?_) | (with_reducible refine zG (i:=10) [(0,[],[]),(1,[],[]),(2,[.tmp 14],[]),(3,[],[]),(4,[],[])] (by kernel_rfl) ?_)) <;> simp [-qt,-qd,-ql,rgs,z5,oA5,vC,vX,vD,zS X w,zS X2 W,yH,yB]) | ((first | (with_reducible refine zE ?_ ?_) | (with_reducible refine zA ?_ ?_)) <;> intro qb <;> (have qp:=qb;try simp only [psq] at qp) <;> simp [-qt,-qd,-ql,rgs,z5,oA5,vC,vX,vD,zS X w,zS X2 W,yH,yB,qb])
  refine call_wc (hcB _) ?_
  intro X6 H6 n6 V6 hid6 hle6 f6
  dsimp only at hid6 hle6 f6
  have nX6:∀ j,j < n5 → j ∉ X6.ids:=fun j hj hm=>by have:=hid6 j hm;omega
  have oG6:=f6 (n1 + 9) (nX6 _ (by omega))
  have oS6:=f6 (nx + 19) (nX6 _ (by omega))
  rw [oG5] at oG6
  rw [oS5] at oS6
  have G6:WV H6 X2 (mkWld W 1):=G5.keep fun id hid=>f6 id (nX6 _ (by have:=hX2 id hid;omega))
  have K6:KeepB nx H6 h:=fun j hj=>by rw [f6 j (nX6 _ (by omega)),K5 j hj]
  have n17:(nx + 19 = n5 + 20) = False:=by simp only [eq_iff_iff,iff_false];omega
  have m18:∀ k,(n1 = n5 + k) = False:=fun k=>by simp only [eq_iff_iff,iff_false];omega
  have m19:∀ k,(nx = n5 + k) = False:=fun k=>by simp only [eq_iff_iff,iff_false];omega
  have m17:(n1 + 9 = n5 + 20) = False:=by simp only [eq_iff_iff,iff_false];omega
  try simp [-qt,-qd,-ql,rgs,n17,m17,m18,m19,z5,oG6,oS6,zS X6 W,vC,vX,vD,zS X2 W,yH,yB]
  repeat' first | done | ((first | (with_reducible refine zG (i:=10) [(0,[],[]),(1,[],[]),(2,[.tmp 14],[]),(3,[],[]),(4,[],[])] (by kernel_rfl) ?_)) <;> simp [-qt,-qd,-ql,rgs,n17,m17,m18,m19,z5,oG6,oS6,zS X6 W,vC,vX,vD,zS X2 W,yH,yB]) | ((first | (with_reducible refine zE ?_ ?_) | (with_reducible refine zA ?_ ?_)) <;> intro qb <;> (have qp:=qb;try simp only [psq] at qp) <;> simp [-qt,-qd,-ql,rgs,n17,m17,m18,m19,z5,oG6,oS6,zS X6 W,vC,vX,vD,zS X2 W,yH,yB,qb])
  refine yL (zP7 (x:=W) (y:=W) (F1:=FF) (F2:=fun _=>true)) (.bool _) ?hb7 ?_
  case hb7=>exact .cons (.agg1 (V6.keep fun id hid=>by have:=hid6 id hid;dsimp only;repeat rw [zK _ _ _ _ (by omega)]).bors) (.cons (.same _) .nil)
  try simp [-qt,-qd,-ql,rgs,n17,m17,m18,m19,z5,oG6,oS6,zS X6 W,vC,vX,vD,zS X2 W,yH,yB]
  repeat' first | done | ((first | (with_reducible refine zG (i:=10) [(0,[],[]),(1,[],[]),(2,[.tmp 14],[]),(3,[],[]),(4,[],[])] (by kernel_rfl) ?_)) <;> simp [-qt,-qd,-ql,rgs,n17,m17,m18,m19,z5,oG6,oS6,zS X6 W,vC,vX,vD,zS X2 W,yH,yB]) | ((first | (with_reducible refine zE ?_ ?_) | (with_reducible refine zA ?_ ?_)) <;> intro qb <;> (have qp:=qb;try simp only [psq] at qp) <;> simp [-qt,-qd,-ql,rgs,n17,m17,m18,m19,z5,oG6,oS6,zS X6 W,vC,vX,vD,zS X2 W,yH,yB,qb])
  refine yL (h_heldWorld (F:=FF) (w:=W) (k:=1) hs2 (by omega) (by omega)) (.int _ _) ?hb8 ?_
  case hb8=>exact .cons (.agg1 (wldR_mk X2 W 1 ▸ (G6.keep fun id hid=>by have:=hX2 id hid;dsimp only;repeat rw [zK _ _ _ _ (by omega)]).bors)) (.cons (.same _) .nil)
  try simp [-qt,-qd,-ql,rgs,z5]
  repeat' first | done | ((first | (with_reducible refine zG (i:=10) [(0,[],[]),(1,[],[]),(2,[.tmp 14],[]),(3,[],[]),(4,[],[])] (by kernel_rfl) ?_)) <;> simp [-qt,-qd,-ql,rgs,z5]) | ((first | (with_reducible refine zE ?_ ?_) | (with_reducible refine zA ?_ ?_)) <;> intro qb <;> (have qp:=qb;try simp only [psq] at qp) <;> simp [-qt,-qd,-ql,rgs,z5,qb])
  exact zP2 (by omega) (zP2 (by omega) K6)
 ·have e:szR (zD4 w) 1048576 = -1:=by rcases zA0 (zD4 w) 1048576 with q | q <;> omega
  refine PC.o okC Tryz.func3 rfl (.bool _) fun h nx hnx => ?_
  try simp [-qt,-qd,-ql,rgs,e]
  repeat' first | done | ((first | ((with_reducible show zF _ _ _ 7 _ _);refine zD (c_szWorld (s:=w) (F:=fun _=>true) (by omega) (by omega)) ?_) | (with_reducible refine zG (i:=10) [(0,[],[]),(1,[],[]),(2,[.tmp 14],[]),(3,[],[]),(4,[],[])] (by kernel_rfl) ?_)) <;> simp [-qt,-qd,-ql,rgs,e]) | ((first | (with_reducible refine zE ?_ ?_) | (with_reducible refine zA ?_ ?_)) <;> intro qb <;> (have qp:=qb;try simp only [psq] at qp) <;> simp [-qt,-qd,-ql,rgs,e,qb])
end Go.AE.Tryz
end
