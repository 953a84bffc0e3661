/- Contracts of the seat's functions: what each answers, for all arguments. -/
import Derived.Test.YtokkkniepbkapaaGreatB1
import Derived.Test.YtokkkniepbkapaaGreatA3
import Derived.Test.YtokkkniepbkapaaGreatA2
set_option linter.unusedVariables false
set_option linter.unusedSimpArgs false
set_option linter.deprecated false
section
/- Contracts of the laws' readings of marks. -/
set_option maxRecDepth 8000
set_option maxHeartbeats 4000000
namespace Go.AE.Tryz
open Go.Proofs
open List renaming map_take → qt,map_drop → qd,map_tail → ql
theorem h_heldNodeS {p:Bool} {n:Nat} {k:Int} (hlim:n ≤ LIM) (h0:0 ≤ k) (h1:k ≤ 1152921504606846976):PC ctx.P 74 [.view p 5 ((yN mkNod 5 k n).map yC),.int .i64 k] (.int .i64 (k + (5:Nat) * n)):=by
 refine PC.o okC Tryz.func74 rfl (.int _ _) fun h nx hnx => ?_
 try simp [-qt,-qd,-ql,rgs]
 repeat' first | done | ((first | ((with_reducible show zU _ _ _ _ _ _);refine zB rfl fun _ => ?_) | ((with_reducible show zJ _ _ _ _ _ _ _);refine zC rfl omA omA ?_)) <;> simp [-qt,-qd,-ql,rgs]) | ((first | (with_reducible refine zA ?_ ?_)) <;> intro qb <;> (have qp:=qb;try simp only [psq] at qp) <;> simp [-qt,-qd,-ql,rgs,qb])
 refine zW [1,4,5,6,7,8,9,10,11,12,13,14,15,16,17,18,19,20,21,22,23,24,25,26,27,28,29,30,31,32,33,34,35,36,37,38,39,40,41,42,43,44,45,46,47,48,49,50,51,52,53,54,55,56] (n) (fun (i:Nat) a=>[(5,.int .i64 i),(1,.int .i64 (k + (5:Nat) * i))]) (fun i_ a_ h_ _=>(fun i (_:Unit) _=>True) i_ a_ h_) (()) (by simp) ?_ zT (Nat.le_refl _) ?_
 ·trivial
 ·intro i a tm h' n' hle hJ hE hn' next hnx
  try dsimp only at hJ
  have hK:KeepB nx h' h:=KeepB.sub hE zK (by omega)
  simp [-qt,-qd,-ql]
  have hlim0:=hlim
  simp only [LIM] at hlim
  by_cases hlt:i < n
  ·have hg:gt (yN mkNod 5 k n) (i:Int) = mkNod (k + (5:Nat) * i):=zF8 hlt
   try simp [-qt,-qd,-ql,rgs,hg,yC,mkNod,zH (x:=k + (5 * (i:Int) + 1)) (by omega),zH (x:=k + (5 * (i:Int) + 2)) (by omega),zH (x:=k + (5 * (i:Int) + 3)) (by omega),zH (x:=k + (5 * (i:Int) + 4)) (by omega),zH (x:=k + (5 * (i:Int) + 5)) (by omega),Int.add_assoc]
   repeat' first | done | ((first | ((with_reducible show zU _ _ _ _ _ _);refine zB rfl fun _ => ?_) | ((with_reducible show zJ _ _ _ _ _ _ _);refine zC rfl omA omA ?_)) <;> simp [-qt,-qd,-ql,rgs,hg,yC,mkNod,zH (x:=k + (5 * (i:Int) + 1)) (by omega),zH (x:=k + (5 * (i:Int) + 2)) (by omega),zH (x:=k + (5 * (i:Int) + 3)) (by omega),zH (x:=k + (5 * (i:Int) + 4)) (by omega),zH (x:=k + (5 * (i:Int) + 5)) (by omega),Int.add_assoc]) | ((first | (with_reducible refine zA ?_ ?_)) <;> intro qb <;> (have qp:=qb;try simp only [psq] at qp) <;> simp [-qt,-qd,-ql,rgs,hg,yC,mkNod,zH (x:=k + (5 * (i:Int) + 1)) (by omega),zH (x:=k + (5 * (i:Int) + 2)) (by omega),zH (x:=k + (5 * (i:Int) + 3)) (by omega),zH (x:=k + (5 * (i:Int) + 4)) (by omega),zH (x:=k + (5 * (i:Int) + 5)) (by omega),Int.add_assoc,qb])
   all_goals first
   | omega
   | (refine hnx.go () ?_ ?_ ?_ ?_ ?_ ?_
      ·omega
      ·simp [zM hlt hlim0] <;> omega
      ·simp
      ·exact zK
      ·first | omega | (simp;omega)
      trivial)
   | trace_state
  ·have:i = n:=by omega
   subst this
   try simp [-qt,-qd,-ql,rgs,hlt]
   repeat' first | done | ((first | ((with_reducible show zU _ _ _ _ _ _);refine zB rfl fun _ => ?_) | ((with_reducible show zJ _ _ _ _ _ _ _);refine zC rfl omA omA ?_)) <;> simp [-qt,-qd,-ql,rgs,hlt]) | ((first | (with_reducible refine zA ?_ ?_)) <;> intro qb <;> (have qp:=qb;try simp only [psq] at qp) <;> simp [-qt,-qd,-ql,rgs,hlt,qb])
   all_goals (try clear hnx)
   all_goals first | (simp_all [];done) | (simp_all [];omega) | (rw [Bool.eq_iff_iff];simp_all [];done) | (rw [Bool.eq_iff_iff];simp_all [];omega) | omega | (simp only [];grind) | grind
theorem h_heldEventS {p:Bool} {n:Nat} {k:Int} (hlim:n ≤ LIM) (h0:0 ≤ k) (h1:k ≤ 1152921504606846976):PC ctx.P 75 [.view p 4 ((yN mkEvt 4 k n).map yS),.int .i64 k] (.int .i64 (k + (4:Nat) * n)):=by
 refine PC.o okC Tryz.func75 rfl (.int _ _) fun h nx hnx => ?_
 try simp [-qt,-qd,-ql,rgs]
 repeat' first | done | ((first | ((with_reducible show zU _ _ _ _ _ _);refine zB rfl fun _ => ?_) | ((with_reducible show zJ _ _ _ _ _ _ _);refine zC rfl omA omA ?_)) <;> simp [-qt,-qd,-ql,rgs]) | ((first | (with_reducible refine zA ?_ ?_)) <;> intro qb <;> (have qp:=qb;try simp only [psq] at qp) <;> simp [-qt,-qd,-ql,rgs,qb])
 refine zW [1,4,5,6,7,8,9,10,11,12,13,14,15,16,17,18,19,20,21,22,23,24,25,26,27,28,29,30,31,32,33,34,35,36,37,38,39,40,41,42,43,44,45,46,47] (n) (fun (i:Nat) a=>[(5,.int .i64 i),(1,.int .i64 (k + (4:Nat) * i))]) (fun i_ a_ h_ _=>(fun i (_:Unit) _=>True) i_ a_ h_) (()) (by simp) ?_ zT (Nat.le_refl _) ?_
 ·trivial
 ·intro i a tm h' n' hle hJ hE hn' next hnx
  try dsimp only at hJ
  have hK:KeepB nx h' h:=KeepB.sub hE zK (by omega)
  simp [-qt,-qd,-ql]
  have hlim0:=hlim
  simp only [LIM] at hlim
  by_cases hlt:i < n
  ·have hg:gt (yN mkEvt 4 k n) (i:Int) = mkEvt (k + (4:Nat) * i):=zF8 hlt
   try simp [-qt,-qd,-ql,rgs,hg,yS,mkEvt,zH (x:=k + (4 * (i:Int) + 1)) (by omega),zH (x:=k + (4 * (i:Int) + 2)) (by omega),zH (x:=k + (4 * (i:Int) + 3)) (by omega),zH (x:=k + (4 * (i:Int) + 4)) (by omega),Int.add_assoc]
   repeat' first | done | ((first | ((with_reducible show zU _ _ _ _ _ _);refine zB rfl fun _ => ?_) | ((with_reducible show zJ _ _ _ _ _ _ _);refine zC rfl omA omA ?_)) <;> simp [-qt,-qd,-ql,rgs,hg,yS,mkEvt,zH (x:=k + (4 * (i:Int) + 1)) (by omega),zH (x:=k + (4 * (i:Int) + 2)) (by omega),zH (x:=k + (4 * (i:Int) + 3)) (by omega),zH (x:=k + (4 * (i:Int) + 4)) (by omega),Int.add_assoc]) | ((first | (with_reducible refine zA ?_ ?_)) <;> intro qb <;> (have qp:=qb;try simp only [psq] at qp) <;> simp [-qt,-qd,-ql,rgs,hg,yS,mkEvt,zH (x:=k + (4 * (i:Int) + 1)) (by omega),zH (x:=k + (4 * (i:Int) + 2)) (by omega),zH (x:=k + (4 * (i:Int) + 3)) (by omega),zH (x:=k + (4 * (i:Int) + 4)) (by omega),Int.add_assoc,qb])
   all_goals first
   | omega
   | (refine hnx.go () ?_ ?_ ?_ ?_ ?_ ?_
      ·omega
      ·simp [zM hlt hlim0] <;> omega
      ·simp
      ·exact zK
      ·first | omega | (simp;omega)
      trivial)
   | trace_state
  ·have:i = n:=by omega
   subst this
   try simp [-qt,-qd,-ql,rgs,hlt]
   repeat' first | done | ((first | ((with_reducible show zU _ _ _ _ _ _);refine zB rfl fun _ => ?_) | ((with_reducible show zJ _ _ _ _ _ _ _);refine zC rfl omA omA ?_)) <;> simp [-qt,-qd,-ql,rgs,hlt]) | ((first | (with_reducible refine zA ?_ ?_)) <;> intro qb <;> (have qp:=qb;try simp only [psq] at qp) <;> simp [-qt,-qd,-ql,rgs,hlt,qb])
   all_goals (try clear hnx)
   all_goals first | (simp_all [];done) | (simp_all [];omega) | (rw [Bool.eq_iff_iff];simp_all [];done) | (rw [Bool.eq_iff_iff];simp_all [];omega) | omega | (simp only [];grind) | grind
theorem h_heldTwigS {p:Bool} {n:Nat} {k:Int} (hlim:n ≤ LIM) (h0:0 ≤ k) (h1:k ≤ 1152921504606846976):PC ctx.P 161 [.view p 3 ((yN zL9 3 k n).map yQ),.int .i64 k] (.int .i64 (k + (3:Nat) * n)):=by
 refine PC.o okC Tryz.func161 rfl (.int _ _) fun h nx hnx => ?_
 try simp [-qt,-qd,-ql,rgs]
 repeat' first | done | ((first | ((with_reducible show zU _ _ _ _ _ _);refine zB rfl fun _ => ?_) | ((with_reducible show zJ _ _ _ _ _ _ _);refine zC rfl omA omA ?_)) <;> simp [-qt,-qd,-ql,rgs]) | ((first | (with_reducible refine zA ?_ ?_)) <;> intro qb <;> (have qp:=qb;try simp only [psq] at qp) <;> simp [-qt,-qd,-ql,rgs,qb])
 refine zW [1,4,5,6,7,8,9,10,11,12,13,14,15,16,17,18,19,20,21,22,23,24,25,26,27,28,29,30,31,32,33,34,35,36,37,38] (n) (fun (i:Nat) a=>[(5,.int .i64 i),(1,.int .i64 (k + (3:Nat) * i))]) (fun i_ a_ h_ _=>(fun i (_:Unit) _=>True) i_ a_ h_) (()) (by simp) ?_ zT (Nat.le_refl _) ?_
 ·trivial
 ·intro i a tm h' n' hle hJ hE hn' next hnx
  try dsimp only at hJ
  have hK:KeepB nx h' h:=KeepB.sub hE zK (by omega)
  simp [-qt,-qd,-ql]
  have hlim0:=hlim
  simp only [LIM] at hlim
  by_cases hlt:i < n
  ·have hg:gt (yN zL9 3 k n) (i:Int) = zL9 (k + (3:Nat) * i):=zF8 hlt
   try simp [-qt,-qd,-ql,rgs,hg,yQ,zL9,zH (x:=k + (3 * (i:Int) + 1)) (by omega),zH (x:=k + (3 * (i:Int) + 2)) (by omega),zH (x:=k + (3 * (i:Int) + 3)) (by omega),Int.add_assoc]
   repeat' first | done | ((first | ((with_reducible show zU _ _ _ _ _ _);refine zB rfl fun _ => ?_) | ((with_reducible show zJ _ _ _ _ _ _ _);refine zC rfl omA omA ?_)) <;> simp [-qt,-qd,-ql,rgs,hg,yQ,zL9,zH (x:=k + (3 * (i:Int) + 1)) (by omega),zH (x:=k + (3 * (i:Int) + 2)) (by omega),zH (x:=k + (3 * (i:Int) + 3)) (by omega),Int.add_assoc]) | ((first | (with_reducible refine zA ?_ ?_)) <;> intro qb <;> (have qp:=qb;try simp only [psq] at qp) <;> simp [-qt,-qd,-ql,rgs,hg,yQ,zL9,zH (x:=k + (3 * (i:Int) + 1)) (by omega),zH (x:=k + (3 * (i:Int) + 2)) (by omega),zH (x:=k + (3 * (i:Int) + 3)) (by omega),Int.add_assoc,qb])
   all_goals first
   | omega
   | (refine hnx.go () ?_ ?_ ?_ ?_ ?_ ?_
      ·omega
      ·simp [zM hlt hlim0] <;> omega
      ·simp
      ·exact zK
      ·first | omega | (simp;omega)
      trivial)
   | trace_state
  ·have:i = n:=by omega
   subst this
   try simp [-qt,-qd,-ql,rgs,hlt]
   repeat' first | done | ((first | ((with_reducible show zU _ _ _ _ _ _);refine zB rfl fun _ => ?_) | ((with_reducible show zJ _ _ _ _ _ _ _);refine zC rfl omA omA ?_)) <;> simp [-qt,-qd,-ql,rgs,hlt]) | ((first | (with_reducible refine zA ?_ ?_)) <;> intro qb <;> (have qp:=qb;try simp only [psq] at qp) <;> simp [-qt,-qd,-ql,rgs,hlt,qb])
   all_goals (try clear hnx)
   all_goals first | (simp_all [];done) | (simp_all [];omega) | (rw [Bool.eq_iff_iff];simp_all [];done) | (rw [Bool.eq_iff_iff];simp_all [];omega) | omega | (simp only [];grind) | grind
theorem h_heldTimerS {p:Bool} {n:Nat} {k:Int} (hlim:n ≤ LIM) (h0:0 ≤ k) (h1:k ≤ 1152921504606846976):PC ctx.P 162 [.view p 5 ((yN zL6 5 k n).map vJ),.int .i64 k] (.int .i64 (k + (5:Nat) * n)):=by
 refine PC.o okC Tryz.func162 rfl (.int _ _) fun h nx hnx => ?_
 try simp [-qt,-qd,-ql,rgs]
 repeat' first | done | ((first | ((with_reducible show zU _ _ _ _ _ _);refine zB rfl fun _ => ?_) | ((with_reducible show zJ _ _ _ _ _ _ _);refine zC rfl omA omA ?_)) <;> simp [-qt,-qd,-ql,rgs]) | ((first | (with_reducible refine zA ?_ ?_)) <;> intro qb <;> (have qp:=qb;try simp only [psq] at qp) <;> simp [-qt,-qd,-ql,rgs,qb])
 refine zW [1,4,5,6,7,8,9,10,11,12,13,14,15,16,17,18,19,20,21,22,23,24,25,26,27,28,29,30,31,32,33,34,35,36,37,38,39,40,41,42,43,44,45,46,47,48,49,50,51,52,53,54,55,56,57,58] (n) (fun (i:Nat) a=>[(5,.int .i64 i),(1,.int .i64 (k + (5:Nat) * i))]) (fun i_ a_ h_ _=>(fun i (_:Unit) _=>True) i_ a_ h_) (()) (by simp) ?_ zT (Nat.le_refl _) ?_
 ·trivial
 ·intro i a tm h' n' hle hJ hE hn' next hnx
  try dsimp only at hJ
  have hK:KeepB nx h' h:=KeepB.sub hE zK (by omega)
  simp [-qt,-qd,-ql]
  have hlim0:=hlim
  simp only [LIM] at hlim
  by_cases hlt:i < n
  ·have hg:gt (yN zL6 5 k n) (i:Int) = zL6 (k + (5:Nat) * i):=zF8 hlt
   try simp [-qt,-qd,-ql,rgs,hg,vJ,zL6,zH (x:=k + (5 * (i:Int) + 1)) (by omega),zH (x:=k + (5 * (i:Int) + 2)) (by omega),zH (x:=k + (5 * (i:Int) + 3)) (by omega),zH (x:=k + (5 * (i:Int) + 4)) (by omega),zH (x:=k + (5 * (i:Int) + 5)) (by omega),Int.add_assoc]
   repeat' first | done | ((first | ((with_reducible show zU _ _ _ _ _ _);refine zB rfl fun _ => ?_) | ((with_reducible show zJ _ _ _ _ _ _ _);refine zC rfl omA omA ?_)) <;> simp [-qt,-qd,-ql,rgs,hg,vJ,zL6,zH (x:=k + (5 * (i:Int) + 1)) (by omega),zH (x:=k + (5 * (i:Int) + 2)) (by omega),zH (x:=k + (5 * (i:Int) + 3)) (by omega),zH (x:=k + (5 * (i:Int) + 4)) (by omega),zH (x:=k + (5 * (i:Int) + 5)) (by omega),Int.add_assoc]) | ((first | (with_reducible refine zA ?_ ?_)) <;> intro qb <;> (have qp:=qb;try simp only [psq] at qp) <;> simp [-qt,-qd,-ql,rgs,hg,vJ,zL6,zH (x:=k + (5 * (i:Int) + 1)) (by omega),zH (x:=k + (5 * (i:Int) + 2)) (by omega),zH (x:=k + (5 * (i:Int) + 3)) (by omega),zH (x:=k + (5 * (i:Int) + 4)) (by omega),zH (x:=k + (5 * (i:Int) + 5)) (by omega),Int.add_assoc,qb])
   all_goals first
   | omega
   | (refine hnx.go () ?_ ?_ ?_ ?_ ?_ ?_
      ·omega
      ·simp [zM hlt hlim0] <;> omega
      ·simp
      ·exact zK
      ·first | omega | (simp;omega)
      trivial)
   | trace_state
  ·have:i = n:=by omega
   subst this
   try simp [-qt,-qd,-ql,rgs,hlt]
   repeat' first | done | ((first | ((with_reducible show zU _ _ _ _ _ _);refine zB rfl fun _ => ?_) | ((with_reducible show zJ _ _ _ _ _ _ _);refine zC rfl omA omA ?_)) <;> simp [-qt,-qd,-ql,rgs,hlt]) | ((first | (with_reducible refine zA ?_ ?_)) <;> intro qb <;> (have qp:=qb;try simp only [psq] at qp) <;> simp [-qt,-qd,-ql,rgs,hlt,qb])
   all_goals (try clear hnx)
   all_goals first | (simp_all [];done) | (simp_all [];omega) | (rw [Bool.eq_iff_iff];simp_all [];done) | (rw [Bool.eq_iff_iff];simp_all [];omega) | omega | (simp only [];grind) | grind
theorem h_heldAfterS {p:Bool} {n:Nat} {k:Int} (hlim:n ≤ LIM) (h0:0 ≤ k) (h1:k ≤ 1152921504606846976):PC ctx.P 164 [.view p 5 ((yN zL7 5 k n).map vO),.int .i64 k] (.int .i64 (k + (5:Nat) * n)):=by
 refine PC.o okC Tryz.func164 rfl (.int _ _) fun h nx hnx => ?_
 try simp [-qt,-qd,-ql,rgs]
 repeat' first | done | ((first | ((with_reducible show zU _ _ _ _ _ _);refine zB rfl fun _ => ?_) | ((with_reducible show zJ _ _ _ _ _ _ _);refine zC rfl omA omA ?_)) <;> simp [-qt,-qd,-ql,rgs]) | ((first | (with_reducible refine zA ?_ ?_)) <;> intro qb <;> (have qp:=qb;try simp only [psq] at qp) <;> simp [-qt,-qd,-ql,rgs,qb])
 refine zW [1,4,5,6,7,8,9,10,11,12,13,14,15,16,17,18,19,20,21,22,23,24,25,26,27,28,29,30,31,32,33,34,35,36,37,38,39,40,41,42,43,44,45,46,47,48,49,50,51,52,53,54,55,56,57,58,59,60] (n) (fun (i:Nat) a=>[(5,.int .i64 i),(1,.int .i64 (k + (5:Nat) * i))]) (fun i_ a_ h_ _=>(fun i (_:Unit) _=>True) i_ a_ h_) (()) (by simp) ?_ zT (Nat.le_refl _) ?_
 ·trivial
 ·intro i a tm h' n' hle hJ hE hn' next hnx
  try dsimp only at hJ
  have hK:KeepB nx h' h:=KeepB.sub hE zK (by omega)
  simp [-qt,-qd,-ql]
  have hlim0:=hlim
  simp only [LIM] at hlim
  by_cases hlt:i < n
  ·have hg:gt (yN zL7 5 k n) (i:Int) = zL7 (k + (5:Nat) * i):=zF8 hlt
   try simp [-qt,-qd,-ql,rgs,hg,vO,zL7,zH (x:=k + (5 * (i:Int) + 1)) (by omega),zH (x:=k + (5 * (i:Int) + 2)) (by omega),zH (x:=k + (5 * (i:Int) + 3)) (by omega),zH (x:=k + (5 * (i:Int) + 4)) (by omega),zH (x:=k + (5 * (i:Int) + 5)) (by omega),Int.add_assoc]
   repeat' first | done | ((first | ((with_reducible show zU _ _ _ _ _ _);refine zB rfl fun _ => ?_) | ((with_reducible show zJ _ _ _ _ _ _ _);refine zC rfl omA omA ?_)) <;> simp [-qt,-qd,-ql,rgs,hg,vO,zL7,zH (x:=k + (5 * (i:Int) + 1)) (by omega),zH (x:=k + (5 * (i:Int) + 2)) (by omega),zH (x:=k + (5 * (i:Int) + 3)) (by omega),zH (x:=k + (5 * (i:Int) + 4)) (by omega),zH (x:=k + (5 * (i:Int) + 5)) (by omega),Int.add_assoc]) | ((first | (with_reducible refine zA ?_ ?_)) <;> intro qb <;> (have qp:=qb;try simp only [psq] at qp) <;> simp [-qt,-qd,-ql,rgs,hg,vO,zL7,zH (x:=k + (5 * (i:Int) + 1)) (by omega),zH (x:=k + (5 * (i:Int) + 2)) (by omega),zH (x:=k + (5 * (i:Int) + 3)) (by omega),zH (x:=k + (5 * (i:Int) + 4)) (by omega),zH (x:=k + (5 * (i:Int) + 5)) (by omega),Int.add_assoc,qb])
   all_goals first
   | omega
   | (refine hnx.go () ?_ ?_ ?_ ?_ ?_ ?_
      ·omega
      ·simp [zM hlt hlim0] <;> omega
      ·simp
      ·exact zK
      ·first | omega | (simp;omega)
      trivial)
   | trace_state
  ·have:i = n:=by omega
   subst this
   try simp [-qt,-qd,-ql,rgs,hlt]
   repeat' first | done | ((first | ((with_reducible show zU _ _ _ _ _ _);refine zB rfl fun _ => ?_) | ((with_reducible show zJ _ _ _ _ _ _ _);refine zC rfl omA omA ?_)) <;> simp [-qt,-qd,-ql,rgs,hlt]) | ((first | (with_reducible refine zA ?_ ?_)) <;> intro qb <;> (have qp:=qb;try simp only [psq] at qp) <;> simp [-qt,-qd,-ql,rgs,hlt,qb])
   all_goals (try clear hnx)
   all_goals first | (simp_all [];done) | (simp_all [];omega) | (rw [Bool.eq_iff_iff];simp_all [];done) | (rw [Bool.eq_iff_iff];simp_all [];omega) | omega | (simp only [];grind) | grind
theorem h_heldTaskS {p:Bool} {n:Nat} {k:Int} (hlim:n ≤ LIM) (h0:0 ≤ k) (h1:k ≤ 1152921504606846976):PC ctx.P 79 [.view p 9 ((yN mkTsk 9 k n).map vU),.int .i64 k] (.int .i64 (k + (9:Nat) * n)):=by
 refine PC.o okC Tryz.func79 rfl (.int _ _) fun h nx hnx => ?_
 try simp [-qt,-qd,-ql,rgs]
 repeat' first | done | ((first | ((with_reducible show zU _ _ _ _ _ _);refine zB rfl fun _ => ?_) | ((with_reducible show zJ _ _ _ _ _ _ _);refine zC rfl omA omA ?_)) <;> simp [-qt,-qd,-ql,rgs]) | ((first | (with_reducible refine zA ?_ ?_)) <;> intro qb <;> (have qp:=qb;try simp only [psq] at qp) <;> simp [-qt,-qd,-ql,rgs,qb])
 refine zW [1,4,5,6,7,8,9,10,11,12,13,14,15,16,17,18,19,20,21,22,23,24,25,26,27,28,29,30,31,32,33,34,35,36,37,38,39,40,41,42,43,44,45,46,47,48,49,50,51,52,53,54,55,56,57,58,59,60,61,62,63,64,65,66,67,68,69,70,71,72,73,74,75,76,77,78,79,80,81,82,83,84,85,86,87,88,89,90,91,92] (n) (fun (i:Nat) a=>[(5,.int .i64 i),(1,.int .i64 (k + (9:Nat) * i))]) (fun i_ a_ h_ _=>(fun i (_:Unit) _=>True) i_ a_ h_) (()) (by simp) ?_ zT (Nat.le_refl _) ?_
 ·trivial
 ·intro i a tm h' n' hle hJ hE hn' next hnx
  try dsimp only at hJ
  have hK:KeepB nx h' h:=KeepB.sub hE zK (by omega)
  simp [-qt,-qd,-ql]
  have hlim0:=hlim
  simp only [LIM] at hlim
  by_cases hlt:i < n
  ·have hg:gt (yN mkTsk 9 k n) (i:Int) = mkTsk (k + (9:Nat) * i):=zF8 hlt
   try simp [-qt,-qd,-ql,rgs,hg,vU,mkTsk,zH (x:=k + (9 * (i:Int) + 1)) (by omega),zH (x:=k + (9 * (i:Int) + 2)) (by omega),zH (x:=k + (9 * (i:Int) + 3)) (by omega),zH (x:=k + (9 * (i:Int) + 4)) (by omega),zH (x:=k + (9 * (i:Int) + 5)) (by omega),zH (x:=k + (9 * (i:Int) + 6)) (by omega),zH (x:=k + (9 * (i:Int) + 7)) (by omega),zH (x:=k + (9 * (i:Int) + 8)) (by omega),zH (x:=k + (9 * (i:Int) + 9)) (by omega),Int.add_assoc]
   repeat' first | done | ((first | ((with_reducible show zU _ _ _ _ _ _);refine zB rfl fun _ => ?_) | ((with_reducible show zJ _ _ _ _ _ _ _);refine zC rfl omA omA ?_)) <;> simp [-qt,-qd,-ql,rgs,hg,vU,mkTsk,zH (x:=k + (9 * (i:Int) + 1)) (by omega),zH (x:=k + (9 * (i:Int) + 2)) (by omega),zH (x:=k + (9 * (i:Int) + 3)) (by omega),zH (x:=k + (9 * (i:Int) + 4)) (by omega),zH (x:=k + (9 * (i:Int) + 5)) (by omega),zH (x:=k + (9 * (i:Int) + 6)) (by omega),zH (x:=k + (9 * (i:Int) + 7)) (by omega),zH (x:=k + (9 * (i:Int) + 8)) (by omega),zH (x:=k + (9 * (i:Int) + 9)) (by omega),Int.add_assoc]) | ((first | (with_reducible refine zA ?_ ?_)) <;> intro qb <;> (have qp:=qb;try simp only [psq] at qp) <;> simp [-qt,-qd,-ql,rgs,hg,vU,mkTsk,zH (x:=k + (9 * (i:Int) + 1)) (by omega),zH (x:=k + (9 * (i:Int) + 2)) (by omega),zH (x:=k + (9 * (i:Int) + 3)) (by omega),zH (x:=k + (9 * (i:Int) + 4)) (by omega),zH (x:=k + (9 * (i:Int) + 5)) (by omega),zH (x:=k + (9 * (i:Int) + 6)) (by omega),zH (x:=k + (9 * (i:Int) + 7)) (by omega),zH (x:=k + (9 * (i:Int) + 8)) (by omega),zH (x:=k + (9 * (i:Int) + 9)) (by omega),Int.add_assoc,qb])
   all_goals first
   | omega
   | (refine hnx.go () ?_ ?_ ?_ ?_ ?_ ?_
      ·omega
      ·simp [zM hlt hlim0] <;> omega
      ·simp
      ·exact zK
      ·first | omega | (simp;omega)
      trivial)
   | trace_state
  ·have:i = n:=by omega
   subst this
   try simp [-qt,-qd,-ql,rgs,hlt]
   repeat' first | done | ((first | ((with_reducible show zU _ _ _ _ _ _);refine zB rfl fun _ => ?_) | ((with_reducible show zJ _ _ _ _ _ _ _);refine zC rfl omA omA ?_)) <;> simp [-qt,-qd,-ql,rgs,hlt]) | ((first | (with_reducible refine zA ?_ ?_)) <;> intro qb <;> (have qp:=qb;try simp only [psq] at qp) <;> simp [-qt,-qd,-ql,rgs,hlt,qb])
   all_goals (try clear hnx)
   all_goals first | (simp_all [];done) | (simp_all [];omega) | (rw [Bool.eq_iff_iff];simp_all [];done) | (rw [Bool.eq_iff_iff];simp_all [];omega) | omega | (simp only [];grind) | grind
theorem h_heldSightS {p:Bool} {n:Nat} {k:Int} (hlim:n ≤ LIM) (h0:0 ≤ k) (h1:k ≤ 1152921504606846976):PC ctx.P 81 [.view p 4 ((yN mkSgt 4 k n).map zA6),.int .i64 k] (.int .i64 (k + (4:Nat) * n)):=by
 refine PC.o okC Tryz.func81 rfl (.int _ _) fun h nx hnx => ?_
 try simp [-qt,-qd,-ql,rgs]
 repeat' first | done | ((first | ((with_reducible show zU _ _ _ _ _ _);refine zB rfl fun _ => ?_) | ((with_reducible show zJ _ _ _ _ _ _ _);refine zC rfl omA omA ?_)) <;> simp [-qt,-qd,-ql,rgs]) | ((first | (with_reducible refine zA ?_ ?_)) <;> intro qb <;> (have qp:=qb;try simp only [psq] at qp) <;> simp [-qt,-qd,-ql,rgs,qb])
 refine zW [1,4,5,6,7,8,9,10,11,12,13,14,15,16,17,18,19,20,21,22,23,24,25,26,27,28,29,30,31,32,33,34,35,36,37,38,39,40,41,42,43,44,45,46,47] (n) (fun (i:Nat) a=>[(5,.int .i64 i),(1,.int .i64 (k + (4:Nat) * i))]) (fun i_ a_ h_ _=>(fun i (_:Unit) _=>True) i_ a_ h_) (()) (by simp) ?_ zT (Nat.le_refl _) ?_
 ·trivial
 ·intro i a tm h' n' hle hJ hE hn' next hnx
  try dsimp only at hJ
  have hK:KeepB nx h' h:=KeepB.sub hE zK (by omega)
  simp [-qt,-qd,-ql]
  have hlim0:=hlim
  simp only [LIM] at hlim
  by_cases hlt:i < n
  ·have hg:gt (yN mkSgt 4 k n) (i:Int) = mkSgt (k + (4:Nat) * i):=zF8 hlt
   try simp [-qt,-qd,-ql,rgs,hg,zA6,mkSgt,zH (x:=k + (4 * (i:Int) + 1)) (by omega),zH (x:=k + (4 * (i:Int) + 2)) (by omega),zH (x:=k + (4 * (i:Int) + 3)) (by omega),zH (x:=k + (4 * (i:Int) + 4)) (by omega),Int.add_assoc]
   repeat' first | done | ((first | ((with_reducible show zU _ _ _ _ _ _);refine zB rfl fun _ => ?_) | ((with_reducible show zJ _ _ _ _ _ _ _);refine zC rfl omA omA ?_)) <;> simp [-qt,-qd,-ql,rgs,hg,zA6,mkSgt,zH (x:=k + (4 * (i:Int) + 1)) (by omega),zH (x:=k + (4 * (i:Int) + 2)) (by omega),zH (x:=k + (4 * (i:Int) + 3)) (by omega),zH (x:=k + (4 * (i:Int) + 4)) (by omega),Int.add_assoc]) | ((first | (with_reducible refine zA ?_ ?_)) <;> intro qb <;> (have qp:=qb;try simp only [psq] at qp) <;> simp [-qt,-qd,-ql,rgs,hg,zA6,mkSgt,zH (x:=k + (4 * (i:Int) + 1)) (by omega),zH (x:=k + (4 * (i:Int) + 2)) (by omega),zH (x:=k + (4 * (i:Int) + 3)) (by omega),zH (x:=k + (4 * (i:Int) + 4)) (by omega),Int.add_assoc,qb])
   all_goals first
   | omega
   | (refine hnx.go () ?_ ?_ ?_ ?_ ?_ ?_
      ·omega
      ·simp [zM hlt hlim0] <;> omega
      ·simp
      ·exact zK
      ·first | omega | (simp;omega)
      trivial)
   | trace_state
  ·have:i = n:=by omega
   subst this
   try simp [-qt,-qd,-ql,rgs,hlt]
   repeat' first | done | ((first | ((with_reducible show zU _ _ _ _ _ _);refine zB rfl fun _ => ?_) | ((with_reducible show zJ _ _ _ _ _ _ _);refine zC rfl omA omA ?_)) <;> simp [-qt,-qd,-ql,rgs,hlt]) | ((first | (with_reducible refine zA ?_ ?_)) <;> intro qb <;> (have qp:=qb;try simp only [psq] at qp) <;> simp [-qt,-qd,-ql,rgs,hlt,qb])
   all_goals (try clear hnx)
   all_goals first | (simp_all [];done) | (simp_all [];omega) | (rw [Bool.eq_iff_iff];simp_all [];done) | (rw [Bool.eq_iff_iff];simp_all [];omega) | omega | (simp only [];grind) | grind
theorem h_heldInsS {p:Bool} {n:Nat} {k:Int} (hlim:n ≤ LIM) (h0:0 ≤ k) (h1:k ≤ 1152921504606846976):PC ctx.P 159 [.view p 3 ((yN mkInn 3 k n).map uC),.int .i64 k] (.int .i64 (k + (3:Nat) * n)):=by
 refine PC.o okC Tryz.func159 rfl (.int _ _) fun h nx hnx => ?_
 try simp [-qt,-qd,-ql,rgs]
 repeat' first | done | ((first | ((with_reducible show zU _ _ _ _ _ _);refine zB rfl fun _ => ?_) | ((with_reducible show zJ _ _ _ _ _ _ _);refine zC rfl omA omA ?_)) <;> simp [-qt,-qd,-ql,rgs]) | ((first | (with_reducible refine zA ?_ ?_)) <;> intro qb <;> (have qp:=qb;try simp only [psq] at qp) <;> simp [-qt,-qd,-ql,rgs,qb])
 refine zW [1,4,5,6,7,8,9,10,11,12,13,14,15,16,17,18,19,20,21,22,23,24,25,26,27,28,29,30,31,32,33,34,35,36,37,38] (n) (fun (i:Nat) a=>[(5,.int .i64 i),(1,.int .i64 (k + (3:Nat) * i))]) (fun i_ a_ h_ _=>(fun i (_:Unit) _=>True) i_ a_ h_) (()) (by simp) ?_ zT (Nat.le_refl _) ?_
 ·trivial
 ·intro i a tm h' n' hle hJ hE hn' next hnx
  try dsimp only at hJ
  have hK:KeepB nx h' h:=KeepB.sub hE zK (by omega)
  simp [-qt,-qd,-ql]
  have hlim0:=hlim
  simp only [LIM] at hlim
  by_cases hlt:i < n
  ·have hg:gt (yN mkInn 3 k n) (i:Int) = mkInn (k + (3:Nat) * i):=zF8 hlt
   try simp [-qt,-qd,-ql,rgs,hg,uC,mkInn,zH (x:=k + (3 * (i:Int) + 1)) (by omega),zH (x:=k + (3 * (i:Int) + 2)) (by omega),zH (x:=k + (3 * (i:Int) + 3)) (by omega),Int.add_assoc]
   repeat' first | done | ((first | ((with_reducible show zU _ _ _ _ _ _);refine zB rfl fun _ => ?_) | ((with_reducible show zJ _ _ _ _ _ _ _);refine zC rfl omA omA ?_)) <;> simp [-qt,-qd,-ql,rgs,hg,uC,mkInn,zH (x:=k + (3 * (i:Int) + 1)) (by omega),zH (x:=k + (3 * (i:Int) + 2)) (by omega),zH (x:=k + (3 * (i:Int) + 3)) (by omega),Int.add_assoc]) | ((first | (with_reducible refine zA ?_ ?_)) <;> intro qb <;> (have qp:=qb;try simp only [psq] at qp) <;> simp [-qt,-qd,-ql,rgs,hg,uC,mkInn,zH (x:=k + (3 * (i:Int) + 1)) (by omega),zH (x:=k + (3 * (i:Int) + 2)) (by omega),zH (x:=k + (3 * (i:Int) + 3)) (by omega),Int.add_assoc,qb])
   all_goals first
   | omega
   | (refine hnx.go () ?_ ?_ ?_ ?_ ?_ ?_
      ·omega
      ·simp [zM hlt hlim0] <;> omega
      ·simp
      ·exact zK
      ·first | omega | (simp;omega)
      trivial)
   | trace_state
  ·have:i = n:=by omega
   subst this
   try simp [-qt,-qd,-ql,rgs,hlt]
   repeat' first | done | ((first | ((with_reducible show zU _ _ _ _ _ _);refine zB rfl fun _ => ?_) | ((with_reducible show zJ _ _ _ _ _ _ _);refine zC rfl omA omA ?_)) <;> simp [-qt,-qd,-ql,rgs,hlt]) | ((first | (with_reducible refine zA ?_ ?_)) <;> intro qb <;> (have qp:=qb;try simp only [psq] at qp) <;> simp [-qt,-qd,-ql,rgs,hlt,qb])
   all_goals (try clear hnx)
   all_goals first | (simp_all [];done) | (simp_all [];omega) | (rw [Bool.eq_iff_iff];simp_all [];done) | (rw [Bool.eq_iff_iff];simp_all [];omega) | omega | (simp only [];grind) | grind
theorem zG4 {p:Bool} {n:Nat} {k:Int} (hlim:n ≤ LIM) (h0:0 ≤ k) (h1:k ≤ 1152921504606846976):PC ctx.P 82 [.view p 1 ((yN zF1 1 k n).map iv),.int .i64 k] (.int .i64 (k + (1:Nat) * n)):=by
 refine PC.o okC Tryz.func82 rfl (.int _ _) fun h nx hnx => ?_
 try simp [-qt,-qd,-ql,rgs]
 repeat' first | done | ((first | ((with_reducible show zU _ _ _ _ _ _);refine zB rfl fun _ => ?_) | ((with_reducible show zJ _ _ _ _ _ _ _);refine zC rfl omA omA ?_)) <;> simp [-qt,-qd,-ql,rgs]) | ((first | (with_reducible refine zA ?_ ?_)) <;> intro qb <;> (have qp:=qb;try simp only [psq] at qp) <;> simp [-qt,-qd,-ql,rgs,qb])
 refine zW [1,4,5,6,7,8,9,10,11,12,13,14,15,16,17,18,19] (n) (fun (i:Nat) a=>[(5,.int .i64 i),(1,.int .i64 (k + (1:Nat) * i))]) (fun i_ a_ h_ _=>(fun i (_:Unit) _=>True) i_ a_ h_) (()) (by simp) ?_ zT (Nat.le_refl _) ?_
 ·trivial
 ·intro i a tm h' n' hle hJ hE hn' next hnx
  try dsimp only at hJ
  have hK:KeepB nx h' h:=KeepB.sub hE zK (by omega)
  simp [-qt,-qd,-ql]
  have hlim0:=hlim
  simp only [LIM] at hlim
  by_cases hlt:i < n
  ·have hg:gt (yN zF1 1 k n) (i:Int) = zF1 (k + (1:Nat) * i):=zF8 hlt
   try simp [-qt,-qd,-ql,rgs,hg,iv,zF1,zH (x:=k + ((i:Int) + 1)) (by omega),Int.add_assoc]
   repeat' first | done | ((first | ((with_reducible show zU _ _ _ _ _ _);refine zB rfl fun _ => ?_) | ((with_reducible show zJ _ _ _ _ _ _ _);refine zC rfl omA omA ?_)) <;> simp [-qt,-qd,-ql,rgs,hg,iv,zF1,zH (x:=k + ((i:Int) + 1)) (by omega),Int.add_assoc]) | ((first | (with_reducible refine zA ?_ ?_)) <;> intro qb <;> (have qp:=qb;try simp only [psq] at qp) <;> simp [-qt,-qd,-ql,rgs,hg,iv,zF1,zH (x:=k + ((i:Int) + 1)) (by omega),Int.add_assoc,qb])
   all_goals first
   | omega
   | (refine hnx.go () ?_ ?_ ?_ ?_ ?_ ?_
      ·omega
      ·simp [zM hlt hlim0] <;> omega
      ·simp
      ·exact zK
      ·first | omega | (simp;omega)
      trivial)
   | trace_state
  ·have:i = n:=by omega
   subst this
   try simp [-qt,-qd,-ql,rgs,hlt]
   repeat' first | done | ((first | ((with_reducible show zU _ _ _ _ _ _);refine zB rfl fun _ => ?_) | ((with_reducible show zJ _ _ _ _ _ _ _);refine zC rfl omA omA ?_)) <;> simp [-qt,-qd,-ql,rgs,hlt]) | ((first | (with_reducible refine zA ?_ ?_)) <;> intro qb <;> (have qp:=qb;try simp only [psq] at qp) <;> simp [-qt,-qd,-ql,rgs,hlt,qb])
   all_goals (try clear hnx)
   all_goals first | (simp_all [];done) | (simp_all [];omega) | (rw [Bool.eq_iff_iff];simp_all [];done) | (rw [Bool.eq_iff_iff];simp_all [];omega) | omega | (simp only [];grind) | grind
theorem h_heldBoolS {p:Bool} {n:Nat} {k:Int} (hlim:n ≤ LIM) (h0:0 ≤ k) (h1:k ≤ 1152921504606846976):PC ctx.P 160 [.view p 1 ((yN zB7 1 k n).map bv),.int .i64 k] (.int .i64 (k + (1:Nat) * n)):=by
 refine PC.o okC Tryz.func160 rfl (.int _ _) fun h nx hnx => ?_
 try simp [-qt,-qd,-ql,rgs]
 repeat' first | done | ((first | ((with_reducible show zU _ _ _ _ _ _);refine zB rfl fun _ => ?_) | ((with_reducible show zJ _ _ _ _ _ _ _);refine zC rfl omA omA ?_)) <;> simp [-qt,-qd,-ql,rgs]) | ((first | (with_reducible refine zA ?_ ?_)) <;> intro qb <;> (have qp:=qb;try simp only [psq] at qp) <;> simp [-qt,-qd,-ql,rgs,qb])
 refine zW [1,4,5,6,7,8,9,10,11,12,13,14,15,16,17,18,19,20,21] (n) (fun (i:Nat) a=>[(5,.int .i64 i),(1,.int .i64 (k + (1:Nat) * i))]) (fun i_ a_ h_ _=>(fun i (_:Unit) _=>True) i_ a_ h_) (()) (by simp) ?_ zT (Nat.le_refl _) ?_
 ·trivial
 ·intro i a tm h' n' hle hJ hE hn' next hnx
  try dsimp only at hJ
  have hK:KeepB nx h' h:=KeepB.sub hE zK (by omega)
  simp [-qt,-qd,-ql]
  have hlim0:=hlim
  simp only [LIM] at hlim
  by_cases hlt:i < n
  ·have hg:gt (yN zB7 1 k n) (i:Int) = zB7 (k + (1:Nat) * i):=zF8 hlt
   try simp [-qt,-qd,-ql,rgs,hg,bv,zB7,zH (x:=k + ((i:Int) + 1)) (by omega),Int.add_assoc]
   repeat' first | done | ((first | ((with_reducible show zU _ _ _ _ _ _);refine zB rfl fun _ => ?_) | ((with_reducible show zJ _ _ _ _ _ _ _);refine zC rfl omA omA ?_)) <;> simp [-qt,-qd,-ql,rgs,hg,bv,zB7,zH (x:=k + ((i:Int) + 1)) (by omega),Int.add_assoc]) | ((first | (with_reducible refine zA ?_ ?_)) <;> intro qb <;> (have qp:=qb;try simp only [psq] at qp) <;> simp [-qt,-qd,-ql,rgs,hg,bv,zB7,zH (x:=k + ((i:Int) + 1)) (by omega),Int.add_assoc,qb])
   all_goals first
   | omega
   | (refine hnx.go () ?_ ?_ ?_ ?_ ?_ ?_
      ·omega
      ·simp [zM hlt hlim0] <;> omega
      ·simp
      ·exact zK
      ·first | omega | (simp;omega)
      trivial)
   | trace_state
  ·have:i = n:=by omega
   subst this
   try simp [-qt,-qd,-ql,rgs,hlt]
   repeat' first | done | ((first | ((with_reducible show zU _ _ _ _ _ _);refine zB rfl fun _ => ?_) | ((with_reducible show zJ _ _ _ _ _ _ _);refine zC rfl omA omA ?_)) <;> simp [-qt,-qd,-ql,rgs,hlt]) | ((first | (with_reducible refine zA ?_ ?_)) <;> intro qb <;> (have qp:=qb;try simp only [psq] at qp) <;> simp [-qt,-qd,-ql,rgs,hlt,qb])
   all_goals (try clear hnx)
   all_goals first | (simp_all [];done) | (simp_all [];omega) | (rw [Bool.eq_iff_iff];simp_all [];done) | (rw [Bool.eq_iff_iff];simp_all [];omega) | omega | (simp only [];grind) | grind
end Go.AE.Tryz
end
section
/- Contracts of the laws' marks of programs and groups. -/
set_option maxRecDepth 8000
set_option maxHeartbeats 4000000
namespace Go.AE.Tryz
open Go.Proofs
open List renaming map_take → qt,map_drop → qd,map_tail → ql
theorem m_markInsSS {id lo hi:Nat} {xs:List (List Inn)} {is:List Nat} {k:Int} (hl:is.length = xs.length) (hlim:xs.length ≤ LIM) (hli:∀ x ∈ xs,x.length ≤ LIM) (h0:0 ≤ k) (h1:k + 3 * zA9 (·.length) xs ≤ 1152921504606846976) (hn:id ∉ is) :
 AC ctx.P 63 [.ref id 1 0 xs.length,.int .i64 k] (fun h _=>h id = some (.row 1 (List.zipWith prgR xs is)) ∧ Subs h 3 (fun x:List Inn=>x.map uC) xs is lo hi)
 (fun h nx v h' nx'=>v = .int .i64 (k + 3 * zA9 (·.length) xs) ∧ Subs h' 3 (fun x:List Inn=>x.map uC) (uG xs k) is lo hi ∧ ∀ j,j < nx → j ∉ is → h' j = h j):=by
 refine AC.o okC Tryz.func63 rfl fun h nx hfr hnx hpre => ?_
 obtain ⟨hp1,hp2⟩:=hpre
 have hid:id < nx:=hnx id (by rw [hp1];simp)
 have hisn:∀ j ∈ is,j < nx:=by
  intro j hj
  obtain ⟨m,hm,rfl⟩:=List.getElem_of_mem hj
  exact hnx _ (by rw [hp2.row m (xs[m]'(by omega)) is[m] (List.getElem?_eq_getElem (by omega)) (List.getElem?_eq_getElem hm)];simp)
 try simp [-qt,-qd,-ql,rgs]
 repeat' first | done | ((first | ((with_reducible show zU _ _ _ _ _ _);refine zB rfl fun _ => ?_) | ((with_reducible show zJ _ _ _ _ _ _ _);refine zC rfl omA omA ?_)) <;> simp [-qt,-qd,-ql,rgs]) | ((first | (with_reducible refine zA ?_ ?_)) <;> intro qb <;> (have qp:=qb;try simp only [psq] at qp) <;> simp [-qt,-qd,-ql,rgs,qb])
 refine zW (h0:=h) (nx0:=0) [1,5,6,7,8,9,10,11,12,13,14,15,16,17] (xs.length) (fun (i:Nat) a=>[(5,.int .i64 i),(1,.int .i64 (k + 3 * zA9 (·.length) (xs.take i)))]) (fun i (_:Unit) h' n'=>Subs h' 3 (fun x:List Inn=>x.map uC) (zK5 xs k i) is lo hi ∧ (∀ j,j < nx → j ∉ is → h' j = h j) ∧ nx ≤ n') (()) (by simp) ?_ (fun j hj=>absurd hj (by omega)) (Nat.zero_le _) ?_
 ·simp [zK5,uG,zA9,hp2]
 ·intro i a tm h' n' hle hJ hE hn' next hnx
  try dsimp only at hJ
  simp [-qt,-qd,-ql]
  obtain ⟨hJ,hJf,hJn⟩:=hJ
  have hrow:h' id = some (.row 1 (List.zipWith prgR xs is)):=by rw [hJf id hid hn];exact hp1
  by_cases hlt:i < xs.length
  ·have hz:(List.zipWith prgR xs is)[i]? = some [.ref is[i] 3 0 xs[i].length]:=by rw [List.getElem?_zipWith,List.getElem?_eq_getElem hlt,List.getElem?_eq_getElem (by omega)];rfl
   try simp [-qt,-qd,-ql,rgs,hrow]
   repeat' first | done | ((first | ((with_reducible show zU _ _ _ _ _ _);refine zB rfl fun _ => ?_) | ((with_reducible show zJ _ _ _ _ _ _ _);refine zC rfl omA omA ?_) | (((with_reducible show zJ _ _ _ _ (.ref _ _ _ _) _ _);refine yY rfl (by omega) (by omega) ?_)) | (((with_reducible show loadE _ _ _ _ _ _ _ _);refine loadE_row hz ?_))) <;> simp [-qt,-qd,-ql,rgs,hrow]) | ((first | (with_reducible refine zA ?_ ?_)) <;> intro qb <;> (have qp:=qb;try simp only [psq] at qp) <;> simp [-qt,-qd,-ql,rgs,hrow,qb])
   have hb:=zB0 (·.length) xs i
   have hb2:=zM2 (·.length) xs i hlt
   refine yX (m_markInsS (id:=is[i]) (xs:=xs[i]) (k:=k + 3 * zA9 (·.length) (xs.take i)) (hli _ (List.getElem_mem hlt)) (by omega) (by omega)) (hJ.row i xs[i] is[i] (mkUpto_get hlt) (List.getElem?_eq_getElem (by omega))) ?_
   rintro r h2 n2 ⟨rfl,hq,hqf⟩ hle2 hfr2
   dsimp only at hq hqf hle2
   try simp [-qt,-qd,-ql,rgs]
   repeat' first | done | ((first | ((with_reducible show zU _ _ _ _ _ _);refine zB rfl fun _ => ?_) | ((with_reducible show zJ _ _ _ _ _ _ _);refine zC rfl omA omA ?_)) <;> simp [-qt,-qd,-ql,rgs]) | ((first | (with_reducible refine zA ?_ ?_)) <;> intro qb <;> (have qp:=qb;try simp only [psq] at qp) <;> simp [-qt,-qd,-ql,rgs,qb])
   refine hnx.go () ?_ ?_ ?_ ?_ ?_ ?_
   ·omega
   ·simp [zM hlt hlim];omega
   ·simp
   ·exact fun j hj=>absurd hj (by omega)
   ·exact Nat.zero_le _
   try dsimp only
   refine ⟨?_,fun j hj hji => ?_,by omega⟩
   ·rw [mkUpto_succ hlt]
    exact hJ.set (List.getElem?_eq_getElem (by omega)) hq fun j hj hne=>hqf j (by have:=hisn j hj;omega) hne
   ·rw [hqf j (by omega) (fun e=>hji (e ▸ List.getElem_mem (by omega)))]
    exact hJf j hj hji
   exact absurd hlt (by omega)
  ·try simp [-qt,-qd,-ql,rgs,hrow,hlt]
   repeat' first | done | ((first | ((with_reducible show zU _ _ _ _ _ _);refine zB rfl fun _ => ?_) | ((with_reducible show zJ _ _ _ _ _ _ _);refine zC rfl omA omA ?_)) <;> simp [-qt,-qd,-ql,rgs,hrow,hlt]) | ((first | (with_reducible refine zA ?_ ?_)) <;> intro qb <;> (have qp:=qb;try simp only [psq] at qp) <;> simp [-qt,-qd,-ql,rgs,hrow,hlt,qb])
   have e1:xs.take i = xs:=List.take_of_length_le (by omega)
   have e2:zK5 xs k i = uG xs k:=by rw [zK5,e1,List.drop_eq_nil_of_le (by omega),List.append_nil]
   rw [e2] at hJ
   exact ⟨by rw [e1],hJ,hJf⟩
end Go.AE.Tryz
end
section
/- Contracts of the laws' marks of groups. -/
set_option maxRecDepth 8000
set_option maxHeartbeats 4000000
namespace Go.AE.Tryz
open Go.Proofs
open List renaming map_take → qt,map_drop → qd,map_tail → ql
theorem m_markGroupS {id lo hi:Nat} {xs:List Grp} {is:List Nat} {k:Int} (hl:is.length = xs.length) (hlim:xs.length ≤ LIM) (hli:∀ x ∈ xs,x.waits.length ≤ LIM) (h0:0 ≤ k) (h1:k + zA9 gsz xs ≤ 1152921504606846976) (hn:id ∉ is) :
 AC ctx.P 70 [.ref id 5 0 xs.length,.int .i64 k] (fun h _=>h id = some (.row 5 (List.zipWith uB xs is)) ∧ Subs h 1 (fun x:Grp=>x.waits.map iv) xs is lo hi)
 (fun h nx v h' nx'=>v = .int .i64 (k + zA9 gsz xs) ∧ h' id = some (.row 5 (List.zipWith uB (zE5 xs k) is)) ∧ Subs h' 1 (fun x:Grp=>x.waits.map iv) (zE5 xs k) is lo hi ∧ ∀ j,j < nx → j ∉ is → j ≠ id → h' j = h j):=by
 refine AC.o okC Tryz.func70 rfl fun h nx hfr hnx hpre => ?_
 obtain ⟨hp1,hp2⟩:=hpre
 have hid:id < nx:=hnx id (by rw [hp1];simp)
 have hisn:∀ j ∈ is,j < nx:=by
  intro j hj
  obtain ⟨m,hm,rfl⟩:=List.getElem_of_mem hj
  exact hnx _ (by rw [hp2.row m (xs[m]'(by omega)) is[m] (List.getElem?_eq_getElem (by omega)) (List.getElem?_eq_getElem hm)];simp)
 try simp [-qt,-qd,-ql,rgs]
 repeat' first | done | ((first | ((with_reducible show zU _ _ _ _ _ _);refine zB rfl fun _ => ?_) | ((with_reducible show zJ _ _ _ _ _ _ _);refine zC rfl omA omA ?_)) <;> simp [-qt,-qd,-ql,rgs]) | ((first | (with_reducible refine zA ?_ ?_)) <;> intro qb <;> (have qp:=qb;try simp only [psq] at qp) <;> simp [-qt,-qd,-ql,rgs,qb])
 refine zW (h0:=h) (nx0:=0) [1,5,6,7,8,9,10,11,12,13,14,15,16,17,18,19,20,21,22,23,24,25,26,27,28,29,30,31,32,33,34,35,36,37,38,39,40,41,42,43,44,45,46] (xs.length) (fun (i:Nat) a=>[(5,.int .i64 i),(1,.int .i64 (k + zA9 gsz (xs.take i)))]) (fun i (_:Unit) h' n'=>h' id = some (.row 5 (List.zipWith uB (zL1 xs k i) is)) ∧ Subs h' 1 (fun x:Grp=>x.waits.map iv) (zL1 xs k i) is lo hi ∧ (∀ j,j < nx → j ∉ is → j ≠ id → h' j = h j) ∧ nx ≤ n') (()) (by simp) ?_ (fun j hj=>absurd hj (by omega)) (Nat.zero_le _) ?_
 ·simp [zL1,zE5,hp1,hp2]
 ·intro i a tm h' n' hle hJ hE hn' next hnx
  try dsimp only at hJ
  simp [-qt,-qd,-ql]
  obtain ⟨hR,hJ,hJf,hJn⟩:=hJ
  by_cases hlt:i < xs.length
  ·have hii:is[i]? = some is[i]:=List.getElem?_eq_getElem (by omega)
   have hz:(List.zipWith uB (zL1 xs k i) is)[i]? = some (uB xs[i] is[i]):=by rw [List.getElem?_zipWith,gUpto_get hlt,hii]
   have hRl:(List.zipWith uB (zL1 xs k i) is).length = xs.length:=by rw [List.length_zipWith,gUpto_len (by omega)];omega
   have hb:=zB0 gsz xs i
   have hb2:=zM2 gsz xs i hlt
   have hb3:=zB0 gsz xs (i + 1)
   have hg:gsz xs[i] = 4 + xs[i].waits.length:=rfl
   rw [set_self hz] at hR
   generalize hkk:k + (zA9 gsz (xs.take i):Int) = kk at *
   try simp [-qt,-qd,-ql,rgs,hR,uB,zH (x:=kk + 1) (by omega),zH (x:=kk + 1 + 1) (by omega),zH (x:=kk + 1 + 1 + 1) (by omega)]
   repeat' first | done | ((first | ((with_reducible show zU _ _ _ _ _ _);refine zB rfl fun _ => ?_) | ((with_reducible show zJ _ _ _ _ _ _ _);refine zC rfl omA omA ?_) | (((with_reducible show zJ _ _ _ _ (.ref _ _ _ _) _ _);refine yY rfl (by omega) (by omega) ?_)) | (((with_reducible show loadE _ _ _ _ _ _ _ _);refine loadE_row (List.getElem?_set_self (by omega)) ?_)) | (((with_reducible show uF _ _ _ _ _ _ _ _ _);refine uP (xs:=List.zipWith uB (zL1 xs k i) is) (by first | exact hR | exact zL _ _ _) (by omega) rfl rfl (by omega) ?_))) <;> simp [-qt,-qd,-ql,rgs,hR,uB,zH (x:=kk + 1) (by omega),zH (x:=kk + 1 + 1) (by omega),zH (x:=kk + 1 + 1 + 1) (by omega)]) | ((first | (with_reducible refine zA ?_ ?_)) <;> intro qb <;> (have qp:=qb;try simp only [psq] at qp) <;> simp [-qt,-qd,-ql,rgs,hR,uB,zH (x:=kk + 1) (by omega),zH (x:=kk + 1 + 1) (by omega),zH (x:=kk + 1 + 1 + 1) (by omega),qb])
   have hne:is[i] ≠ id:=fun e=>hn (e ▸ List.getElem_mem (by omega))
   have hw:=hJ.row i xs[i] is[i] (gUpto_get hlt) hii
   refine yX (zG2 (id:=is[i]) (xs:=xs[i].waits) (k:=kk + 1 + 1 + 1) (hli _ (List.getElem_mem hlt)) (by omega) (by omega)) (by simp [hne,hw]) ?_
   rintro r h2 n2 ⟨rfl,hq,hqf⟩ hle2 hfr2
   dsimp only at hq hqf hle2
   have hR2:=hqf id (by omega) (Ne.symm hne)
   simp at hR2
   try simp [-qt,-qd,-ql,rgs,hR2,zH (x:=kk + 1 + 1 + 1 + (xs[i].waits.length:Int) + 1) (by omega)]
   repeat' first | done | ((first | ((with_reducible show zU _ _ _ _ _ _);refine zB rfl fun _ => ?_) | ((with_reducible show zJ _ _ _ _ _ _ _);refine zC rfl omA omA ?_) | (((with_reducible show zJ _ _ _ _ (.ref _ _ _ _) _ _);refine yY rfl (by omega) (by omega) ?_)) | (((with_reducible show uF _ _ _ _ _ _ _ _ _);refine uP (xs:=List.zipWith uB (zL1 xs k i) is) hR2 (by omega) rfl rfl (by omega) ?_))) <;> simp [-qt,-qd,-ql,rgs,hR2,zH (x:=kk + 1 + 1 + 1 + (xs[i].waits.length:Int) + 1) (by omega)]) | ((first | (with_reducible refine zA ?_ ?_)) <;> intro qb <;> (have qp:=qb;try simp only [psq] at qp) <;> simp [-qt,-qd,-ql,rgs,hR2,zH (x:=kk + 1 + 1 + 1 + (xs[i].waits.length:Int) + 1) (by omega),qb])
   refine hnx.go () ?_ ?_ ?_ ?_ ?_ ?_
   ·omega
   ·simp [zM hlt hlim];omega
   ·simp
   ·exact fun j hj=>absurd hj (by omega)
   ·exact Nat.zero_le _
   try dsimp only
   have hkeep:∀ j,j < nx → j ≠ id → j ≠ is[i] → h2 j = h' j:=fun j hj hj1 hj2=>by
    rw [hqf j (by omega) hj2]
    simp [hj1]
   refine ⟨?_,?_,fun j hj hji hj2 => ?_,by omega⟩
   ·rw [gUpto_succ hlt,hkk,zip_set _ _ _ _ _ hii]
    simp [uB,mkGrp,Int.add_assoc]
   ·rw [gUpto_succ hlt,hkk]
    refine hJ.set hii ?_ fun j hj hne2 => ?_
    ·simp [hne,mkGrp]
     rw [show (kk + 3:Int) = kk + 1 + 1 + 1 by omega]
     exact hq
    ·have hjid:j ≠ id:=fun e=>hn (e ▸ hj)
     simp [hjid]
     exact hkeep j (hisn j hj) hjid hne2
   ·simp [hj2]
    rw [hkeep j hj hj2 (fun e=>hji (e ▸ List.getElem_mem (by omega)))]
    exact hJf j hj hji hj2
   exact absurd hlt (by omega)
  ·try simp [-qt,-qd,-ql,rgs,hR,hlt]
   repeat' first | done | ((first | ((with_reducible show zU _ _ _ _ _ _);refine zB rfl fun _ => ?_) | ((with_reducible show zJ _ _ _ _ _ _ _);refine zC rfl omA omA ?_)) <;> simp [-qt,-qd,-ql,rgs,hR,hlt]) | ((first | (with_reducible refine zA ?_ ?_)) <;> intro qb <;> (have qp:=qb;try simp only [psq] at qp) <;> simp [-qt,-qd,-ql,rgs,hR,hlt,qb])
   have e1:xs.take i = xs:=List.take_of_length_le (by omega)
   have e2:zL1 xs k i = zE5 xs k:=by rw [zL1,e1,List.drop_eq_nil_of_le (by omega),List.append_nil]
   rw [e2] at hJ
   exact ⟨by rw [e1],by rw [e2],hJ,hJf⟩
end Go.AE.Tryz
end
section
/- Contracts of the laws' marks of a world's parts. -/
set_option maxRecDepth 8000
set_option maxHeartbeats 4000000
namespace Go.AE.Tryz
open Go.Proofs
open List renaming map_take → qt,map_drop → qd,map_tail → ql
theorem m_markSpread {ia ib:Nat} {told:List Bool} {work:List Int} {k:Int} (hab:ia ≠ ib) (hl1:told.length ≤ LIM) (hl2:work.length ≤ LIM) (h0:0 ≤ k) (h1:k + (told.length:Int) + (work.length:Int) ≤ 1152921504606846976) :
 AC ctx.P 66 [.agg [.ref ia 1 0 told.length,.ref ib 1 0 work.length],.int .i64 k] (fun h _=>h ia = some (.row 1 (told.map bv)) ∧ h ib = some (.row 1 (work.map iv)))
 (fun h nx v h' nx'=>v = .int .i64 (k + (told.length:Int) + (work.length:Int)) ∧ h' ia = some (.row 1 ((yN zB7 1 k told.length).map bv)) ∧ h' ib = some (.row 1 ((yN zF1 1 (k + (told.length:Int)) work.length).map iv)) ∧ ∀ j,j < nx → j ≠ ia → j ≠ ib → h' j = h j):=by
 refine AC.o okC Tryz.func66 rfl fun h nx hfr hnx hpre => ?_
 obtain ⟨p1,p2⟩:=hpre
 have i1:ia < nx:=hnx ia (by rw [p1];simp)
 have i2:ib < nx:=hnx ib (by rw [p2];simp)
 have k1:∀ k,(ia = nx + k) = False:=fun k=>by simp only [eq_iff_iff,iff_false];omega
 have k2:∀ k,(ib = nx + k) = False:=fun k=>by simp only [eq_iff_iff,iff_false];omega
 have k3:(ia = nx) = False:=by simp only [eq_iff_iff,iff_false];omega
 have k4:(ib = nx) = False:=by simp only [eq_iff_iff,iff_false];omega
 try simp [-qt,-qd,-ql,rgs,k1,k2,k3,k4]
 refine yX (m_markBoolS (id:=ia) (xs:=told) (k:=k) hl1 h0 (by omega)) (by simp [k1,k3,p1]) ?_
 rintro r h2 n2 ⟨rfl,hq,hqf⟩ hle2 hfr2
 dsimp only at hq hqf hle2
 have g0:=hqf nx (by omega) (by omega)
 have g2:=hqf ib (by omega) (by omega)
 simp [k2,k4,p2] at g0 g2
 try simp [-qt,-qd,-ql,rgs,g0,g2]
 refine yX (zG2 (id:=ib) (xs:=work) (k:=k + (told.length:Int)) hl2 (by omega) (by omega)) g2 ?_
 rintro r h3 n3 ⟨rfl,hq3,hqf3⟩ hle3 hfr3
 dsimp only at hq3 hqf3 hle3
 have g3:=hqf3 ia (by omega) hab
 rw [hq] at g3
 try simp [-qt,-qd,-ql,rgs]
 refine ⟨by simpa using g3,by simpa using hq3,fun j hj ha hb => ?_⟩
 rw [hqf3 j (by omega) hb,hqf j (by omega) ha]
 first | rfl | (rw [zI _ _ _ _ (by omega)])
theorem m_markSlots {ia ib:Nat} {ages:List Int} {used:List Bool} {k:Int} (hab:ia ≠ ib) (hl1:ages.length ≤ LIM) (hl2:used.length ≤ LIM) (h0:0 ≤ k) (h1:k + (ages.length:Int) + (used.length:Int) ≤ 1152921504606846976) :
 AC ctx.P 157 [.agg [.ref ia 1 0 ages.length,.ref ib 1 0 used.length],.int .i64 k] (fun h _=>h ia = some (.row 1 (ages.map iv)) ∧ h ib = some (.row 1 (used.map bv)))
 (fun h nx v h' nx'=>v = .int .i64 (k + (ages.length:Int) + (used.length:Int)) ∧ h' ia = some (.row 1 ((yN zF1 1 k ages.length).map iv)) ∧ h' ib = some (.row 1 ((yN zB7 1 (k + (ages.length:Int)) used.length).map bv)) ∧ ∀ j,j < nx → j ≠ ia → j ≠ ib → h' j = h j):=by
 refine AC.o okC Tryz.func157 rfl fun h nx hfr hnx hpre => ?_
 obtain ⟨p1,p2⟩:=hpre
 have i1:ia < nx:=hnx ia (by rw [p1];simp)
 have i2:ib < nx:=hnx ib (by rw [p2];simp)
 have k1:∀ k,(ia = nx + k) = False:=fun k=>by simp only [eq_iff_iff,iff_false];omega
 have k2:∀ k,(ib = nx + k) = False:=fun k=>by simp only [eq_iff_iff,iff_false];omega
 have k3:(ia = nx) = False:=by simp only [eq_iff_iff,iff_false];omega
 have k4:(ib = nx) = False:=by simp only [eq_iff_iff,iff_false];omega
 try simp [-qt,-qd,-ql,rgs,k1,k2,k3,k4]
 refine yX (zG2 (id:=ia) (xs:=ages) (k:=k) hl1 h0 (by omega)) (by simp [k1,k3,p1]) ?_
 rintro r h2 n2 ⟨rfl,hq,hqf⟩ hle2 hfr2
 dsimp only at hq hqf hle2
 have g0:=hqf nx (by omega) (by omega)
 have g2:=hqf ib (by omega) (by omega)
 simp [k2,k4,p2] at g0 g2
 try simp [-qt,-qd,-ql,rgs,g0,g2]
 refine yX (m_markBoolS (id:=ib) (xs:=used) (k:=k + (ages.length:Int)) hl2 (by omega) (by omega)) g2 ?_
 rintro r h3 n3 ⟨rfl,hq3,hqf3⟩ hle3 hfr3
 dsimp only at hq3 hqf3 hle3
 have g3:=hqf3 ia (by omega) hab
 rw [hq] at g3
 try simp [-qt,-qd,-ql,rgs]
 refine ⟨by simpa using g3,by simpa using hq3,fun j hj ha hb => ?_⟩
 rw [hqf3 j (by omega) hb,hqf j (by omega) ha]
 first | rfl | (rw [zI _ _ _ _ (by omega)])
theorem m_markTimers {ia ib:Nat} {hp:List Twg} {lst:List Tmr} {z:Int} {k:Int} (hab:ia ≠ ib) (hl1:hp.length ≤ LIM) (hl2:lst.length ≤ LIM) (h0:0 ≤ k) (h1:k + (3:Nat) * hp.length + (5:Nat) * lst.length ≤ 1152921504606846976) :
 AC ctx.P 67 [.agg [.ref ia 3 0 hp.length,.ref ib 5 0 lst.length,.int .i64 z],.int .i64 k] (fun h _=>h ia = some (.row 3 (hp.map yQ)) ∧ h ib = some (.row 5 (lst.map vJ)))
 (fun h nx v h' nx'=>v = .int .i64 (k + (3:Nat) * hp.length + (5:Nat) * lst.length) ∧ h' ia = some (.row 3 ((yN zL9 3 k hp.length).map yQ)) ∧ h' ib = some (.row 5 ((yN zL6 5 (k + (3:Nat) * hp.length) lst.length).map vJ)) ∧ ∀ j,j < nx → j ≠ ia → j ≠ ib → h' j = h j):=by
 refine AC.o okC Tryz.func67 rfl fun h nx hfr hnx hpre => ?_
 obtain ⟨p1,p2⟩:=hpre
 have i1:ia < nx:=hnx ia (by rw [p1];simp)
 have i2:ib < nx:=hnx ib (by rw [p2];simp)
 have k1:∀ k,(ia = nx + k) = False:=fun k=>by simp only [eq_iff_iff,iff_false];omega
 have k2:∀ k,(ib = nx + k) = False:=fun k=>by simp only [eq_iff_iff,iff_false];omega
 have k3:(ia = nx) = False:=by simp only [eq_iff_iff,iff_false];omega
 have k4:(ib = nx) = False:=by simp only [eq_iff_iff,iff_false];omega
 try simp [-qt,-qd,-ql,rgs,k1,k2,k3,k4]
 refine yX (m_markTwigS (id:=ia) (xs:=hp) (k:=k) hl1 h0 (by omega)) (by simp [k1,k3,p1]) ?_
 rintro r h2 n2 ⟨rfl,hq,hqf⟩ hle2 hfr2
 dsimp only at hq hqf hle2
 have g0:=hqf nx (by omega) (by omega)
 have g2:=hqf ib (by omega) (by omega)
 simp [k2,k4,p2] at g0 g2
 try simp [-qt,-qd,-ql,rgs,g0,g2]
 refine yX (m_markTimerS (id:=ib) (xs:=lst) (k:=k + (3:Nat) * hp.length) hl2 (by omega) (by omega)) g2 ?_
 rintro r h3 n3 ⟨rfl,hq3,hqf3⟩ hle3 hfr3
 dsimp only at hq3 hqf3 hle3
 have g3:=hqf3 ia (by omega) hab
 rw [hq] at g3
 try simp [-qt,-qd,-ql,rgs]
 refine ⟨by simpa using g3,by simpa using hq3,fun j hj ha hb => ?_⟩
 rw [hqf3 j (by omega) hb,hqf j (by omega) ha]
 first | rfl | (rw [zI _ _ _ _ (by omega)])
theorem m_markAfters {ia ib ic:Nat} {ages:List Int} {used:List Bool} {lst:List Afr} {k:Int} (hab:ia ≠ ib) (hac:ia ≠ ic) (hbc:ib ≠ ic) (hl1:ages.length ≤ LIM) (hl2:used.length ≤ LIM) (hl3:lst.length ≤ LIM) (h0:0 ≤ k) (h1:k + (ages.length:Int) + (used.length:Int) + (5:Nat) * lst.length ≤ 1152921504606846976) :
 AC ctx.P 68 [.agg [.ref ia 1 0 ages.length,.ref ib 1 0 used.length,.ref ic 5 0 lst.length],.int .i64 k] (fun h _=>h ia = some (.row 1 (ages.map iv)) ∧ h ib = some (.row 1 (used.map bv)) ∧ h ic = some (.row 5 (lst.map vO)))
 (fun h nx v h' nx'=>v = .int .i64 (k + (ages.length:Int) + (used.length:Int) + (5:Nat) * lst.length) ∧ h' ia = some (.row 1 ((yN zF1 1 k ages.length).map iv)) ∧ h' ib = some (.row 1 ((yN zB7 1 (k + (ages.length:Int)) used.length).map bv)) ∧
   h' ic = some (.row 5 ((yN zL7 5 (k + (ages.length:Int) + (used.length:Int)) lst.length).map vO)) ∧ ∀ j,j < nx → j ≠ ia → j ≠ ib → j ≠ ic → h' j = h j):=by
 refine AC.o okC Tryz.func68 rfl fun h nx hfr hnx hpre => ?_
 obtain ⟨p1,p2,p3⟩:=hpre
 have i1:ia < nx:=hnx ia (by rw [p1];simp)
 have i2:ib < nx:=hnx ib (by rw [p2];simp)
 have i3:ic < nx:=hnx ic (by rw [p3];simp)
 have k1:∀ k,(ia = nx + k) = False:=fun k=>by simp only [eq_iff_iff,iff_false];omega
 have k2:∀ k,(ib = nx + k) = False:=fun k=>by simp only [eq_iff_iff,iff_false];omega
 have k5:∀ k,(ic = nx + k) = False:=fun k=>by simp only [eq_iff_iff,iff_false];omega
 have k3:(ia = nx) = False:=by simp only [eq_iff_iff,iff_false];omega
 have k4:(ib = nx) = False:=by simp only [eq_iff_iff,iff_false];omega
 have k6:(ic = nx) = False:=by simp only [eq_iff_iff,iff_false];omega
 try simp [-qt,-qd,-ql,rgs,k1,k2,k3,k4,k5,k6]
 refine yX (m_markSlots (ia:=ia) (ib:=ib) (ages:=ages) (used:=used) (k:=k) hab hl1 hl2 h0 (by omega)) ⟨by simp [k1,k3,p1],by simp [k2,k4,p2]⟩ ?_
 rintro r h2 n2 ⟨rfl,hqa,hqb,hqf⟩ hle2 hfr2
 dsimp only at hqa hqb hqf hle2
 have g0:=hqf nx (by omega) (by omega) (by omega)
 have g2:=hqf ic (by omega) (by omega) (by omega)
 simp [k5,k6,p3] at g0 g2
 try simp [-qt,-qd,-ql,rgs,g0,g2]
 refine yX (m_markAfterS (id:=ic) (xs:=lst) (k:=k + (ages.length:Int) + (used.length:Int)) hl3 (by omega) (by omega)) g2 ?_
 rintro r h3 n3 ⟨rfl,hq3,hqf3⟩ hle3 hfr3
 dsimp only at hq3 hqf3 hle3
 have g3:=hqf3 ia (by omega) hac
 have g4:=hqf3 ib (by omega) hbc
 rw [hqa] at g3
 rw [hqb] at g4
 try simp [-qt,-qd,-ql,rgs]
 refine ⟨by simpa using g3,by simpa using g4,by simpa using hq3,fun j hj ha hb hc => ?_⟩
 rw [hqf3 j (by omega) hc,hqf j (by omega) ha hb]
 first | rfl | (rw [zI _ _ _ _ (by omega)])
end Go.AE.Tryz
end
section
/- Contracts of the laws' marks of a world. -/
set_option maxRecDepth 8000
set_option maxHeartbeats 4000000
namespace Go.AE.Tryz
open Go.Proofs
open List renaming map_take → qt,map_drop → qd,map_tail → ql
def kT (w:Wld) (k:Int):Int:=k + 3 * (zA9 (·.length) w.progs:Int)
def kE (w:Wld) (k:Int):Int:=kT w k + (5:Nat) * (w.tree.length:Int)
def kS (w:Wld) (k:Int):Int:=kE w k + (4:Nat) * (w.events.length:Int)
def kW (w:Wld) (k:Int):Int:=kS w k + (w.spread.told.length:Int)
def kH (w:Wld) (k:Int):Int:=kW w k + (w.spread.work.length:Int)
def kL (w:Wld) (k:Int):Int:=kH w k + (3:Nat) * (w.timers.heap.length:Int)
def kA (w:Wld) (k:Int):Int:=kL w k + (5:Nat) * (w.timers.list.length:Int)
def kU (w:Wld) (k:Int):Int:=kA w k + (w.afters.slots.ages.length:Int)
def kF (w:Wld) (k:Int):Int:=kU w k + (w.afters.slots.used.length:Int)
def kK (w:Wld) (k:Int):Int:=kF w k + (5:Nat) * (w.afters.list.length:Int)
def kG (w:Wld) (k:Int):Int:=kK w k + (9:Nat) * (w.tasks.length:Int)
def kV (w:Wld) (k:Int):Int:=kG w k + (zA9 gsz w.groups:Int)
def kB (w:Wld) (k:Int):Int:=kV w k + (4:Nat) * (w.sights.length:Int)
def kR (w:Wld) (k:Int):Int:=kB w k + (1:Nat) * (w.began.length:Int)
def kZ (w:Wld) (k:Int):Int:=kR w k + (1:Nat) * (w.rang.length:Int)
def mkSpr (w:Wld) (k:Int):Spr:=⟨yN zB7 1 (kS w k) w.spread.told.length,yN zF1 1 (kW w k) w.spread.work.length⟩
def mkTms (w:Wld) (k:Int):Tms:=⟨yN zL9 3 (kH w k) w.timers.heap.length,yN zL6 5 (kL w k) w.timers.list.length,w.timers.next⟩
def mkAfs (w:Wld) (k:Int):Afs:=⟨⟨yN zF1 1 (kA w k) w.afters.slots.ages.length,yN zB7 1 (kU w k) w.afters.slots.used.length⟩,yN zL7 5 (kF w k) w.afters.list.length⟩
def mkWld (w:Wld) (k:Int):Wld:=⟨w.now,uG w.progs k,yN mkNod 5 (kT w k) w.tree.length,yN mkEvt 4 (kE w k) w.events.length,mkSpr w k,mkTms w k,mkAfs w k,yN mkTsk 9 (kK w k) w.tasks.length,zE5 w.groups (kG w k),yN mkSgt 4 (kV w k) w.sights.length,yN zF1 1 (kB w k) w.began.length,yN zF1 1 (kR w k) w.rang.length⟩
theorem lsum_gsz:∀ (l:List Grp),zA9 gsz l = 4 * l.length + zA9 (·.waits.length) l
 | []=>rfl
 | g :: l=>by simp only [zA9,lsum_gsz l,List.length_cons,gsz];omega
theorem m_markWorld {X:WI} {w:Wld} {k:Int} (hs:zC9 w ≤ 1048576) (h0:0 ≤ k) (h1:k ≤ 1048576):AC ctx.P 13 [.agg (vN X w),.int .i64 k] (fun h _=>WV h X w)
 (fun h nx v h' nx'=>v = .int .i64 (kZ w k) ∧ WV h' X (mkWld w k) ∧ ∀ j,j < nx → j ∉ X.ids → h' j = h j):=by
 simp only [zC9,afssz,tmssz,sprsz,sltsz] at hs
 have hm:LIM = 140737488355328:=rfl
 have hgz:=lsum_gsz w.groups
 refine AC.o okC Tryz.func13 rfl fun h nx hfr hnx hpre => ?_
 have hin:∀ j ∈ X.ids,j < nx:=hpre.lt hnx
 have hinn:nx ∉ X.ids:=fun hj=>by have:=hin nx hj;omega
 try simp [-qt,-qd,-ql,rgs,vN]
 have V0:WV (upd h nx (some (.obj (vN X w)))) X w:=hpre.keep fun id hid=>zI _ _ _ _ (by have:=hin id hid;omega)
 have g0:upd h nx (some (.obj (vN X w))) nx = some (.obj (vN X w)):=zL ..
 have Fr0:∀ j,j < nx → j ∉ X.ids → upd h nx (some (.obj (vN X w))) j = h j:=fun j hj _=>zI _ _ _ _ (by omega)
 simp only [vN] at V0 g0 Fr0
 refine yX (m_markInsSS (id:=X.top 0) (lo:=0) (hi:=nx) (xs:=w.progs) (is:=X.pg) (k:=k) V0.pl (by omega) (fun x hx=>by have:=zD0 (·.length) hx;omega) h0 (by omega) (V0.top_pg (by omega))) ⟨V0.top 0 (by omega),V0.subsP hin⟩ ?_
 rintro r h1 n1 ⟨hv1,q1,f1⟩ hle1 hfr1
 dsimp only at q1 f1 hle1
 obtain ⟨k1,hk1⟩:∃ y:Int,y = k + 3 * (zA9 (·.length) w.progs:Int):=⟨_,rfl⟩
 rw [← hk1] at hv1
 subst hv1
 have V1:WV h1 X { w with progs:=uG w.progs k }:=V0.setProgs q1 (vP _ _) (by rw [f1 _ (by have:=hin _ (WI.top_mem (X:=X) (k:=0) (by omega));omega) (V0.top_pg (by omega)),V0.top 0 (by omega)];simp only [zH5,zip_mkProgs]) (fun k hk hne=>by rcases lt15 hk with rfl | rfl | rfl | rfl | rfl | rfl | rfl | rfl | rfl | rfl | rfl | rfl | rfl | rfl | rfl <;> first | exact absurd rfl hne | rfl) rfl (fun j hj hn _=>f1 j (by have:=hin j hj;omega) hn)
 have g1:=f1 nx (by omega) (fun e=>hinn (WI.pg_mem e))
 rw [g0] at g1
 have Fr1:∀ j,j < nx → j ∉ X.ids → h1 j = h j:=fun j hj hn=>(f1 j (by omega) (fun e=>hn (WI.pg_mem e))).trans (Fr0 j hj hn)
 clear hfr1
 try simp [-qt,-qd,-ql,rgs,g1]
 refine yX (m_markNodeS (id:=X.top 1) (xs:=w.tree) (k:=k1) (by omega) (by omega) (by omega)) (V1.top 1 (by omega)) ?_
 rintro r h2 n2 ⟨hv2,q2_0,f2⟩ hle2 hfr2
 dsimp only at q2_0 f2 hle2
 obtain ⟨k2,hk2⟩:∃ y:Int,y = k1 + (5:Nat) * (w.tree.length:Int):=⟨_,rfl⟩
 rw [← hk2] at hv2
 subst hv2
 have V2:=V1.setTree q2_0 (fun j hj hn=>f2 j (by have:=hin j hj;omega) hn)
 have g2:=f2 nx (by omega) (fun e=>hinn (e ▸ WI.top_mem (X:=X) (k:=1) (by omega)))
 rw [g1] at g2
 have Fr2:∀ j,j < nx → j ∉ X.ids → h2 j = h j:=fun j hj hn=>(f2 j (by omega) (fun e=>hn (e ▸ WI.top_mem (X:=X) (k:=1) (by omega)))).trans (Fr1 j hj hn)
 clear hfr2
 try simp [-qt,-qd,-ql,rgs,g2]
 refine yX (m_markEventS (id:=X.top 2) (xs:=w.events) (k:=k2) (by omega) (by omega) (by omega)) (V2.top 2 (by omega)) ?_
 rintro r h3 n3 ⟨hv3,q3_0,f3⟩ hle3 hfr3
 dsimp only at q3_0 f3 hle3
 obtain ⟨k3,hk3⟩:∃ y:Int,y = k2 + (4:Nat) * (w.events.length:Int):=⟨_,rfl⟩
 rw [← hk3] at hv3
 subst hv3
 have V3:=V2.setEvents q3_0 (fun j hj hn=>f3 j (by have:=hin j hj;omega) hn)
 have g3:=f3 nx (by omega) (fun e=>hinn (e ▸ WI.top_mem (X:=X) (k:=2) (by omega)))
 rw [g2] at g3
 have Fr3:∀ j,j < nx → j ∉ X.ids → h3 j = h j:=fun j hj hn=>(f3 j (by omega) (fun e=>hn (e ▸ WI.top_mem (X:=X) (k:=2) (by omega)))).trans (Fr2 j hj hn)
 clear hfr3
 try simp [-qt,-qd,-ql,rgs,g3]
 refine yX (m_markSpread (ia:=X.top 3) (ib:=X.top 4) (told:=w.spread.told) (work:=w.spread.work) (k:=k3) (fun e=>absurd (hpre.top_inj (by omega) (by omega) e) (by omega)) (by omega) (by omega) (by omega) (by omega)) ⟨V3.top 3 (by omega),V3.top 4 (by omega)⟩ ?_
 rintro r h4 n4 ⟨hv4,q4_0,q4_1,f4⟩ hle4 hfr4
 dsimp only at q4_0 q4_1 f4 hle4
 obtain ⟨k4,hk4⟩:∃ y:Int,y = k3 + (w.spread.told.length:Int) + (w.spread.work.length:Int):=⟨_,rfl⟩
 rw [← hk4] at hv4
 subst hv4
 have V4:=V3.setSpread (s:=⟨yN zB7 1 k3 w.spread.told.length,yN zF1 1 (k3 + (w.spread.told.length:Int)) w.spread.work.length⟩) q4_0 q4_1 (fun j hj ha hb=>f4 j (by have:=hin j hj;omega) ha hb)
 have g4:=f4 nx (by omega) (fun e=>hinn (e ▸ WI.top_mem (X:=X) (k:=3) (by omega))) (fun e=>hinn (e ▸ WI.top_mem (X:=X) (k:=4) (by omega)))
 rw [g3] at g4
 have Fr4:∀ j,j < nx → j ∉ X.ids → h4 j = h j:=fun j hj hn=>(f4 j (by omega) (fun e=>hn (e ▸ WI.top_mem (X:=X) (k:=3) (by omega))) (fun e=>hn (e ▸ WI.top_mem (X:=X) (k:=4) (by omega)))).trans (Fr3 j hj hn)
 clear hfr4
 try simp [-qt,-qd,-ql,rgs,g4]
 refine yX (m_markTimers (ia:=X.top 5) (ib:=X.top 6) (hp:=w.timers.heap) (lst:=w.timers.list) (k:=k4) (fun e=>absurd (hpre.top_inj (by omega) (by omega) e) (by omega)) (by omega) (by omega) (by omega) (by omega)) ⟨V4.top 5 (by omega),V4.top 6 (by omega)⟩ ?_
 rintro r h5 n5 ⟨hv5,q5_0,q5_1,f5⟩ hle5 hfr5
 dsimp only at q5_0 q5_1 f5 hle5
 obtain ⟨k5,hk5⟩:∃ y:Int,y = k4 + (3:Nat) * (w.timers.heap.length:Int) + (5:Nat) * (w.timers.list.length:Int):=⟨_,rfl⟩
 rw [← hk5] at hv5
 subst hv5
 have V5:=V4.setTimers (s:=⟨yN zL9 3 k4 w.timers.heap.length,yN zL6 5 (k4 + (3:Nat) * (w.timers.heap.length:Int)) w.timers.list.length,w.timers.next⟩) q5_0 q5_1 (fun j hj ha hb=>f5 j (by have:=hin j hj;omega) ha hb)
 have g5:=f5 nx (by omega) (fun e=>hinn (e ▸ WI.top_mem (X:=X) (k:=5) (by omega))) (fun e=>hinn (e ▸ WI.top_mem (X:=X) (k:=6) (by omega)))
 rw [g4] at g5
 have Fr5:∀ j,j < nx → j ∉ X.ids → h5 j = h j:=fun j hj hn=>(f5 j (by omega) (fun e=>hn (e ▸ WI.top_mem (X:=X) (k:=5) (by omega))) (fun e=>hn (e ▸ WI.top_mem (X:=X) (k:=6) (by omega)))).trans (Fr4 j hj hn)
 clear hfr5
 try simp [-qt,-qd,-ql,rgs,g5]
 refine yX (m_markAfters (ia:=X.top 7) (ib:=X.top 8) (ic:=X.top 9) (ages:=w.afters.slots.ages) (used:=w.afters.slots.used) (lst:=w.afters.list) (k:=k5) (fun e=>absurd (hpre.top_inj (by omega) (by omega) e) (by omega)) (fun e=>absurd (hpre.top_inj (by omega) (by omega) e) (by omega)) (fun e=>absurd (hpre.top_inj (by omega) (by omega) e) (by omega)) (by omega) (by omega) (by omega) (by omega) (by omega)) ⟨V5.top 7 (by omega),V5.top 8 (by omega),V5.top 9 (by omega)⟩ ?_
 rintro r h6 n6 ⟨hv6,q6_0,q6_1,q6_2,f6⟩ hle6 hfr6
 dsimp only at q6_0 q6_1 q6_2 f6 hle6
 obtain ⟨k6,hk6⟩:∃ y:Int,y = k5 + (w.afters.slots.ages.length:Int) + (w.afters.slots.used.length:Int) + (5:Nat) * (w.afters.list.length:Int):=⟨_,rfl⟩
 rw [← hk6] at hv6
 subst hv6
 have V6:=V5.setAfters (s:=⟨⟨yN zF1 1 k5 w.afters.slots.ages.length,yN zB7 1 (k5 + (w.afters.slots.ages.length:Int)) w.afters.slots.used.length⟩,yN zL7 5 (k5 + (w.afters.slots.ages.length:Int) + (w.afters.slots.used.length:Int)) w.afters.list.length⟩) q6_0 q6_1 q6_2 (fun j hj ha hb hc=>f6 j (by have:=hin j hj;omega) ha hb hc)
 have g6:=f6 nx (by omega) (fun e=>hinn (e ▸ WI.top_mem (X:=X) (k:=7) (by omega))) (fun e=>hinn (e ▸ WI.top_mem (X:=X) (k:=8) (by omega))) (fun e=>hinn (e ▸ WI.top_mem (X:=X) (k:=9) (by omega)))
 rw [g5] at g6
 have Fr6:∀ j,j < nx → j ∉ X.ids → h6 j = h j:=fun j hj hn=>(f6 j (by omega) (fun e=>hn (e ▸ WI.top_mem (X:=X) (k:=7) (by omega))) (fun e=>hn (e ▸ WI.top_mem (X:=X) (k:=8) (by omega))) (fun e=>hn (e ▸ WI.top_mem (X:=X) (k:=9) (by omega)))).trans (Fr5 j hj hn)
 clear hfr6
 try simp [-qt,-qd,-ql,rgs,g6]
 refine yX (m_markTaskS (id:=X.top 10) (xs:=w.tasks) (k:=k6) (by omega) (by omega) (by omega)) (V6.top 10 (by omega)) ?_
 rintro r h7 n7 ⟨hv7,q7_0,f7⟩ hle7 hfr7
 dsimp only at q7_0 f7 hle7
 obtain ⟨k7,hk7⟩:∃ y:Int,y = k6 + (9:Nat) * (w.tasks.length:Int):=⟨_,rfl⟩
 rw [← hk7] at hv7
 subst hv7
 have V7:=V6.setTasks q7_0 (fun j hj hn=>f7 j (by have:=hin j hj;omega) hn)
 have g7:=f7 nx (by omega) (fun e=>hinn (e ▸ WI.top_mem (X:=X) (k:=10) (by omega)))
 rw [g6] at g7
 have Fr7:∀ j,j < nx → j ∉ X.ids → h7 j = h j:=fun j hj hn=>(f7 j (by omega) (fun e=>hn (e ▸ WI.top_mem (X:=X) (k:=10) (by omega)))).trans (Fr6 j hj hn)
 clear hfr7
 try simp [-qt,-qd,-ql,rgs,g7]
 refine yX (m_markGroupS (id:=X.top 11) (lo:=0) (hi:=nx) (xs:=w.groups) (is:=X.gr) (k:=k7) V0.gl (by omega) (fun x hx=>by have:=zD0 (·.waits.length) hx;omega) (by omega) (by omega) (V0.top_gr (by omega))) ⟨V7.top 11 (by omega),V7.subsG hin⟩ ?_
 rintro r h8 n8 ⟨hv8,q8_0,q8_1,f8⟩ hle8 hfr8
 dsimp only at q8_0 q8_1 f8 hle8
 obtain ⟨k8,hk8⟩:∃ y:Int,y = k7 + (zA9 gsz w.groups:Int):=⟨_,rfl⟩
 rw [← hk8] at hv8
 subst hv8
 have V8:=V7.setGroups (w':=⟨w.now,uG w.progs k,_,_,_,_,_,_,zE5 w.groups k7,w.sights,w.began,w.rang⟩) q8_1 (uE _ _) q8_0 (fun k hk hne=>by rcases lt15 hk with rfl | rfl | rfl | rfl | rfl | rfl | rfl | rfl | rfl | rfl | rfl | rfl | rfl | rfl | rfl <;> first | exact absurd rfl hne | rfl) rfl (fun j hj ha hb=>f8 j (by have:=hin j hj;omega) ha hb)
 have g8:=f8 nx (by omega) (fun e=>hinn (WI.gr_mem e)) (fun e=>hinn (e ▸ WI.top_mem (X:=X) (k:=11) (by omega)))
 rw [g7] at g8
 have Fr8:∀ j,j < nx → j ∉ X.ids → h8 j = h j:=fun j hj hn=>(f8 j (by omega) (fun e=>hn (WI.gr_mem e)) (fun e=>hn (e ▸ WI.top_mem (X:=X) (k:=11) (by omega)))).trans (Fr7 j hj hn)
 clear hfr8
 try simp [-qt,-qd,-ql,rgs,g8]
 refine yX (m_markSightS (id:=X.top 12) (xs:=w.sights) (k:=k8) (by omega) (by omega) (by omega)) (V8.top 12 (by omega)) ?_
 rintro r h9 n9 ⟨hv9,q9_0,f9⟩ hle9 hfr9
 dsimp only at q9_0 f9 hle9
 obtain ⟨k9,hk9⟩:∃ y:Int,y = k8 + (4:Nat) * (w.sights.length:Int):=⟨_,rfl⟩
 rw [← hk9] at hv9
 subst hv9
 have V9:=V8.setSights q9_0 (fun j hj hn=>f9 j (by have:=hin j hj;omega) hn)
 have g9:=f9 nx (by omega) (fun e=>hinn (e ▸ WI.top_mem (X:=X) (k:=12) (by omega)))
 rw [g8] at g9
 have Fr9:∀ j,j < nx → j ∉ X.ids → h9 j = h j:=fun j hj hn=>(f9 j (by omega) (fun e=>hn (e ▸ WI.top_mem (X:=X) (k:=12) (by omega)))).trans (Fr8 j hj hn)
 clear hfr9
 try simp [-qt,-qd,-ql,rgs,g9]
 refine yX (zG2 (id:=X.top 13) (xs:=w.began) (k:=k9) (by omega) (by omega) (by omega)) (V9.top 13 (by omega)) ?_
 rintro r h10 n10 ⟨hv10,q10_0,f10⟩ hle10 hfr10
 dsimp only at q10_0 f10 hle10
 obtain ⟨k10,hk10⟩:∃ y:Int,y = k9 + (1:Nat) * (w.began.length:Int):=⟨_,rfl⟩
 rw [← hk10] at hv10
 subst hv10
 have V10:=V9.setBegan q10_0 (fun j hj hn=>f10 j (by have:=hin j hj;omega) hn)
 have g10:=f10 nx (by omega) (fun e=>hinn (e ▸ WI.top_mem (X:=X) (k:=13) (by omega)))
 rw [g9] at g10
 have Fr10:∀ j,j < nx → j ∉ X.ids → h10 j = h j:=fun j hj hn=>(f10 j (by omega) (fun e=>hn (e ▸ WI.top_mem (X:=X) (k:=13) (by omega)))).trans (Fr9 j hj hn)
 clear hfr10
 try simp [-qt,-qd,-ql,rgs,g10]
 refine yX (zG2 (id:=X.top 14) (xs:=w.rang) (k:=k10) (by omega) (by omega) (by omega)) (V10.top 14 (by omega)) ?_
 rintro r h11 n11 ⟨hv11,q11_0,f11⟩ hle11 hfr11
 dsimp only at q11_0 f11 hle11
 obtain ⟨k11,hk11⟩:∃ y:Int,y = k10 + (1:Nat) * (w.rang.length:Int):=⟨_,rfl⟩
 rw [← hk11] at hv11
 subst hv11
 have V11:=V10.setRang q11_0 (fun j hj hn=>f11 j (by have:=hin j hj;omega) hn)
 have g11:=f11 nx (by omega) (fun e=>hinn (e ▸ WI.top_mem (X:=X) (k:=14) (by omega)))
 rw [g10] at g11
 have Fr11:∀ j,j < nx → j ∉ X.ids → h11 j = h j:=fun j hj hn=>(f11 j (by omega) (fun e=>hn (e ▸ WI.top_mem (X:=X) (k:=14) (by omega)))).trans (Fr10 j hj hn)
 clear hfr11
 try simp [-qt,-qd,-ql,rgs,g11]
 refine ⟨?_,?_,Fr11⟩
 ·simp only [kZ,kR,kB,kV,kG,kK,kF,kU,kA,kL,kH,kW,kS,kE,kT]
  rw [hk11,hk10,hk9,hk8,hk7,hk6,hk5,hk4,hk3,hk2,hk1]
 ·simp only [mkWld,mkSpr,mkTms,mkAfs,kZ,kR,kB,kV,kG,kK,kF,kU,kA,kL,kH,kW,kS,kE,kT]
  subst hk11 hk10 hk9 hk8 hk7 hk6 hk5 hk4 hk3 hk2 hk1
  exact V11
end Go.AE.Tryz
end
section
/- Contracts of the laws' readings of a marked world. -/
set_option maxRecDepth 8000
set_option maxHeartbeats 4000000
namespace Go.AE.Tryz
open Go.Proofs
open List renaming map_take → qt,map_drop → qd,map_tail → ql
theorem mkProgs_gt {xs:List (List Inn)} {k:Int} {i:Nat} (h:i < xs.length):gt (uG xs k) (i:Int) = yN mkInn 3 (k + 3 * zA9 (·.length) (xs.take i)) xs[i].length:=by
 rw [uR (by rw [vP];exact h)]
 have e:=mkUpto_succ (k:=k) h
 have e2:(uG xs k)[i]? = (zK5 xs k (i + 1))[i]? := by
  unfold zK5
  rw [List.getElem?_append_left (by rw [vP];simp;omega)]
  conv=>lhs;rw [← List.take_append_drop (i + 1) xs,zO9]
  rw [List.getElem?_append_left (by rw [vP];simp;omega)]
 rw [e,List.getElem?_set_self (by simp [zK5,vP];omega)] at e2
 rw [List.getElem?_eq_getElem (by rw [vP];exact h)] at e2
 exact Option.some.inj e2
theorem mkGrps_gt {xs:List Grp} {k:Int} {i:Nat} (h:i < xs.length):gt (zE5 xs k) (i:Int) = mkGrp xs[i] (k + zA9 gsz (xs.take i)):=by
 rw [uR (by rw [uE];exact h)]
 have e:=gUpto_succ (k:=k) h
 have e2:(zE5 xs k)[i]? = (zL1 xs k (i + 1))[i]? := by
  unfold zL1
  rw [List.getElem?_append_left (by rw [uE];simp;omega)]
  conv=>lhs;rw [← List.take_append_drop (i + 1) xs,mkGrps_app]
  rw [List.getElem?_append_left (by rw [uE];simp;omega)]
 rw [e,List.getElem?_set_self (by rw [gUpto_len (by omega)];exact h)] at e2
 rw [List.getElem?_eq_getElem (by rw [uE];exact h)] at e2
 exact Option.some.inj e2
theorem h_heldInsSS {p r:Bool} {xs:List (List Inn)} {k:Int} (hlim:xs.length ≤ LIM) (hli:∀ x ∈ xs,x.length ≤ LIM) (h0:0 ≤ k) (h1:k + 3 * zA9 (·.length) xs ≤ 1152921504606846976) :
 PC ctx.P 73 [.view p 1 ((uG xs k).map (zD2 r)),.int .i64 k] (.int .i64 (k + 3 * zA9 (·.length) xs)):=by
 refine PC.o okC Tryz.func73 rfl (.int _ _) fun h nx hnx => ?_
 have hml:=vP xs k
 try simp [-qt,-qd,-ql,rgs,hml]
 repeat' first | done | ((first | ((with_reducible show zU _ _ _ _ _ _);refine zB rfl fun _ => ?_) | ((with_reducible show zJ _ _ _ _ _ _ _);refine zC rfl omA omA ?_)) <;> simp [-qt,-qd,-ql,rgs,hml]) | ((first | (with_reducible refine zA ?_ ?_)) <;> intro qb <;> (have qp:=qb;try simp only [psq] at qp) <;> simp [-qt,-qd,-ql,rgs,hml,qb])
 refine zW [1,4,5,6,7,8,9,10,11,12,13,14,15,16,17,18,19] (xs.length) (fun (i:Nat) a=>[(5,.int .i64 i),(1,.int .i64 (k + 3 * zA9 (·.length) (xs.take i)))]) (fun i_ a_ h_ _=>(fun i (_:Unit) _=>True) i_ a_ h_) (()) (by simp) ?_ zT (Nat.le_refl _) ?_
 ·trivial
 ·intro i a tm h' n' hle hJ hE hn' next hnx
  try dsimp only at hJ
  have hK:KeepB nx h' h:=KeepB.sub hE zK (by omega)
  simp [-qt,-qd,-ql]
  have hlim0:=hlim
  simp only [LIM] at hlim
  have hb:=zB0 (·.length) xs i
  by_cases hlt:i < xs.length
  ·have hg:=mkProgs_gt (k:=k) hlt
   have hb2:=zM2 (·.length) xs i hlt
   have hb3:=zB0 (·.length) xs (i + 1)
   try simp [-qt,-qd,-ql,rgs,hg,hml,zD2,hlt]
   repeat' first | done | ((first | ((with_reducible show zU _ _ _ _ _ _);refine zB rfl fun _ => ?_) | ((with_reducible show zJ _ _ _ _ _ _ _);refine zC rfl omA omA ?_) | ((with_reducible show zG _ _ _ 159 _ _);refine zD (h_heldInsS (n:=xs[i].length) (k:=k + 3 * zA9 (·.length) (xs.take i)) (hli _ (List.getElem_mem hlt)) (by omega) (by omega)) ?_)) <;> simp [-qt,-qd,-ql,rgs,hg,hml,zD2,hlt]) | ((first | (with_reducible refine zA ?_ ?_)) <;> intro qb <;> (have qp:=qb;try simp only [psq] at qp) <;> simp [-qt,-qd,-ql,rgs,hg,hml,zD2,hlt,qb])
   all_goals first
   | omega
   | (refine hnx.go () ?_ ?_ ?_ ?_ ?_ ?_
      ·omega
      ·simp [zM hlt hlim0] <;> omega
      ·simp
      ·exact zK
      ·first | omega | (simp;omega)
      trivial)
   | trace_state
  ·have:i = xs.length:=by omega
   subst this
   try simp [-qt,-qd,-ql,rgs,hlt,hml]
   repeat' first | done | ((first | ((with_reducible show zU _ _ _ _ _ _);refine zB rfl fun _ => ?_) | ((with_reducible show zJ _ _ _ _ _ _ _);refine zC rfl omA omA ?_)) <;> simp [-qt,-qd,-ql,rgs,hlt,hml]) | ((first | (with_reducible refine zA ?_ ?_)) <;> intro qb <;> (have qp:=qb;try simp only [psq] at qp) <;> simp [-qt,-qd,-ql,rgs,hlt,hml,qb])
   all_goals first
   | omega
   | (simp at *; omega)
   | (refine ⟨?_,zK⟩;simp)
   | trace_state
theorem h_heldGroupS {p r:Bool} {xs:List Grp} {k:Int} (hlim:xs.length ≤ LIM) (hli:∀ x ∈ xs,x.waits.length ≤ LIM) (h0:0 ≤ k) (h1:k + zA9 gsz xs ≤ 1152921504606846976) :
 PC ctx.P 80 [.view p 5 ((zE5 xs k).map (vD r)),.int .i64 k] (.int .i64 (k + zA9 gsz xs)):=by
 refine PC.o okC Tryz.func80 rfl (.int _ _) fun h nx hnx => ?_
 have hml:=uE xs k
 try simp [-qt,-qd,-ql,rgs,hml]
 repeat' first | done | ((first | ((with_reducible show zU _ _ _ _ _ _);refine zB rfl fun _ => ?_) | ((with_reducible show zJ _ _ _ _ _ _ _);refine zC rfl omA omA ?_)) <;> simp [-qt,-qd,-ql,rgs,hml]) | ((first | (with_reducible refine zA ?_ ?_)) <;> intro qb <;> (have qp:=qb;try simp only [psq] at qp) <;> simp [-qt,-qd,-ql,rgs,hml,qb])
 refine zW [1,4,5,6,7,8,9,10,11,12,13,14,15,16,17,18,19,20,21,22,23,24,25,26,27,28,29,30,31,32,33,34,35,36,37,38,39,40,41,42,43,44,45,46,47,48,49,50,51,52,53,54,55,56] (xs.length) (fun (i:Nat) a=>[(5,.int .i64 i),(1,.int .i64 (k + zA9 gsz (xs.take i)))]) (fun i_ a_ h_ _=>(fun i (_:Unit) _=>True) i_ a_ h_) (()) (by simp) ?_ zT (Nat.le_refl _) ?_
 ·trivial
 ·intro i a tm h' n' hle hJ hE hn' next hnx
  try dsimp only at hJ
  have hK:KeepB nx h' h:=KeepB.sub hE zK (by omega)
  simp [-qt,-qd,-ql]
  have hlim0:=hlim
  simp only [LIM] at hlim
  have hb:=zB0 gsz xs i
  by_cases hlt:i < xs.length
  ·have hg:=mkGrps_gt (k:=k) hlt
   have hb2:=zM2 gsz xs i hlt
   have hb3:=zB0 gsz xs (i + 1)
   have hgs:gsz xs[i] = 4 + xs[i].waits.length:=rfl
   generalize hkk:k + (zA9 gsz (xs.take i):Int) = kk at *
   try simp [-qt,-qd,-ql,rgs,hg,hml,vD,mkGrp,zH (x:=kk + 1) (by omega),zH (x:=kk + 2) (by omega),zH (x:=kk + 3) (by omega),zH (x:=kk + (3 + (xs[i].waits.length:Int))) (by omega),zH (x:=kk + (3 + ((xs[i].waits.length:Int) + 1))) (by omega),hlt,Int.add_assoc]
   repeat' first | done | ((first | ((with_reducible show zU _ _ _ _ _ _);refine zB rfl fun _ => ?_) | ((with_reducible show zJ _ _ _ _ _ _ _);refine zC rfl omA omA ?_) | ((with_reducible show zG _ _ _ 82 _ _);refine zD (zG4 (n:=xs[i].waits.length) (k:=kk + 3) (hli _ (List.getElem_mem hlt)) (by omega) (by omega)) ?_)) <;> simp [-qt,-qd,-ql,rgs,hg,hml,vD,mkGrp,zH (x:=kk + 1) (by omega),zH (x:=kk + 2) (by omega),zH (x:=kk + 3) (by omega),zH (x:=kk + (3 + (xs[i].waits.length:Int))) (by omega),zH (x:=kk + (3 + ((xs[i].waits.length:Int) + 1))) (by omega),hlt,Int.add_assoc]) | ((first | (with_reducible refine zA ?_ ?_)) <;> intro qb <;> (have qp:=qb;try simp only [psq] at qp) <;> simp [-qt,-qd,-ql,rgs,hg,hml,vD,mkGrp,zH (x:=kk + 1) (by omega),zH (x:=kk + 2) (by omega),zH (x:=kk + 3) (by omega),zH (x:=kk + (3 + (xs[i].waits.length:Int))) (by omega),zH (x:=kk + (3 + ((xs[i].waits.length:Int) + 1))) (by omega),hlt,Int.add_assoc,qb])
   all_goals first
   | omega
   | (refine hnx.go () ?_ ?_ ?_ ?_ ?_ ?_
      ·omega
      ·simp [zM hlt hlim0] <;> omega
      ·simp
      ·exact zK
      ·first | omega | (simp;omega)
      trivial)
   | trace_state
  ·have:i = xs.length:=by omega
   subst this
   try simp [-qt,-qd,-ql,rgs,hlt,hml]
   repeat' first | done | ((first | ((with_reducible show zU _ _ _ _ _ _);refine zB rfl fun _ => ?_) | ((with_reducible show zJ _ _ _ _ _ _ _);refine zC rfl omA omA ?_)) <;> simp [-qt,-qd,-ql,rgs,hlt,hml]) | ((first | (with_reducible refine zA ?_ ?_)) <;> intro qb <;> (have qp:=qb;try simp only [psq] at qp) <;> simp [-qt,-qd,-ql,rgs,hlt,hml,qb])
   all_goals first
   | omega
   | (simp at *; omega)
   | (refine ⟨?_,zK⟩;simp)
   | trace_state
theorem h_heldSpread {F:Nat → Bool} {n1 n2:Nat} {k:Int} (hl1:n1 ≤ 1048576) (hl2:n2 ≤ 1048576) (h0:0 ≤ k) (h1:k ≤ 1099511627776):PC ctx.P 76 [.agg (zC2 F ⟨yN zB7 1 k n1,yN zF1 1 (k + (n1:Int)) n2⟩),.int .i64 k] (.int .i64 (k + (n1:Int) + (n2:Int))):=by
 refine PC.o okC Tryz.func76 rfl (.int _ _) fun h nx hnx => ?_
 try simp [-qt,-qd,-ql,rgs,zC2]
 repeat' first | done | ((first | ((with_reducible show zG _ _ _ 160 _ _);refine zD (h_heldBoolS (n:=n1) (k:=k) (by simp only [LIM];omega) (by omega) (by omega)) ?_) | ((with_reducible show zG _ _ _ 82 _ _);refine zD (zG4 (n:=n2) (k:=k + (n1:Int)) (by simp only [LIM];omega) (by omega) (by omega)) ?_)) <;> simp [-qt,-qd,-ql,rgs,zC2]) | ((first | (with_reducible refine zA ?_ ?_)) <;> intro qb <;> (have qp:=qb;try simp only [psq] at qp) <;> simp [-qt,-qd,-ql,rgs,zC2,qb])
 all_goals first
 | omega
 | (simp at *; omega)
 | trace_state
theorem h_heldSlots {F:Nat → Bool} {n1 n2:Nat} {k:Int} (hl1:n1 ≤ 1048576) (hl2:n2 ≤ 1048576) (h0:0 ≤ k) (h1:k ≤ 1099511627776):PC ctx.P 163 [.agg (uJ F ⟨yN zF1 1 k n1,yN zB7 1 (k + (n1:Int)) n2⟩),.int .i64 k] (.int .i64 (k + (n1:Int) + (n2:Int))):=by
 refine PC.o okC Tryz.func163 rfl (.int _ _) fun h nx hnx => ?_
 try simp [-qt,-qd,-ql,rgs,uJ]
 repeat' first | done | ((first | ((with_reducible show zG _ _ _ 82 _ _);refine zD (zG4 (n:=n1) (k:=k) (by simp only [LIM];omega) (by omega) (by omega)) ?_) | ((with_reducible show zG _ _ _ 160 _ _);refine zD (h_heldBoolS (n:=n2) (k:=k + (n1:Int)) (by simp only [LIM];omega) (by omega) (by omega)) ?_)) <;> simp [-qt,-qd,-ql,rgs,uJ]) | ((first | (with_reducible refine zA ?_ ?_)) <;> intro qb <;> (have qp:=qb;try simp only [psq] at qp) <;> simp [-qt,-qd,-ql,rgs,uJ,qb])
 all_goals first
 | omega
 | (simp at *; omega)
 | trace_state
theorem h_heldTimers {F:Nat → Bool} {n1 n2:Nat} {k z:Int} (hl1:n1 ≤ 1048576) (hl2:n2 ≤ 1048576) (h0:0 ≤ k) (h1:k ≤ 1099511627776):PC ctx.P 77 [.agg (zA8 F ⟨yN zL9 3 k n1,yN zL6 5 (k + (3:Nat) * (n1:Int)) n2,z⟩),.int .i64 k] (.int .i64 (k + (3:Nat) * (n1:Int) + (5:Nat) * (n2:Int))):=by
 refine PC.o okC Tryz.func77 rfl (.int _ _) fun h nx hnx => ?_
 try simp [-qt,-qd,-ql,rgs,zA8]
 repeat' first | done | ((first | ((with_reducible show zG _ _ _ 161 _ _);refine zD (h_heldTwigS (n:=n1) (k:=k) (by simp only [LIM];omega) (by omega) (by omega)) ?_) | ((with_reducible show zG _ _ _ 162 _ _);refine zD (h_heldTimerS (n:=n2) (k:=k + (3:Nat) * (n1:Int)) (by simp only [LIM];omega) (by omega) (by omega)) ?_)) <;> simp [-qt,-qd,-ql,rgs,zA8]) | ((first | (with_reducible refine zA ?_ ?_)) <;> intro qb <;> (have qp:=qb;try simp only [psq] at qp) <;> simp [-qt,-qd,-ql,rgs,zA8,qb])
 all_goals first
 | omega
 | (simp at *; omega)
 | trace_state
theorem h_heldAfters {F:Nat → Bool} {n1 n2 n3:Nat} {k:Int} (hl1:n1 ≤ 1048576) (hl2:n2 ≤ 1048576) (hl3:n3 ≤ 1048576) (h0:0 ≤ k) (h1:k ≤ 1099511627776):PC ctx.P 78 [.agg (zC3 F ⟨⟨yN zF1 1 k n1,yN zB7 1 (k + (n1:Int)) n2⟩,yN zL7 5 (k + (n1:Int) + (n2:Int)) n3⟩),.int .i64 k] (.int .i64 (k + (n1:Int) + (n2:Int) + (5:Nat) * (n3:Int))):=by
 refine PC.o okC Tryz.func78 rfl (.int _ _) fun h nx hnx => ?_
 try simp [-qt,-qd,-ql,rgs,zC3]
 repeat' first | done | ((first | ((with_reducible show zG _ _ _ 163 _ _);refine zD (h_heldSlots (F:=F) (n1:=n1) (n2:=n2) (k:=k) (by omega) (by omega) (by omega) (by omega)) ?_) | ((with_reducible show zG _ _ _ 164 _ _);refine zD (h_heldAfterS (n:=n3) (k:=k + (n1:Int) + (n2:Int)) (by simp only [LIM];omega) (by omega) (by omega)) ?_)) <;> simp [-qt,-qd,-ql,rgs,zC3]) | ((first | (with_reducible refine zA ?_ ?_)) <;> intro qb <;> (have qp:=qb;try simp only [psq] at qp) <;> simp [-qt,-qd,-ql,rgs,zC3,qb])
 all_goals first
 | omega
 | (simp at *; omega)
 | trace_state
theorem h_heldWorld {F:Nat → Bool} {w:Wld} {k:Int} (hs:zC9 w ≤ 1048576) (h0:0 ≤ k) (h1:k ≤ 1048576):PC ctx.P 14 [.agg (wldV F (mkWld w k)),.int .i64 k] (.int .i64 (kZ w k)):=by
 simp only [zC9,afssz,tmssz,sprsz,sltsz] at hs
 have hm:LIM = 140737488355328:=rfl
 have hgz:=lsum_gsz w.groups
 have bT:kT w k = k + 3 * (zA9 (·.length) w.progs:Int):=by simp only [kZ,kR,kB,kV,kG,kK,kF,kU,kA,kL,kH,kW,kS,kE,kT] <;> omega
 have bE:kE w k = kT w k + (5:Nat) * (w.tree.length:Int):=by simp only [kZ,kR,kB,kV,kG,kK,kF,kU,kA,kL,kH,kW,kS,kE,kT] <;> omega
 have bS:kS w k = kE w k + (4:Nat) * (w.events.length:Int):=by simp only [kZ,kR,kB,kV,kG,kK,kF,kU,kA,kL,kH,kW,kS,kE,kT] <;> omega
 have bH:kH w k = kS w k + (w.spread.told.length:Int) + (w.spread.work.length:Int):=by simp only [kZ,kR,kB,kV,kG,kK,kF,kU,kA,kL,kH,kW,kS,kE,kT] <;> omega
 have bA:kA w k = kH w k + (3:Nat) * (w.timers.heap.length:Int) + (5:Nat) * (w.timers.list.length:Int):=by simp only [kZ,kR,kB,kV,kG,kK,kF,kU,kA,kL,kH,kW,kS,kE,kT] <;> omega
 have bK:kK w k = kA w k + (w.afters.slots.ages.length:Int) + (w.afters.slots.used.length:Int) + (5:Nat) * (w.afters.list.length:Int):=by simp only [kZ,kR,kB,kV,kG,kK,kF,kU,kA,kL,kH,kW,kS,kE,kT] <;> omega
 have bG:kG w k = kK w k + (9:Nat) * (w.tasks.length:Int):=by simp only [kZ,kR,kB,kV,kG,kK,kF,kU,kA,kL,kH,kW,kS,kE,kT] <;> omega
 have bV:kV w k = kG w k + (zA9 gsz w.groups:Int):=by simp only [kZ,kR,kB,kV,kG,kK,kF,kU,kA,kL,kH,kW,kS,kE,kT] <;> omega
 have bB:kB w k = kV w k + (4:Nat) * (w.sights.length:Int):=by simp only [kZ,kR,kB,kV,kG,kK,kF,kU,kA,kL,kH,kW,kS,kE,kT] <;> omega
 have bR:kR w k = kB w k + (w.began.length:Int):=by simp only [kZ,kR,kB,kV,kG,kK,kF,kU,kA,kL,kH,kW,kS,kE,kT] <;> omega
 have bZ:kZ w k = kR w k + (w.rang.length:Int):=by simp only [kZ,kR,kB,kV,kG,kK,kF,kU,kA,kL,kH,kW,kS,kE,kT] <;> omega
 refine PC.o okC Tryz.func14 rfl (.int _ _) fun h nx hnx => ?_
 unfold mkWld
 generalize kZ w k = k11 at *
 generalize kR w k = k10 at *
 generalize kB w k = k9 at *
 generalize kV w k = k8 at *
 generalize kG w k = k7 at *
 generalize kT w k = k1 at *
 generalize kE w k = k2 at *
 have e1:mkSpr w k = ⟨yN zB7 1 (kS w k) w.spread.told.length,yN zF1 1 (kS w k + (w.spread.told.length:Int)) w.spread.work.length⟩:=rfl
 have e2:mkTms w k = ⟨yN zL9 3 (kH w k) w.timers.heap.length,yN zL6 5 (kH w k + (3:Nat) * (w.timers.heap.length:Int)) w.timers.list.length,w.timers.next⟩:=rfl
 have e3:mkAfs w k = ⟨⟨yN zF1 1 (kA w k) w.afters.slots.ages.length,yN zB7 1 (kA w k + (w.afters.slots.ages.length:Int)) w.afters.slots.used.length⟩,yN zL7 5 (kA w k + (w.afters.slots.ages.length:Int) + (w.afters.slots.used.length:Int)) w.afters.list.length⟩:=rfl
 generalize mkSpr w k = ms at *
 generalize mkTms w k = mt at *
 generalize mkAfs w k = ma at *
 generalize kS w k = k3 at *
 generalize kH w k = k4 at *
 generalize kA w k = k5 at *
 generalize kK w k = k6 at *
 subst e1 e2 e3
 have z1:(k1 < 0) = False:=by simp only [eq_iff_iff,iff_false];omega
 have z2:(k2 < 0) = False:=by simp only [eq_iff_iff,iff_false];omega
 have z3:(k3 < 0) = False:=by simp only [eq_iff_iff,iff_false];omega
 have z4:(k4 < 0) = False:=by simp only [eq_iff_iff,iff_false];omega
 have z5:(k5 < 0) = False:=by simp only [eq_iff_iff,iff_false];omega
 have z6:(k6 < 0) = False:=by simp only [eq_iff_iff,iff_false];omega
 have z7:(k7 < 0) = False:=by simp only [eq_iff_iff,iff_false];omega
 have z8:(k8 < 0) = False:=by simp only [eq_iff_iff,iff_false];omega
 have z9:(k9 < 0) = False:=by simp only [eq_iff_iff,iff_false];omega
 have z10:(k10 < 0) = False:=by simp only [eq_iff_iff,iff_false];omega
 have z11:(k11 < 0) = False:=by simp only [eq_iff_iff,iff_false];omega
 have H1:PC ctx.P 73 [.view (F 0) 1 ((uG w.progs k).map (zD2 (F 1))),.int .i64 k] (.int .i64 k1):=by rw [bT];exact h_heldInsSS (by omega) (fun x hx=>by have:=zD0 (·.length) hx;omega) h0 (by omega)
 have H2:PC ctx.P 74 [.view (F 2) 5 ((yN mkNod 5 k1 w.tree.length).map yC),.int .i64 k1] (.int .i64 k2):=by rw [bE];exact h_heldNodeS (by omega) (by omega) (by omega)
 have H3:PC ctx.P 75 [.view (F 3) 4 ((yN mkEvt 4 k2 w.events.length).map yS),.int .i64 k2] (.int .i64 k3):=by rw [bS];exact h_heldEventS (by omega) (by omega) (by omega)
 have H4:PC ctx.P 76 [.agg [.view (F 4) 1 ((yN zB7 1 k3 w.spread.told.length).map bv),.view (F 5) 1 ((yN zF1 1 (k3 + (w.spread.told.length:Int)) w.spread.work.length).map iv)],.int .i64 k3] (.int .i64 k4):=by rw [bH];exact h_heldSpread (F:=F) (by omega) (by omega) (by omega) (by omega)
 have H5:PC ctx.P 77 [.agg [.view (F 6) 3 ((yN zL9 3 k4 w.timers.heap.length).map yQ),.view (F 7) 5 ((yN zL6 5 (k4 + (3:Nat) * (w.timers.heap.length:Int)) w.timers.list.length).map vJ),.int .i64 w.timers.next],.int .i64 k4] (.int .i64 k5):=by rw [bA];exact h_heldTimers (F:=F) (z:=w.timers.next) (by omega) (by omega) (by omega) (by omega)
 have H6:PC ctx.P 78 [.agg [.view (F 8) 1 ((yN zF1 1 k5 w.afters.slots.ages.length).map iv),.view (F 9) 1 ((yN zB7 1 (k5 + (w.afters.slots.ages.length:Int)) w.afters.slots.used.length).map bv),.view (F 10) 5 ((yN zL7 5 (k5 + (w.afters.slots.ages.length:Int) + (w.afters.slots.used.length:Int)) w.afters.list.length).map vO)],.int .i64 k5] (.int .i64 k6):=by rw [bK];exact h_heldAfters (F:=F) (by omega) (by omega) (by omega) (by omega) (by omega)
 have H7:PC ctx.P 79 [.view (F 11) 9 ((yN mkTsk 9 k6 w.tasks.length).map vU),.int .i64 k6] (.int .i64 k7):=by rw [bG];exact h_heldTaskS (by omega) (by omega) (by omega)
 have H8:PC ctx.P 80 [.view (F 12) 5 ((zE5 w.groups k7).map (vD (F 13))),.int .i64 k7] (.int .i64 k8):=by rw [bV];exact h_heldGroupS (by omega) (fun x hx=>by have:=zD0 (·.waits.length) hx;omega) (by omega) (by omega)
 have H9:PC ctx.P 81 [.view (F 14) 4 ((yN mkSgt 4 k8 w.sights.length).map zA6),.int .i64 k8] (.int .i64 k9):=by rw [bB];exact h_heldSightS (by omega) (by omega) (by omega)
 have H10:PC ctx.P 82 [.view (F 15) 1 ((yN zF1 1 k9 w.began.length).map iv),.int .i64 k9] (.int .i64 k10):=by rw [bR];exact (by simpa using zG4 (p:=F 15) (n:=w.began.length) (k:=k9) (by omega) (by omega) (by omega))
 have H11:PC ctx.P 82 [.view (F 16) 1 ((yN zF1 1 k10 w.rang.length).map iv),.int .i64 k10] (.int .i64 k11):=by rw [bZ];exact (by simpa using zG4 (p:=F 16) (n:=w.rang.length) (k:=k10) (by omega) (by omega) (by omega))
 try simp [-qt,-qd,-ql,rgs,wldV,z1,z2,z3,z4,z5,z6,z7,z8,z9,z10,z11]
 repeat' first | done | ((first | (refine zD (H1) ?_) | (refine zD (H2) ?_) | (refine zD (H3) ?_) | (refine zD (H4) ?_) | (refine zD (H5) ?_) | (refine zD (H6) ?_) | (refine zD (H7) ?_) | (refine zD (H8) ?_) | (refine zD (H9) ?_) | (refine zD (H10) ?_) | (refine zD (H11) ?_)) <;> simp [-qt,-qd,-ql,rgs,wldV,z1,z2,z3,z4,z5,z6,z7,z8,z9,z10,z11]) | ((first | (with_reducible refine zA ?_ ?_)) <;> intro qb <;> (have qp:=qb;try simp only [psq] at qp) <;> simp [-qt,-qd,-ql,rgs,wldV,z1,z2,z3,z4,z5,z6,z7,z8,z9,z10,z11,qb])
end Go.AE.Tryz
end
section
/- Contracts of the program's copies of rows as new rows. -/
set_option maxRecDepth 8000
set_option maxHeartbeats 2000000
namespace Go.AE.Tryz
open Go.Proofs
theorem f_cloneInsS {p:Bool} {xs:List Inn} (hl:xs.length ≤ zY):FC ctx.P 322 [.view p 3 (xs.map uC)] (.ref 0 3 0 (xs.map uC).length) [.row 3 (xs.map uC)]:=by
 refine FC.o1 okC Tryz.func322 rfl (zS innC_fz xs) fun h nx hnx => ?_
 simp
 refine zO2 (rows:=xs.map uC) rfl rfl rfl (.inl ⟨_,_,rfl⟩) fun b hb => ?_
 simp [zN3]
 refine zA ?_ ?_ <;> intro hb2 <;> simp [resultsA,resA]
 ·exact zG0 (by simp) (by simp;omega) (hb hb2)
 ·refine zQ rfl rfl (by decide) (by decide) (by simp;rfl) (by simp;rfl) (by simp) (by simpa using hl) (by simp [uC,zG8]) ?_
  simp [resultsA,resA]
  exact yU (by simp [Nat.add_assoc]) (by simp;omega) (by omega) (by simp) rfl (by simp)
theorem f_cloneNodeS {p:Bool} {xs:List Nod} (hl:xs.length ≤ zY):FC ctx.P 241 [.view p 5 (xs.map yC)] (.ref 0 5 0 (xs.map yC).length) [.row 5 (xs.map yC)]:=by
 refine FC.o1 okC Tryz.func241 rfl (zS zI7 xs) fun h nx hnx => ?_
 simp
 refine zO2 (rows:=xs.map yC) rfl rfl rfl (.inl ⟨_,_,rfl⟩) fun b hb => ?_
 simp [zN3]
 refine zA ?_ ?_ <;> intro hb2 <;> simp [resultsA,resA]
 ·exact zG0 (by simp) (by simp;omega) (hb hb2)
 ·refine zQ rfl rfl (by decide) (by decide) (by simp;rfl) (by simp;rfl) (by simp) (by simpa using hl) (by simp [yC,zG8]) ?_
  simp [resultsA,resA]
  exact yU (by simp [Nat.add_assoc]) (by simp;omega) (by omega) (by simp) rfl (by simp)
theorem f_cloneEventS {p:Bool} {xs:List Evt} (hl:xs.length ≤ zY):FC ctx.P 242 [.view p 4 (xs.map yS)] (.ref 0 4 0 (xs.map yS).length) [.row 4 (xs.map yS)]:=by
 refine FC.o1 okC Tryz.func242 rfl (zS zO7 xs) fun h nx hnx => ?_
 simp
 refine zO2 (rows:=xs.map yS) rfl rfl rfl (.inl ⟨_,_,rfl⟩) fun b hb => ?_
 simp [zN3]
 refine zA ?_ ?_ <;> intro hb2 <;> simp [resultsA,resA]
 ·exact zG0 (by simp) (by simp;omega) (hb hb2)
 ·refine zQ rfl rfl (by decide) (by decide) (by simp;rfl) (by simp;rfl) (by simp) (by simpa using hl) (by simp [yS,zG8]) ?_
  simp [resultsA,resA]
  exact yU (by simp [Nat.add_assoc]) (by simp;omega) (by omega) (by simp) rfl (by simp)
theorem zI5 {p:Bool} {xs:List Twg} (hl:xs.length ≤ zY):FC ctx.P 324 [.view p 3 (xs.map yQ)] (.ref 0 3 0 (xs.map yQ).length) [.row 3 (xs.map yQ)]:=by
 refine FC.o1 okC Tryz.func324 rfl (zS vK xs) fun h nx hnx => ?_
 simp
 refine zO2 (rows:=xs.map yQ) rfl rfl rfl (.inl ⟨_,_,rfl⟩) fun b hb => ?_
 simp [zN3]
 refine zA ?_ ?_ <;> intro hb2 <;> simp [resultsA,resA]
 ·exact zG0 (by simp) (by simp;omega) (hb hb2)
 ·refine zQ rfl rfl (by decide) (by decide) (by simp;rfl) (by simp;rfl) (by simp) (by simpa using hl) (by simp [yQ,zG8]) ?_
  simp [resultsA,resA]
  exact yU (by simp [Nat.add_assoc]) (by simp;omega) (by omega) (by simp) rfl (by simp)
theorem f_cloneTimerS {p:Bool} {xs:List Tmr} (hl:xs.length ≤ zY):FC ctx.P 273 [.view p 5 (xs.map vJ)] (.ref 0 5 0 (xs.map vJ).length) [.row 5 (xs.map vJ)]:=by
 refine FC.o1 okC Tryz.func273 rfl (zS zC7 xs) fun h nx hnx => ?_
 simp
 refine zO2 (rows:=xs.map vJ) rfl rfl rfl (.inl ⟨_,_,rfl⟩) fun b hb => ?_
 simp [zN3]
 refine zA ?_ ?_ <;> intro hb2 <;> simp [resultsA,resA]
 ·exact zG0 (by simp) (by simp;omega) (hb hb2)
 ·refine zQ rfl rfl (by decide) (by decide) (by simp;rfl) (by simp;rfl) (by simp) (by simpa using hl) (by simp [vJ,zG8]) ?_
  simp [resultsA,resA]
  exact yU (by simp [Nat.add_assoc]) (by simp;omega) (by omega) (by simp) rfl (by simp)
theorem f_cloneAfterS {p:Bool} {xs:List Afr} (hl:xs.length ≤ zY):FC ctx.P 326 [.view p 5 (xs.map vO)] (.ref 0 5 0 (xs.map vO).length) [.row 5 (xs.map vO)]:=by
 refine FC.o1 okC Tryz.func326 rfl (zS zC6 xs) fun h nx hnx => ?_
 simp
 refine zO2 (rows:=xs.map vO) rfl rfl rfl (.inl ⟨_,_,rfl⟩) fun b hb => ?_
 simp [zN3]
 refine zA ?_ ?_ <;> intro hb2 <;> simp [resultsA,resA]
 ·exact zG0 (by simp) (by simp;omega) (hb hb2)
 ·refine zQ rfl rfl (by decide) (by decide) (by simp;rfl) (by simp;rfl) (by simp) (by simpa using hl) (by simp [vO,zG8]) ?_
  simp [resultsA,resA]
  exact yU (by simp [Nat.add_assoc]) (by simp;omega) (by omega) (by simp) rfl (by simp)
theorem f_cloneTaskS {p:Bool} {xs:List Tsk} (hl:xs.length ≤ zY):FC ctx.P 246 [.view p 9 (xs.map vU)] (.ref 0 9 0 (xs.map vU).length) [.row 9 (xs.map vU)]:=by
 refine FC.o1 okC Tryz.func246 rfl (zS tskC_fz xs) fun h nx hnx => ?_
 simp
 refine zO2 (rows:=xs.map vU) rfl rfl rfl (.inl ⟨_,_,rfl⟩) fun b hb => ?_
 simp [zN3]
 refine zA ?_ ?_ <;> intro hb2 <;> simp [resultsA,resA]
 ·exact zG0 (by simp) (by simp;omega) (hb hb2)
 ·refine zQ rfl rfl (by decide) (by decide) (by simp;rfl) (by simp;rfl) (by simp) (by simpa using hl) (by simp [vU,zG8]) ?_
  simp [resultsA,resA]
  exact yU (by simp [Nat.add_assoc]) (by simp;omega) (by omega) (by simp) rfl (by simp)
theorem zQ1 {p:Bool} {xs:List Sgt} (hl:xs.length ≤ zY):FC ctx.P 248 [.view p 4 (xs.map zA6)] (.ref 0 4 0 (xs.map zA6).length) [.row 4 (xs.map zA6)]:=by
 refine FC.o1 okC Tryz.func248 rfl (zS sgtC_fz xs) fun h nx hnx => ?_
 simp
 refine zO2 (rows:=xs.map zA6) rfl rfl rfl (.inl ⟨_,_,rfl⟩) fun b hb => ?_
 simp [zN3]
 refine zA ?_ ?_ <;> intro hb2 <;> simp [resultsA,resA]
 ·exact zG0 (by simp) (by simp;omega) (hb hb2)
 ·refine zQ rfl rfl (by decide) (by decide) (by simp;rfl) (by simp;rfl) (by simp) (by simpa using hl) (by simp [zA6,zG8]) ?_
  simp [resultsA,resA]
  exact yU (by simp [Nat.add_assoc]) (by simp;omega) (by omega) (by simp) rfl (by simp)
theorem zE7 {p:Bool} {xs:List Int} (hl:xs.length ≤ zY):FC ctx.P 249 [.view p 1 (xs.map iv)] (.ref 0 1 0 (xs.map iv).length) [.row 1 (xs.map iv)]:=by
 refine FC.o1 okC Tryz.func249 rfl (zS zE6 xs) fun h nx hnx => ?_
 simp
 refine zO2 (rows:=xs.map iv) rfl rfl rfl (.inl ⟨_,_,rfl⟩) fun b hb => ?_
 simp [zN3]
 refine zA ?_ ?_ <;> intro hb2 <;> simp [resultsA,resA]
 ·exact zG0 (by simp) (by simp;omega) (hb hb2)
 ·refine zQ rfl rfl (by decide) (by decide) (by simp;rfl) (by simp;rfl) (by simp) (by simpa using hl) (by simp [iv,zG8]) ?_
  simp [resultsA,resA]
  exact yU (by simp [Nat.add_assoc]) (by simp;omega) (by omega) (by simp) rfl (by simp)
theorem f_cloneBoolS {p:Bool} {xs:List Bool} (hl:xs.length ≤ zY):FC ctx.P 323 [.view p 1 (xs.map bv)] (.ref 0 1 0 (xs.map bv).length) [.row 1 (xs.map bv)]:=by
 refine FC.o1 okC Tryz.func323 rfl (zS zK1 xs) fun h nx hnx => ?_
 simp
 refine zO2 (rows:=xs.map bv) rfl rfl rfl (.inl ⟨_,_,rfl⟩) fun b hb => ?_
 simp [zN3]
 refine zA ?_ ?_ <;> intro hb2 <;> simp [resultsA,resA]
 ·exact zG0 (by simp) (by simp;omega) (hb hb2)
 ·refine zQ rfl rfl (by decide) (by decide) (by simp;rfl) (by simp;rfl) (by simp) (by simpa using hl) (by simp [bv,zG8]) ?_
  simp [resultsA,resA]
  exact yU (by simp [Nat.add_assoc]) (by simp;omega) (by omega) (by simp) rfl (by simp)
end Go.AE.Tryz
end
section
/- Contracts of the program's copies of a world's parts as new rows. -/
set_option maxRecDepth 8000
set_option maxHeartbeats 2000000
namespace Go.AE.Tryz
open Go.Proofs
open List renaming map_take → qt,map_drop → qd,map_tail → ql
theorem f_cloneSlots {F:Nat → Bool} {s:Slt} (h1:s.ages.length ≤ zY) (h2:s.used.length ≤ zY):FC ctx.P 325 [.agg (uJ F s)] (.agg [.ref 0 1 0 s.ages.length,.ref 1 1 0 s.used.length]) [.row 1 (s.ages.map iv),.row 1 (s.used.map bv)]:=by
 refine FC.o okC Tryz.func325 rfl ((.one _ (.agg _ fun c hc=>by simp at hc;rcases hc with rfl | rfl <;> first | exact .ref _ _ _ _ (by simp) | exact .fz _ (.int _ _)))) ((fun e he=>by simp at he;rcases he with rfl | rfl <;> first | exact zS zE6 _ | exact zS zK1 _ | exact zS vK _ | exact zS zC7 _ | exact zS zC6 _)) fun h nx hnx => ?_
 try simp [-qt,-qd,-ql,rgs,uJ]
 repeat' first | done | ((first | ((with_reducible show zG _ _ _ 249 _ _);refine yD (zE7 h1) ?_) | ((with_reducible show zG _ _ _ 323 _ _);refine yD (f_cloneBoolS h2) ?_) | (with_reducible refine zF (i:=1) [(0,[],[]),(1,[],[]),(3,[],[]),(4,[],[]),(2,[.tmp 6],[]),(5,[],[]),(6,[],[]),(7,[],[])] (by kernel_rfl) ?_)) <;> simp [-qt,-qd,-ql,rgs,uJ])
 exact finF2 (i:=nx + 10) (j:=nx + 11) zK (by omega) (by omega) (by omega) (by simp) (by simp) (by simp)
theorem f_cloneSpread {F:Nat → Bool} {s:Spr} (h1:s.told.length ≤ zY) (h2:s.work.length ≤ zY):FC ctx.P 243 [.agg (zC2 F s)] (.agg [.ref 0 1 0 s.told.length,.ref 1 1 0 s.work.length]) [.row 1 (s.told.map bv),.row 1 (s.work.map iv)]:=by
 refine FC.o okC Tryz.func243 rfl ((.one _ (.agg _ fun c hc=>by simp at hc;rcases hc with rfl | rfl <;> first | exact .ref _ _ _ _ (by simp) | exact .fz _ (.int _ _)))) ((fun e he=>by simp at he;rcases he with rfl | rfl <;> first | exact zS zE6 _ | exact zS zK1 _ | exact zS vK _ | exact zS zC7 _ | exact zS zC6 _)) fun h nx hnx => ?_
 try simp [-qt,-qd,-ql,rgs,zC2]
 repeat' first | done | ((first | ((with_reducible show zG _ _ _ 323 _ _);refine yD (f_cloneBoolS h1) ?_) | ((with_reducible show zG _ _ _ 249 _ _);refine yD (zE7 h2) ?_) | (with_reducible refine zF (i:=1) [(0,[],[]),(1,[],[]),(3,[],[]),(4,[],[]),(2,[.tmp 6],[]),(5,[],[]),(6,[],[]),(7,[],[])] (by kernel_rfl) ?_)) <;> simp [-qt,-qd,-ql,rgs,zC2])
 exact finF2 (i:=nx + 10) (j:=nx + 11) zK (by omega) (by omega) (by omega) (by simp) (by simp) (by simp)
theorem f_cloneTimers {F:Nat → Bool} {s:Tms} (h1:s.heap.length ≤ zY) (h2:s.list.length ≤ zY):FC ctx.P 244 [.agg (zA8 F s)] (.agg [.ref 0 3 0 s.heap.length,.ref 1 5 0 s.list.length,.int .i64 s.next]) [.row 3 (s.heap.map yQ),.row 5 (s.list.map vJ)]:=by
 refine FC.o okC Tryz.func244 rfl ((.one _ (.agg _ fun c hc=>by simp at hc;rcases hc with rfl | rfl | rfl <;> first | exact .ref _ _ _ _ (by simp) | exact .fz _ (.int _ _)))) ((fun e he=>by simp at he;rcases he with rfl | rfl <;> first | exact zS zE6 _ | exact zS zK1 _ | exact zS vK _ | exact zS zC7 _ | exact zS zC6 _)) fun h nx hnx => ?_
 try simp [-qt,-qd,-ql,rgs,zA8]
 repeat' first | done | ((first | ((with_reducible show zG _ _ _ 324 _ _);refine yD (zI5 h1) ?_) | ((with_reducible show zG _ _ _ 273 _ _);refine yD (f_cloneTimerS h2) ?_) | (with_reducible refine zF (i:=1) [(0,[],[]),(1,[],[]),(3,[],[]),(4,[],[]),(6,[],[]),(7,[],[]),(2,[.tmp 6,.tmp 9],[]),(5,[.tmp 9],[]),(8,[],[]),(9,[],[])] (by kernel_rfl) ?_)) <;> simp [-qt,-qd,-ql,rgs,zA8])
 exact finF2 (i:=nx + 12) (j:=nx + 13) zK (by omega) (by omega) (by omega) (by simp) (by simp) (by simp)
theorem f_cloneAfters {F:Nat → Bool} {s:Afs} (h1:s.slots.ages.length ≤ zY) (h2:s.slots.used.length ≤ zY) (h3:s.list.length ≤ zY):FC ctx.P 245 [.agg (zC3 F s)] (.agg [.ref 0 1 0 s.slots.ages.length,.ref 1 1 0 s.slots.used.length,.ref 2 5 0 s.list.length]) [.row 1 (s.slots.ages.map iv),.row 1 (s.slots.used.map bv),.row 5 (s.list.map vO)]:=by
 refine FC.o okC Tryz.func245 rfl ((.one _ (.agg _ fun c hc=>by simp at hc;rcases hc with rfl | rfl | rfl <;> first | exact .ref _ _ _ _ (by simp) | exact .fz _ (.int _ _)))) ((fun e he=>by simp at he;rcases he with rfl | rfl | rfl <;> first | exact zS zE6 _ | exact zS zK1 _ | exact zS vK _ | exact zS zC7 _ | exact zS zC6 _)) fun h nx hnx => ?_
 try simp [-qt,-qd,-ql,rgs,zC3,uJ]
 repeat' first | done | ((first | ((with_reducible show zG _ _ _ 325 _ _);refine yD (f_cloneSlots (s:=s.slots) (F:=F) h1 h2) ?_) | ((with_reducible show zG _ _ _ 326 _ _);refine yD (f_cloneAfterS h3) ?_) | (with_reducible refine zF (i:=1) [(0,[],[]),(1,[],[]),(3,[],[]),(4,[],[]),(2,[.tmp 6],[]),(5,[],[]),(6,[],[]),(7,[],[])] (by kernel_rfl) ?_)) <;> simp [-qt,-qd,-ql,rgs,zC3,uJ])
 exact finF3 (i:=nx + 10) (j:=nx + 11) (l:=nx + 12) zK (by omega) (by omega) (by omega) (by omega) (by omega) (by omega) (by simp) (by simp) (by simp) (by simp)
theorem f_cloneGroup {r:Bool} {g:Grp} (hm:g.waits.length ≤ zY):FC ctx.P 247 [.agg (vD r g)] (.agg (uB g 0)) [.row 1 (g.waits.map iv)]:=by
 refine FC.o okC Tryz.func247 rfl ((by simp only [uB];exact .one _ (.agg _ fun c hc=>by simp at hc;rcases hc with rfl | rfl | rfl | rfl | rfl <;> first | exact .ref _ _ _ _ (by simp) | exact .fz _ (.int _ _)))) ((fun e he=>by simp at he;subst he;exact zS zE6 _)) fun h nx hnx => ?_
 try simp [-qt,-qd,-ql,rgs,vD]
 repeat' first | done | ((first | ((with_reducible show zG _ _ _ 249 _ _);refine yD (zE7 hm) ?_)) <;> simp [-qt,-qd,-ql,rgs,vD])
 exact finF1 (i:=nx + 7) zK (by omega) (by simp) (by simp [uB])
end Go.AE.Tryz
end
section
/- Contracts of the program's copies of worlds as new rows. -/
set_option maxRecDepth 8000
set_option maxHeartbeats 4000000
namespace Go.AE.Tryz
open Go.Proofs
open List renaming map_take → qt,map_drop → qd,map_tail → ql
theorem w_clonedProgs {p r:Bool} {xs:List (List Inn)} (hm:xs.length ≤ zY) (hi:∀ x ∈ xs,x.length ≤ zY):AC ctx.P 240 [.view p 1 (xs.map (zD2 r))] (fun _ _=>True)
 (fun h nx v h' nx'=>KeepB nx h' h ∧ ∃ id is,v = .ref id 1 0 xs.length ∧ h' id = some (.row 1 (List.zipWith prgR xs is)) ∧ is.length = xs.length ∧ nx ≤ id ∧ id < nx' ∧ id ∉ is ∧ Subs h' 3 (fun x:List Inn=>x.map uC) xs is nx nx'):=by
 have hlim:xs.length ≤ LIM:=by simp only [zY,LIM] at *; omega
 refine AC.o okC Tryz.func240 rfl fun h nx hfr hnx hpre => ?_
 try simp [-qt,-qd,-ql,rgs]
 repeat' first | done | ((first | ((with_reducible show zU _ _ _ _ _ _);refine zB rfl fun _ => ?_) | ((with_reducible show zJ _ _ _ _ _ _ _);refine zC rfl omA omA ?_) | ((with_reducible show vZ _ _ _ _ _ _ _ _);refine zQ rfl rfl (by decide) (by decide) (by first | (simp [-qt,-qd,-ql,rgs];done) | (simp [-qt,-qd,-ql,rgs];rfl)) (by first | (simp [-qt,-qd,-ql,rgs];done) | (simp [-qt,-qd,-ql,rgs];rfl)) (by first | (simp;done) | (simp;omega)) (by first | (simp only [zY,LIM] at *; simp;omega) | (simp only [zY];simp;omega)) (by simp [iv,bv]) ?_)) <;> simp [-qt,-qd,-ql,rgs]) | ((first | (with_reducible refine zA ?_ ?_)) <;> intro qb <;> (have qp:=qb;try simp only [psq] at qp) <;> simp [-qt,-qd,-ql,rgs,qb])
 refine zW (h0:=h) (nx0:=nx) [3,5,9,10,11,12,13,14,15,16,17,18] (xs.length) (fun (i:Nat) a=>[(9,.int .i64 i),(3,.ref a.1 1 0 i)]) (fun i (a:Nat × List Nat) h' n'=>a.2.length = i ∧ h' a.1 = some (.row 1 (List.zipWith prgR xs a.2)) ∧ Subs h' 3 (fun x:List Inn=>x.map uC) xs a.2 nx n' ∧ nx ≤ a.1 ∧ a.1 < n' ∧ a.1 ∉ a.2) ((nx + 1,[])) (by simp) ?_ zK (by omega) ?_
 ·simp [Subs.nil]
 ·intro i a tm h' n' hle hJ hE hn' next hnx
  try dsimp only at hJ
  have hK:KeepB nx h' h:=KeepB.sub hE zK (by omega)
  simp [-qt,-qd,-ql]
  obtain ⟨g2,hJ,hS,g0,g1,g3⟩:=hJ
  obtain ⟨id,is⟩:=a
  dsimp only at g2 hJ hS g0 g1 g3 ⊢
  subst g2
  have k1:∀ k,(id = n' + k) = False:=fun k=>by simp only [eq_iff_iff,iff_false];omega
  by_cases hlt:is.length < xs.length
  ·try simp [-qt,-qd,-ql,rgs,zD2,k1,hJ,hlt]
   repeat' first | done | ((first | ((with_reducible show zU _ _ _ _ _ _);refine zB rfl fun _ => ?_) | ((with_reducible show zJ _ _ _ _ _ _ _);refine zC rfl omA omA ?_) | ((with_reducible show zG _ _ _ 322 _ _);refine yD (f_cloneInsS (hi _ (zE3 (by omega) (by omega)))) ?_) | ((with_reducible show vZ _ _ _ _ _ _ _ _);refine zQ rfl rfl (by decide) (by decide) (by first | (simp [-qt,-qd,-ql,rgs,zD2,k1,hJ,hlt];done) | (simp [-qt,-qd,-ql,rgs,zD2,k1,hJ,hlt];rfl)) (by first | (simp [-qt,-qd,-ql,rgs,zD2,k1,hJ,hlt];done) | (simp [-qt,-qd,-ql,rgs,zD2,k1,hJ,hlt];rfl)) (by first | (simp;done) | (simp;omega)) (by first | (simp only [zY,LIM] at *; simp;omega) | (simp only [zY];simp;omega)) (by simp [iv,bv]) ?_)) <;> simp [-qt,-qd,-ql,rgs,zD2,k1,hJ,hlt]) | ((first | (with_reducible refine zA ?_ ?_)) <;> intro qb <;> (have qp:=qb;try simp only [psq] at qp) <;> simp [-qt,-qd,-ql,rgs,zD2,k1,hJ,hlt,qb])
   refine hnx.go (n' + 8,is ++ [n' + 10]) (by omega) (by simp [zM hlt hlim]) (by simp) zK (by first | omega | (simp;omega)) ?_
   dsimp only
   refine ⟨by simp,?_,hS.snoc (fun k hk => ?_) ?_ (by omega) (by omega) (by omega),by omega,by omega,?_⟩
   ·rw [zM8 hlt,zL];rfl
   ·have:=hS.hi k hk
    have hne:k ≠ id:=fun e=>g3 (e ▸ hk)
    rw [zI _ _ _ _ (by omega),zI _ _ _ _ hne,zI _ _ _ _ (by omega),zI _ _ _ _ (by omega)]
   ·rw [zI _ _ _ _ (by omega),zI _ _ _ _ (by omega),zI _ _ _ _ (by omega),zL]
   ·intro hm
    rcases List.mem_append.1 hm with hm | hm
    ·have:=hS.hi _ hm;omega
    ·simp at hm
  ·try simp [-qt,-qd,-ql,rgs,k1,hJ,hlt]
   repeat' first | done | ((first | ((with_reducible show zU _ _ _ _ _ _);refine zB rfl fun _ => ?_) | ((with_reducible show zJ _ _ _ _ _ _ _);refine zC rfl omA omA ?_) | ((with_reducible show vZ _ _ _ _ _ _ _ _);refine zQ rfl rfl (by decide) (by decide) (by first | (simp [-qt,-qd,-ql,rgs,k1,hJ,hlt];done) | (simp [-qt,-qd,-ql,rgs,k1,hJ,hlt];rfl)) (by first | (simp [-qt,-qd,-ql,rgs,k1,hJ,hlt];done) | (simp [-qt,-qd,-ql,rgs,k1,hJ,hlt];rfl)) (by first | (simp;done) | (simp;omega)) (by first | (simp only [zY,LIM] at *; simp;omega) | (simp only [zY];simp;omega)) (by simp [iv,bv]) ?_)) <;> simp [-qt,-qd,-ql,rgs,k1,hJ,hlt]) | ((first | (with_reducible refine zA ?_ ?_)) <;> intro qb <;> (have qp:=qb;try simp only [psq] at qp) <;> simp [-qt,-qd,-ql,rgs,k1,hJ,hlt,qb])
   have he:is.length = xs.length:=by omega
   exact ⟨zK,id,⟨rfl,he⟩,is,hJ,he,g0,by omega,g3,hS.keep (fun _ _=>rfl) (Nat.le_refl _) (by omega)⟩
theorem w_clonedA {F:Nat → Bool} {w:Wld} (hs:zC9 w ≤ 1048576):AC ctx.P 138 [.agg (wldV F w)] (fun _ _=>True)
 (fun h nx v h' nx'=>KeepB nx h' h ∧ ∃ X,v = .agg (vN X w) ∧ WV h' X w ∧ ∀ id ∈ X.ids,nx ≤ id ∧ id < nx'):=by
 simp only [zC9,afssz,tmssz,sprsz,sltsz] at hs
 have hm:zY = 1099511627776:=rfl
 have hL:LIM = 140737488355328:=rfl
 have hlim:w.groups.length ≤ LIM:=by omega
 refine AC.ghost ?_
 refine AC.o okC Tryz.func138 rfl fun h nx hfr hnx hpre => ?_
 try simp [-qt,-qd,-ql,rgs,wldV]
 repeat' first | done | ((first | ((with_reducible show zU _ _ _ _ _ _);refine zB rfl fun _ => ?_) | ((with_reducible show zJ _ _ _ _ _ _ _);refine zC rfl omA omA ?_) | ((with_reducible show vZ _ _ _ _ _ _ _ _);refine zQ rfl rfl (by decide) (by decide) (by first | (simp [-qt,-qd,-ql,rgs,wldV];done) | (simp [-qt,-qd,-ql,rgs,wldV];rfl)) (by first | (simp [-qt,-qd,-ql,rgs,wldV];done) | (simp [-qt,-qd,-ql,rgs,wldV];rfl)) (by first | (simp;done) | (simp;omega)) (by first | (simp only [zY,LIM] at *; simp;omega) | (simp only [zY];simp;omega)) (by simp [iv,bv]) ?_) | (with_reducible refine zF (i:=2) [(0,[],[]),(1,[],[]),(3,[],[]),(4,[],[]),(6,[],[]),(7,[],[]),(2,[.tmp 10,.tmp 13],[]),(9,[],[]),(5,[.tmp 13],[]),(8,[],[]),(10,[],[]),(11,[],[]),(12,[],[]),(13,[],[]),(14,[],[])] (by kernel_rfl) ?_) | (with_reducible refine zF (i:=3) [(0,[],[]),(1,[],[]),(3,[],[]),(4,[],[]),(6,[],[]),(7,[],[]),(2,[.tmp 22,.tmp 25],[]),(9,[],[]),(5,[.tmp 25],[]),(8,[],[]),(10,[],[]),(11,[],[]),(12,[],[]),(13,[],[]),(14,[],[])] (by kernel_rfl) ?_) | (with_reducible refine zF (i:=8) [(0,[],[]),(1,[],[4]),(2,[],[]),(3,[.tmp 43],[]),(4,[],[]),(5,[],[]),(6,[],[]),(7,[],[])] (by kernel_rfl) ?_) | (with_reducible refine zF (i:=10) [(0,[],[]),(1,[],[]),(3,[],[]),(4,[],[]),(6,[],[]),(7,[],[]),(2,[.tmp 54,.tmp 57],[]),(9,[],[]),(5,[.tmp 57],[]),(8,[],[]),(10,[],[]),(11,[],[]),(12,[],[]),(13,[],[]),(14,[],[])] (by kernel_rfl) ?_)) <;> simp [-qt,-qd,-ql,rgs,wldV]) | ((first | (with_reducible refine zA ?_ ?_)) <;> intro qb <;> (have qp:=qb;try simp only [psq] at qp) <;> simp [-qt,-qd,-ql,rgs,wldV,qb])
 refine yX (w_clonedProgs (by omega) (fun x hx=>by have:=zD0 (·.length) hx;omega)) trivial ?_
 rintro r h1 n1 ⟨hK1,ip,isp,rfl,hrow1,hlen1,hlo1,hhi1,hni1,hS1⟩ hle1 hfr1
 dsimp only at hK1 hlo1 hle1 hS1
 have g0:=hK1 nx (by omega)
 have g1:=hK1 (nx + 1) (by omega)
 have g3:=hK1 (nx + 3) (by omega)
 simp at g0 g1 g3
 have k0:∀ k,(nx = n1 + k) = False:=fun k=>by simp only [eq_iff_iff,iff_false];omega
 have k3:∀ k,(nx + 3 = n1 + k) = False:=fun k=>by simp only [eq_iff_iff,iff_false];omega
 have k1:∀ k,(nx + 1 = n1 + k) = False:=fun k=>by simp only [eq_iff_iff,iff_false];omega
 have j0:(nx = n1) = False:=by simp only [eq_iff_iff,iff_false];omega
 have j1:(nx + 1 = n1) = False:=by simp only [eq_iff_iff,iff_false];omega
 have j3:(nx + 3 = n1) = False:=by simp only [eq_iff_iff,iff_false];omega
 try simp [-qt,-qd,-ql,rgs,wldV,g0,g1,g3,k0,k1,k3,j0,j1,j3]
 repeat' first | done | ((first | ((with_reducible show zU _ _ _ _ _ _);refine zB rfl fun _ => ?_) | ((with_reducible show zJ _ _ _ _ _ _ _);refine zC rfl omA omA ?_) | ((with_reducible show zG _ _ _ 241 _ _);refine yD (f_cloneNodeS (by omega)) ?_) | ((with_reducible show zG _ _ _ 242 _ _);refine yD (f_cloneEventS (by omega)) ?_) | ((with_reducible show zG _ _ _ 243 _ _);refine yD (f_cloneSpread (s:=w.spread) (F:=F) (by omega) (by omega)) ?_) | ((with_reducible show zG _ _ _ 244 _ _);refine yD (f_cloneTimers (s:=w.timers) (F:=F) (by omega) (by omega)) ?_) | ((with_reducible show zG _ _ _ 245 _ _);refine yD (f_cloneAfters (s:=w.afters) (F:=F) (by omega) (by omega) (by omega)) ?_) | ((with_reducible show zG _ _ _ 246 _ _);refine yD (f_cloneTaskS (by omega)) ?_) | ((with_reducible show vZ _ _ _ _ _ _ _ _);refine zQ rfl rfl (by decide) (by decide) (by first | (simp [-qt,-qd,-ql,rgs,wldV,g0,g1,g3,k0,k1,k3,j0,j1,j3];done) | (simp [-qt,-qd,-ql,rgs,wldV,g0,g1,g3,k0,k1,k3,j0,j1,j3];rfl)) (by first | (simp [-qt,-qd,-ql,rgs,wldV,g0,g1,g3,k0,k1,k3,j0,j1,j3];done) | (simp [-qt,-qd,-ql,rgs,wldV,g0,g1,g3,k0,k1,k3,j0,j1,j3];rfl)) (by first | (simp;done) | (simp;omega)) (by first | (simp only [zY,LIM] at *; simp;omega) | (simp only [zY];simp;omega)) (by simp [iv,bv]) ?_) | (with_reducible refine zF (i:=2) [(0,[],[]),(1,[],[]),(3,[],[]),(4,[],[]),(6,[],[]),(7,[],[]),(2,[.tmp 10,.tmp 13],[]),(9,[],[]),(5,[.tmp 13],[]),(8,[],[]),(10,[],[]),(11,[],[]),(12,[],[]),(13,[],[]),(14,[],[])] (by kernel_rfl) ?_) | (with_reducible refine zF (i:=3) [(0,[],[]),(1,[],[]),(3,[],[]),(4,[],[]),(6,[],[]),(7,[],[]),(2,[.tmp 22,.tmp 25],[]),(9,[],[]),(5,[.tmp 25],[]),(8,[],[]),(10,[],[]),(11,[],[]),(12,[],[]),(13,[],[]),(14,[],[])] (by kernel_rfl) ?_) | (with_reducible refine zF (i:=8) [(0,[],[]),(1,[],[4]),(2,[],[]),(3,[.tmp 43],[]),(4,[],[]),(5,[],[]),(6,[],[]),(7,[],[])] (by kernel_rfl) ?_) | (with_reducible refine zF (i:=10) [(0,[],[]),(1,[],[]),(3,[],[]),(4,[],[]),(6,[],[]),(7,[],[]),(2,[.tmp 54,.tmp 57],[]),(9,[],[]),(5,[.tmp 57],[]),(8,[],[]),(10,[],[]),(11,[],[]),(12,[],[]),(13,[],[]),(14,[],[])] (by kernel_rfl) ?_)) <;> simp [-qt,-qd,-ql,rgs,wldV,g0,g1,g3,k0,k1,k3,j0,j1,j3]) | ((first | (with_reducible refine zA ?_ ?_)) <;> intro qb <;> (have qp:=qb;try simp only [psq] at qp) <;> simp [-qt,-qd,-ql,rgs,wldV,g0,g1,g3,k0,k1,k3,j0,j1,j3,qb])
 generalize hH:upd _ (nx + 3) (some (Ent.obj [.int .i64 w.now,.ref ip 1 0 w.progs.length,.ref n1 5 0 w.tree.length,.ref (n1 + 1) 4 0 w.events.length,.ref (n1 + 17) 1 0 w.spread.told.length,.ref (n1 + 18) 1 0 w.spread.work.length,.ref (n1 + 19) 3 0 w.timers.heap.length,.ref (n1 + 20) 5 0 w.timers.list.length,.int .i64 w.timers.next,.ref (n1 + 21) 1 0 w.afters.slots.ages.length,.ref (n1 + 22) 1 0 w.afters.slots.used.length,.ref (n1 + 23) 5 0 w.afters.list.length,.ref (n1 + 31) 9 0 w.tasks.length,.nil,.view (F 14) 4 (w.sights.map zA6),.view (F 15) 1 (w.began.map iv),.view (F 16) 1 (w.rang.map iv)])) = H2
 have o2:H2 (nx + 3) = some (Ent.obj [.int .i64 w.now,.ref ip 1 0 w.progs.length,.ref n1 5 0 w.tree.length,.ref (n1 + 1) 4 0 w.events.length,.ref (n1 + 17) 1 0 w.spread.told.length,.ref (n1 + 18) 1 0 w.spread.work.length,.ref (n1 + 19) 3 0 w.timers.heap.length,.ref (n1 + 20) 5 0 w.timers.list.length,.int .i64 w.timers.next,.ref (n1 + 21) 1 0 w.afters.slots.ages.length,.ref (n1 + 22) 1 0 w.afters.slots.used.length,.ref (n1 + 23) 5 0 w.afters.list.length,.ref (n1 + 31) 9 0 w.tasks.length,.nil,.view (F 14) 4 (w.sights.map zA6),.view (F 15) 1 (w.began.map iv),.view (F 16) 1 (w.rang.map iv)]):=by rw [← hH,zL]
 have a2:H2 nx = some (Ent.obj (wldV F w)):=by
  rw [← hH]
  repeat rw [zI _ _ _ _ (by omega)]
  rw [g0];rfl
 have z2:H2 (nx + 1) = h1 (nx + 1):=by
  rw [← hH]
  repeat rw [zI _ _ _ _ (by omega)]
 rw [g1] at z2
 have hK2:KeepB nx H2 h:=fun j hj=>by
  rw [← hH]
  repeat rw [zI _ _ _ _ (by omega)]
  rw [hK1 j (by omega)]
  repeat rw [zI _ _ _ _ (by omega)]
 have q0:H2 ip = some (.row 1 (List.zipWith prgR w.progs isp)):=by
  rw [← hH]
  repeat rw [zI _ _ _ _ (by omega)]
  exact hrow1
 have qs:∀ i ∈ isp,H2 i = h1 i:=fun i hi=>by
  have:=hS1.lo i hi
  have:=hS1.hi i hi
  rw [← hH]
  repeat rw [zI _ _ _ _ (by omega)]
 have q1:H2 n1 = some (.row 5 (w.tree.map yC)):=by
  rw [← hH]
  repeat (first | exact zL .. | rw [zI _ _ _ _ (by omega)])
 have q2:H2 (n1 + 1) = some (.row 4 (w.events.map yS)):=by
  rw [← hH]
  repeat (first | exact zL .. | rw [zI _ _ _ _ (by omega)])
 have q3:H2 (n1 + 17) = some (.row 1 (w.spread.told.map bv)):=by
  rw [← hH]
  repeat (first | exact zL .. | rw [zI _ _ _ _ (by omega)])
 have q4:H2 (n1 + 18) = some (.row 1 (w.spread.work.map iv)):=by
  rw [← hH]
  repeat (first | exact zL .. | rw [zI _ _ _ _ (by omega)])
 have q5:H2 (n1 + 19) = some (.row 3 (w.timers.heap.map yQ)):=by
  rw [← hH]
  repeat (first | exact zL .. | rw [zI _ _ _ _ (by omega)])
 have q6:H2 (n1 + 20) = some (.row 5 (w.timers.list.map vJ)):=by
  rw [← hH]
  repeat (first | exact zL .. | rw [zI _ _ _ _ (by omega)])
 have q7:H2 (n1 + 21) = some (.row 1 (w.afters.slots.ages.map iv)):=by
  rw [← hH]
  repeat (first | exact zL .. | rw [zI _ _ _ _ (by omega)])
 have q8:H2 (n1 + 22) = some (.row 1 (w.afters.slots.used.map bv)):=by
  rw [← hH]
  repeat (first | exact zL .. | rw [zI _ _ _ _ (by omega)])
 have q9:H2 (n1 + 23) = some (.row 5 (w.afters.list.map vO)):=by
  rw [← hH]
  repeat (first | exact zL .. | rw [zI _ _ _ _ (by omega)])
 have q10:H2 (n1 + 31) = some (.row 9 (w.tasks.map vU)):=by
  rw [← hH]
  repeat (first | exact zL .. | rw [zI _ _ _ _ (by omega)])
 clear hH
 refine zW (h0:=h) (nx0:=nx) [5,39,40,41,42,43,44,45,46,47,48,49,50] (w.groups.length) (fun (i:Nat) a=>[(39,.int .i64 i)]) (fun i (a:Nat × List Nat) h' n'=>a.2.length = i ∧ h' (nx + 3) = some (Ent.obj [.int .i64 w.now,.ref ip 1 0 w.progs.length,.ref n1 5 0 w.tree.length,.ref (n1 + 1) 4 0 w.events.length,.ref (n1 + 17) 1 0 w.spread.told.length,.ref (n1 + 18) 1 0 w.spread.work.length,.ref (n1 + 19) 3 0 w.timers.heap.length,.ref (n1 + 20) 5 0 w.timers.list.length,.int .i64 w.timers.next,.ref (n1 + 21) 1 0 w.afters.slots.ages.length,.ref (n1 + 22) 1 0 w.afters.slots.used.length,.ref (n1 + 23) 5 0 w.afters.list.length,.ref (n1 + 31) 9 0 w.tasks.length,(if i = 0 then .nil else .ref a.1 5 0 i),.view (F 14) 4 (w.sights.map zA6),.view (F 15) 1 (w.began.map iv),.view (F 16) 1 (w.rang.map iv)]) ∧ (0 < i → h' a.1 = some (.row 5 (List.zipWith uB w.groups a.2)) ∧ n1 + 36 ≤ a.1 ∧ a.1 < n' ∧ a.1 ∉ a.2) ∧ Subs h' 1 (fun x:Grp=>x.waits.map iv) w.groups a.2 (n1 + 36) n' ∧ n1 + 36 ≤ n' ∧ ∀ j,j < n1 + 36 → j ≠ nx + 3 → h' j = H2 j) ((0,[])) (by simp) ?_ zK (by omega) ?_
 ·simp [Subs.nil,o2]
 ·intro i a tm h' n' hle hJ hE hn' next hnx
  try dsimp only at hJ
  have hK:KeepB nx h' h:=KeepB.sub hE zK (by omega)
  simp [-qt,-qd,-ql]
  obtain ⟨id,is⟩:=a
  obtain ⟨e0,hO,hR,hS,hn2,hF⟩:=hJ
  dsimp only at e0 hO hR hS hn2 hF ⊢
  subst e0
  have aN:=hF nx (by omega) (by omega)
  rw [a2] at aN
  have zN:=hF (nx + 1) (by omega) (by omega)
  rw [z2] at zN
  have k5:∀ k,(nx = n' + k) = False:=fun k=>by simp only [eq_iff_iff,iff_false];omega
  have k6:∀ k,(nx + 3 = n' + k) = False:=fun k=>by simp only [eq_iff_iff,iff_false];omega
  have k7:∀ k,(nx + 1 = n' + k) = False:=fun k=>by simp only [eq_iff_iff,iff_false];omega
  have k8:(nx = n') = False:=by simp only [eq_iff_iff,iff_false];omega
  have k9:(nx + 1 = n') = False:=by simp only [eq_iff_iff,iff_false];omega
  have kA:(nx + 2 = n') = False:=by simp only [eq_iff_iff,iff_false];omega
  have kB:(nx + 3 = n') = False:=by simp only [eq_iff_iff,iff_false];omega
  by_cases hlt:is.length < w.groups.length
  ·by_cases h0:is.length = 0
   ·have hc:(gt w.groups (is.length:Int)).waits.length ≤ zY:=by have:=zD0 (·.waits.length) (zE3 (show (0:Int) ≤ (is.length:Int) by omega) (show (is.length:Int) < w.groups.length by omega));omega
    rw [if_pos h0] at hO
    try simp [-qt,-qd,-ql,rgs,hO,aN,wldV,vD,uB,hlt,k5,k6,k7,k8,k9,kA,kB]
    repeat' first | done | ((first | ((with_reducible show zU _ _ _ _ _ _);refine zB rfl fun _ => ?_) | ((with_reducible show zJ _ _ _ _ _ _ _);refine zC rfl omA omA ?_) | ((with_reducible show zG _ _ _ 247 _ _);refine yD (f_cloneGroup (r:=F 13) (g:=gt w.groups (is.length:Int)) hc) ?_) | ((with_reducible show vZ _ _ _ _ _ _ _ _);refine zQ rfl rfl (by decide) (by decide) (by first | (simp [-qt,-qd,-ql,rgs,hO,aN,wldV,vD,uB,hlt,k5,k6,k7,k8,k9,kA,kB];done) | (simp [-qt,-qd,-ql,rgs,hO,aN,wldV,vD,uB,hlt,k5,k6,k7,k8,k9,kA,kB];rfl)) (by first | (simp [-qt,-qd,-ql,rgs,hO,aN,wldV,vD,uB,hlt,k5,k6,k7,k8,k9,kA,kB];done) | (simp [-qt,-qd,-ql,rgs,hO,aN,wldV,vD,uB,hlt,k5,k6,k7,k8,k9,kA,kB];rfl)) (by first | (simp;done) | (simp;omega)) (by first | (simp only [zY,LIM] at *; simp;omega) | (simp only [zY];simp;omega)) (by simp [iv,bv]) ?_) | (with_reducible refine zF (i:=2) [(0,[],[]),(1,[],[]),(3,[],[]),(4,[],[]),(6,[],[]),(7,[],[]),(2,[.tmp 10,.tmp 13],[]),(9,[],[]),(5,[.tmp 13],[]),(8,[],[]),(10,[],[]),(11,[],[]),(12,[],[]),(13,[],[]),(14,[],[])] (by kernel_rfl) ?_) | (with_reducible refine zF (i:=3) [(0,[],[]),(1,[],[]),(3,[],[]),(4,[],[]),(6,[],[]),(7,[],[]),(2,[.tmp 22,.tmp 25],[]),(9,[],[]),(5,[.tmp 25],[]),(8,[],[]),(10,[],[]),(11,[],[]),(12,[],[]),(13,[],[]),(14,[],[])] (by kernel_rfl) ?_) | (with_reducible refine zF (i:=8) [(0,[],[]),(1,[],[4]),(2,[],[]),(3,[.tmp 43],[]),(4,[],[]),(5,[],[]),(6,[],[]),(7,[],[])] (by kernel_rfl) ?_) | (with_reducible refine zF (i:=10) [(0,[],[]),(1,[],[]),(3,[],[]),(4,[],[]),(6,[],[]),(7,[],[]),(2,[.tmp 54,.tmp 57],[]),(9,[],[]),(5,[.tmp 57],[]),(8,[],[]),(10,[],[]),(11,[],[]),(12,[],[]),(13,[],[]),(14,[],[])] (by kernel_rfl) ?_)) <;> simp [-qt,-qd,-ql,rgs,hO,aN,wldV,vD,uB,hlt,k5,k6,k7,k8,k9,kA,kB]) | ((first | (with_reducible refine zA ?_ ?_)) <;> intro qb <;> (have qp:=qb;try simp only [psq] at qp) <;> simp [-qt,-qd,-ql,rgs,hO,aN,wldV,vD,uB,hlt,k5,k6,k7,k8,k9,kA,kB,qb])
    refine app_nil rfl (by decide) (by decide) (by simp;rfl) (by simp [zY]) (by simp) ?_
    try simp [-qt,-qd,-ql,rgs,hO,aN,wldV,vD,uB,hlt,k5,k6,k7,k8,k9,kA,kB]
    repeat' first | done | ((first | ((with_reducible show zU _ _ _ _ _ _);refine zB rfl fun _ => ?_) | ((with_reducible show zJ _ _ _ _ _ _ _);refine zC rfl omA omA ?_) | ((with_reducible show vZ _ _ _ _ _ _ _ _);refine zQ rfl rfl (by decide) (by decide) (by first | (simp [-qt,-qd,-ql,rgs,hO,aN,wldV,vD,uB,hlt,k5,k6,k7,k8,k9,kA,kB];done) | (simp [-qt,-qd,-ql,rgs,hO,aN,wldV,vD,uB,hlt,k5,k6,k7,k8,k9,kA,kB];rfl)) (by first | (simp [-qt,-qd,-ql,rgs,hO,aN,wldV,vD,uB,hlt,k5,k6,k7,k8,k9,kA,kB];done) | (simp [-qt,-qd,-ql,rgs,hO,aN,wldV,vD,uB,hlt,k5,k6,k7,k8,k9,kA,kB];rfl)) (by first | (simp;done) | (simp;omega)) (by first | (simp only [zY,LIM] at *; simp;omega) | (simp only [zY];simp;omega)) (by simp [iv,bv]) ?_) | (with_reducible refine zF (i:=2) [(0,[],[]),(1,[],[]),(3,[],[]),(4,[],[]),(6,[],[]),(7,[],[]),(2,[.tmp 10,.tmp 13],[]),(9,[],[]),(5,[.tmp 13],[]),(8,[],[]),(10,[],[]),(11,[],[]),(12,[],[]),(13,[],[]),(14,[],[])] (by kernel_rfl) ?_) | (with_reducible refine zF (i:=3) [(0,[],[]),(1,[],[]),(3,[],[]),(4,[],[]),(6,[],[]),(7,[],[]),(2,[.tmp 22,.tmp 25],[]),(9,[],[]),(5,[.tmp 25],[]),(8,[],[]),(10,[],[]),(11,[],[]),(12,[],[]),(13,[],[]),(14,[],[])] (by kernel_rfl) ?_) | (with_reducible refine zF (i:=8) [(0,[],[]),(1,[],[4]),(2,[],[]),(3,[.tmp 43],[]),(4,[],[]),(5,[],[]),(6,[],[]),(7,[],[])] (by kernel_rfl) ?_) | (with_reducible refine zF (i:=10) [(0,[],[]),(1,[],[]),(3,[],[]),(4,[],[]),(6,[],[]),(7,[],[]),(2,[.tmp 54,.tmp 57],[]),(9,[],[]),(5,[.tmp 57],[]),(8,[],[]),(10,[],[]),(11,[],[]),(12,[],[]),(13,[],[]),(14,[],[])] (by kernel_rfl) ?_)) <;> simp [-qt,-qd,-ql,rgs,hO,aN,wldV,vD,uB,hlt,k5,k6,k7,k8,k9,kA,kB]) | ((first | (with_reducible refine zA ?_ ?_)) <;> intro qb <;> (have qp:=qb;try simp only [psq] at qp) <;> simp [-qt,-qd,-ql,rgs,hO,aN,wldV,vD,uB,hlt,k5,k6,k7,k8,k9,kA,kB,qb])
    refine hnx.go (n' + 10,is ++ [n' + 13]) (by omega) (by simp [zM hlt hlim]) (by simp) zK (by first | omega | (simp;omega)) ?_
    dsimp only
    refine ⟨by simp,?_,fun _=>⟨?_,by omega,by omega,?_⟩,hS.snoc (fun k hk => ?_) ?_ (by omega) (by omega) (by omega),by omega,fun j hj hj2 => ?_⟩
    ·rw [zL,if_neg (by omega)]
     try simp
     try exact List.eq_nil_of_length_eq_zero h0
    ·rw [zM8 hlt]
     repeat (first | rw [zI _ _ _ _ (by omega)] | rw [zL])
     simp [uB]
     right;exact List.eq_nil_of_length_eq_zero h0
    ·intro hm
     rcases List.mem_append.1 hm with hm | hm
     ·have:=hS.hi _ hm;omega
     ·simp at hm
    ·have:=hS.hi k hk
     have:=hS.lo k hk
     repeat rw [zI _ _ _ _ (by omega)]
    ·repeat (first | rw [zI _ _ _ _ (by omega)] | rw [zL])
    ·repeat rw [zI _ _ _ _ (by omega)]
     exact hF j hj hj2
   ·have hc:(gt w.groups (is.length:Int)).waits.length ≤ zY:=by have:=zD0 (·.waits.length) (zE3 (show (0:Int) ≤ (is.length:Int) by omega) (show (is.length:Int) < w.groups.length by omega));omega
    rw [if_neg h0] at hO
    obtain ⟨hR1,hR2,hR3,hR4⟩:=hR (by omega)
    have m1:∀ k,(id = n' + k) = False:=fun k=>by simp only [eq_iff_iff,iff_false];omega
    have m2:∀ k,(nx + k = id) = (nx + k = id):=fun k=>rfl
    have m3:(nx + 3 = id) = False:=by simp only [eq_iff_iff,iff_false];omega
    have m4:(nx = id) = False:=by simp only [eq_iff_iff,iff_false];omega
    try simp [-qt,-qd,-ql,rgs,hO,hR1,aN,wldV,vD,uB,hlt,k5,k6,k7,k8,k9,kA,kB,m1,m3,m4]
    repeat' first | done | ((first | ((with_reducible show zU _ _ _ _ _ _);refine zB rfl fun _ => ?_) | ((with_reducible show zJ _ _ _ _ _ _ _);refine zC rfl omA omA ?_) | ((with_reducible show zG _ _ _ 247 _ _);refine yD (f_cloneGroup (r:=F 13) (g:=gt w.groups (is.length:Int)) hc) ?_) | ((with_reducible show vZ _ _ _ _ _ _ _ _);refine zQ rfl rfl (by decide) (by decide) (by first | (simp [-qt,-qd,-ql,rgs,hO,hR1,aN,wldV,vD,uB,hlt,k5,k6,k7,k8,k9,kA,kB,m1,m3,m4];done) | (simp [-qt,-qd,-ql,rgs,hO,hR1,aN,wldV,vD,uB,hlt,k5,k6,k7,k8,k9,kA,kB,m1,m3,m4];rfl)) (by first | (simp [-qt,-qd,-ql,rgs,hO,hR1,aN,wldV,vD,uB,hlt,k5,k6,k7,k8,k9,kA,kB,m1,m3,m4];done) | (simp [-qt,-qd,-ql,rgs,hO,hR1,aN,wldV,vD,uB,hlt,k5,k6,k7,k8,k9,kA,kB,m1,m3,m4];rfl)) (by first | (simp;done) | (simp;omega)) (by first | (simp only [zY,LIM] at *; simp;omega) | (simp only [zY];simp;omega)) (by simp [iv,bv]) ?_) | (with_reducible refine zF (i:=2) [(0,[],[]),(1,[],[]),(3,[],[]),(4,[],[]),(6,[],[]),(7,[],[]),(2,[.tmp 10,.tmp 13],[]),(9,[],[]),(5,[.tmp 13],[]),(8,[],[]),(10,[],[]),(11,[],[]),(12,[],[]),(13,[],[]),(14,[],[])] (by kernel_rfl) ?_) | (with_reducible refine zF (i:=3) [(0,[],[]),(1,[],[]),(3,[],[]),(4,[],[]),(6,[],[]),(7,[],[]),(2,[.tmp 22,.tmp 25],[]),(9,[],[]),(5,[.tmp 25],[]),(8,[],[]),(10,[],[]),(11,[],[]),(12,[],[]),(13,[],[]),(14,[],[])] (by kernel_rfl) ?_) | (with_reducible refine zF (i:=8) [(0,[],[]),(1,[],[4]),(2,[],[]),(3,[.tmp 43],[]),(4,[],[]),(5,[],[]),(6,[],[]),(7,[],[])] (by kernel_rfl) ?_) | (with_reducible refine zF (i:=10) [(0,[],[]),(1,[],[]),(3,[],[]),(4,[],[]),(6,[],[]),(7,[],[]),(2,[.tmp 54,.tmp 57],[]),(9,[],[]),(5,[.tmp 57],[]),(8,[],[]),(10,[],[]),(11,[],[]),(12,[],[]),(13,[],[]),(14,[],[])] (by kernel_rfl) ?_)) <;> simp [-qt,-qd,-ql,rgs,hO,hR1,aN,wldV,vD,uB,hlt,k5,k6,k7,k8,k9,kA,kB,m1,m3,m4]) | ((first | (with_reducible refine zA ?_ ?_)) <;> intro qb <;> (have qp:=qb;try simp only [psq] at qp) <;> simp [-qt,-qd,-ql,rgs,hO,hR1,aN,wldV,vD,uB,hlt,k5,k6,k7,k8,k9,kA,kB,m1,m3,m4,qb])
    refine hnx.go (n' + 10,is ++ [n' + 13]) (by omega) (by simp [zM hlt hlim]) (by simp) zK (by first | omega | (simp;omega)) ?_
    dsimp only
    refine ⟨by simp,?_,fun _=>⟨?_,by omega,by omega,?_⟩,hS.snoc (fun k hk => ?_) ?_ (by omega) (by omega) (by omega),by omega,fun j hj hj2 => ?_⟩
    ·rw [zL,if_neg (by omega)]
     try simp
     try exact List.eq_nil_of_length_eq_zero h0
    ·rw [zM8 hlt]
     repeat (first | rw [zI _ _ _ _ (by omega)] | rw [zL])
     simp [uB]
    ·intro hm
     rcases List.mem_append.1 hm with hm | hm
     ·have:=hS.hi _ hm;omega
     ·simp at hm
    ·have:=hS.hi k hk
     have:=hS.lo k hk
     have hne:k ≠ id:=fun e=>hR4 (e ▸ hk)
     repeat rw [zI _ _ _ _ (by omega)]
    ·repeat (first | rw [zI _ _ _ _ (by omega)] | rw [zL])
    ·repeat rw [zI _ _ _ _ (by omega)]
     exact hF j hj hj2
  ·have he:is.length = w.groups.length:=by omega
   have key:∀ (HF:zZ) (id nn gl:Nat),gl = w.groups.length → (∀ j,j < n1 + 36 → j ≠ nx + 3 → j ≠ nx + 1 → HF j = H2 j) → (∀ k ∈ is,HF k = h' k) → HF id = some (.row 5 (List.zipWith uB w.groups is)) → HF (n' + 16) = some (.row 4 (w.sights.map zA6)) → HF (n' + 17) = some (.row 1 (w.began.map iv)) → HF (n' + 18) = some (.row 1 (w.rang.map iv)) →
    n1 + 36 ≤ id → id ∉ is → (id < n' ∨ n' + 18 < id) → id < nn → n' + 21 ≤ nn → KeepB nx HF h ∧ ∃ X,AV.agg [.int .i64 w.now,.ref ip 1 0 w.progs.length,.ref n1 5 0 w.tree.length,.ref (n1 + 1) 4 0 w.events.length,.ref (n1 + 17) 1 0 w.spread.told.length,.ref (n1 + 18) 1 0 w.spread.work.length,.ref (n1 + 19) 3 0 w.timers.heap.length,.ref (n1 + 20) 5 0 w.timers.list.length,.int .i64 w.timers.next,.ref (n1 + 21) 1 0 w.afters.slots.ages.length,.ref (n1 + 22) 1 0 w.afters.slots.used.length,.ref (n1 + 23) 5 0 w.afters.list.length,.ref (n1 + 31) 9 0 w.tasks.length,.ref id 5 0 gl,.ref (n' + 16) 4 0 w.sights.length,.ref (n' + 17) 1 0 w.began.length,.ref (n' + 18) 1 0 w.rang.length] = AV.agg (vN X w) ∧ WV HF X w ∧ ∀ i ∈ X.ids,nx ≤ i ∧ i < nn:=by
    intro HF id nn gl hgl c1 c2 c3 c4 c5 c6 c7 c8 c9 c10 c11
    subst hgl
    have t0:=(c1 ip (by omega) (by omega) (by omega)).trans q0
    have t1:=(c1 n1 (by omega) (by omega) (by omega)).trans q1
    have t2:=(c1 (n1 + 1) (by omega) (by omega) (by omega)).trans q2
    have t3:=(c1 (n1 + 17) (by omega) (by omega) (by omega)).trans q3
    have t4:=(c1 (n1 + 18) (by omega) (by omega) (by omega)).trans q4
    have t5:=(c1 (n1 + 19) (by omega) (by omega) (by omega)).trans q5
    have t6:=(c1 (n1 + 20) (by omega) (by omega) (by omega)).trans q6
    have t7:=(c1 (n1 + 21) (by omega) (by omega) (by omega)).trans q7
    have t8:=(c1 (n1 + 22) (by omega) (by omega) (by omega)).trans q8
    have t9:=(c1 (n1 + 23) (by omega) (by omega) (by omega)).trans q9
    have t10:=(c1 (n1 + 31) (by omega) (by omega) (by omega)).trans q10
    have nn1:∀ t,t < nx + 20 ∨ n1 ≤ t → t ∉ isp:=fun t ht hm=>by have:=hS1.lo t hm;have:=hS1.hi t hm;omega
    have nn2:∀ t,t < n1 + 36 ∨ n' ≤ t → t ∉ is:=fun t ht hm=>by have:=hS.lo t hm;have:=hS.hi t hm;omega
    refine ⟨fun j hj=>(c1 j (by omega) (by omega) (by omega)).trans (hK2 j hj),WI.ofL [ip,n1,n1 + 1,n1 + 17,n1 + 18,n1 + 19,n1 + 20,n1 + 21,n1 + 22,n1 + 23,n1 + 31,id,n' + 16,n' + 17,n' + 18] isp is,rfl,
     WV.ofM (a:=nx + 20) (b:=n1) (c:=n1 + 36) (d:=n') t0 t1 t2 t3 t4 t5 t6 t7 t8 t9 t10 c3 c4 c5 c6 hlen1 he (hS1.keep (fun i hi => ?_) (Nat.le_refl _) (Nat.le_refl _)) (hS.keep c2 (Nat.le_refl _) (Nat.le_refl _)) (fun x hx y hy => ?_) ?_ (fun t ht => ?_),fun i hi => ?_⟩
    ·have:=hS1.lo i hi
     have:=hS1.hi i hi
     rw [c1 i (by omega) (by omega) (by omega),qs i hi]
    ·have:=hS1.hi x hx
     have:=hS.lo y hy
     omega
    ·simp only [List.nodup_cons,List.mem_cons,List.not_mem_nil,or_false,not_or,List.nodup_nil,and_true,not_false_eq_true]
     omega
    ·simp only [List.mem_cons,List.not_mem_nil,or_false] at ht
     rcases ht with rfl | rfl | rfl | rfl | rfl | rfl | rfl | rfl | rfl | rfl | rfl | rfl | rfl | rfl | rfl
     ·exact ⟨hni1,nn2 _ (by omega)⟩
     all_goals first
     | exact ⟨nn1 _ (by omega),nn2 _ (by omega)⟩
     | exact ⟨nn1 _ (by omega),c8⟩
    ·rw [WI.ofL_ids] at hi
     rcases List.mem_append.1 hi with hi | hi
     ·simp only [List.mem_cons,List.not_mem_nil,or_false] at hi
      omega
     ·rcases List.mem_append.1 hi with hi | hi
      ·have:=hS1.lo i hi;have:=hS1.hi i hi;omega
      ·have:=hS.lo i hi;have:=hS.hi i hi;omega
   by_cases hg:w.groups = []
   ·have h0:is.length = 0:=by rw [he,hg];rfl
    rw [if_pos h0] at hO
    try simp [-qt,-qd,-ql,rgs,hO,aN,zN,wldV,he,hlt,k5,k6,k7,k8,k9,kA,kB]
    repeat' first | done | ((first | ((with_reducible show zU _ _ _ _ _ _);refine zB rfl fun _ => ?_) | ((with_reducible show zJ _ _ _ _ _ _ _);refine zC rfl omA omA ?_) | ((with_reducible show zG _ _ _ 248 _ _);refine yD (zQ1 (by omega)) ?_) | ((with_reducible show zG _ _ _ 249 _ _);refine yD (zE7 (by omega)) ?_) | ((with_reducible show vZ _ _ _ _ _ _ _ _);refine zQ rfl rfl (by decide) (by decide) (by first | (simp [-qt,-qd,-ql,rgs,hO,aN,zN,wldV,he,hlt,k5,k6,k7,k8,k9,kA,kB];done) | (simp [-qt,-qd,-ql,rgs,hO,aN,zN,wldV,he,hlt,k5,k6,k7,k8,k9,kA,kB];rfl)) (by first | (simp [-qt,-qd,-ql,rgs,hO,aN,zN,wldV,he,hlt,k5,k6,k7,k8,k9,kA,kB];done) | (simp [-qt,-qd,-ql,rgs,hO,aN,zN,wldV,he,hlt,k5,k6,k7,k8,k9,kA,kB];rfl)) (by first | (simp;done) | (simp;omega)) (by first | (simp only [zY,LIM] at *; simp;omega) | (simp only [zY];simp;omega)) (by simp [iv,bv]) ?_) | (with_reducible refine zF (i:=2) [(0,[],[]),(1,[],[]),(3,[],[]),(4,[],[]),(6,[],[]),(7,[],[]),(2,[.tmp 10,.tmp 13],[]),(9,[],[]),(5,[.tmp 13],[]),(8,[],[]),(10,[],[]),(11,[],[]),(12,[],[]),(13,[],[]),(14,[],[])] (by kernel_rfl) ?_) | (with_reducible refine zF (i:=3) [(0,[],[]),(1,[],[]),(3,[],[]),(4,[],[]),(6,[],[]),(7,[],[]),(2,[.tmp 22,.tmp 25],[]),(9,[],[]),(5,[.tmp 25],[]),(8,[],[]),(10,[],[]),(11,[],[]),(12,[],[]),(13,[],[]),(14,[],[])] (by kernel_rfl) ?_) | (with_reducible refine zF (i:=8) [(0,[],[]),(1,[],[4]),(2,[],[]),(3,[.tmp 43],[]),(4,[],[]),(5,[],[]),(6,[],[]),(7,[],[])] (by kernel_rfl) ?_) | (with_reducible refine zF (i:=10) [(0,[],[]),(1,[],[]),(3,[],[]),(4,[],[]),(6,[],[]),(7,[],[]),(2,[.tmp 54,.tmp 57],[]),(9,[],[]),(5,[.tmp 57],[]),(8,[],[]),(10,[],[]),(11,[],[]),(12,[],[]),(13,[],[]),(14,[],[])] (by kernel_rfl) ?_)) <;> simp [-qt,-qd,-ql,rgs,hO,aN,zN,wldV,he,hlt,k5,k6,k7,k8,k9,kA,kB]) | ((first | (with_reducible refine zA ?_ ?_)) <;> intro qb <;> (have qp:=qb;try simp only [psq] at qp) <;> simp [-qt,-qd,-ql,rgs,hO,aN,zN,wldV,he,hlt,k5,k6,k7,k8,k9,kA,kB,qb])
    refine .nilR (i:=13) (sz:=5) rfl (by decide) (.done ?_)
    have hz:List.zipWith uB w.groups is = []:=by rw [hg];rfl
    have hl:w.groups.length = 0:=by rw [hg];rfl
    refine key _ (n' + 21) (n' + 21 + 1) 0 hl.symm ?_ ?_ ?_ ?_ ?_ ?_ (by omega) (fun hm=>by have:=hS.hi _ hm;omega) (by omega) (by omega) (by omega)
    ·intro j hj h3 h1
     repeat rw [zI _ _ _ _ (by omega)]
     exact hF j hj h3
    ·intro k hk
     have:=hS.lo k hk
     have:=hS.hi k hk
     repeat rw [zI _ _ _ _ (by omega)]
    ·rw [hz];exact zL ..
    ·repeat (first | exact zL .. | rw [zI _ _ _ _ (by omega)])
    ·repeat (first | exact zL .. | rw [zI _ _ _ _ (by omega)])
    ·repeat (first | exact zL .. | rw [zI _ _ _ _ (by omega)])
   ·have h0:¬ is.length = 0:=by rw [he];simpa using hg
    rw [if_neg h0] at hO
    obtain ⟨hR1,hR2,hR3,hR4⟩:=hR (by omega)
    try simp [-qt,-qd,-ql,rgs,hO,aN,zN,wldV,he,hlt,k5,k6,k7,k8,k9,kA,kB]
    repeat' first | done | ((first | ((with_reducible show zU _ _ _ _ _ _);refine zB rfl fun _ => ?_) | ((with_reducible show zJ _ _ _ _ _ _ _);refine zC rfl omA omA ?_) | ((with_reducible show zG _ _ _ 248 _ _);refine yD (zQ1 (by omega)) ?_) | ((with_reducible show zG _ _ _ 249 _ _);refine yD (zE7 (by omega)) ?_) | ((with_reducible show vZ _ _ _ _ _ _ _ _);refine zQ rfl rfl (by decide) (by decide) (by first | (simp [-qt,-qd,-ql,rgs,hO,aN,zN,wldV,he,hlt,k5,k6,k7,k8,k9,kA,kB];done) | (simp [-qt,-qd,-ql,rgs,hO,aN,zN,wldV,he,hlt,k5,k6,k7,k8,k9,kA,kB];rfl)) (by first | (simp [-qt,-qd,-ql,rgs,hO,aN,zN,wldV,he,hlt,k5,k6,k7,k8,k9,kA,kB];done) | (simp [-qt,-qd,-ql,rgs,hO,aN,zN,wldV,he,hlt,k5,k6,k7,k8,k9,kA,kB];rfl)) (by first | (simp;done) | (simp;omega)) (by first | (simp only [zY,LIM] at *; simp;omega) | (simp only [zY];simp;omega)) (by simp [iv,bv]) ?_) | (with_reducible refine zF (i:=2) [(0,[],[]),(1,[],[]),(3,[],[]),(4,[],[]),(6,[],[]),(7,[],[]),(2,[.tmp 10,.tmp 13],[]),(9,[],[]),(5,[.tmp 13],[]),(8,[],[]),(10,[],[]),(11,[],[]),(12,[],[]),(13,[],[]),(14,[],[])] (by kernel_rfl) ?_) | (with_reducible refine zF (i:=3) [(0,[],[]),(1,[],[]),(3,[],[]),(4,[],[]),(6,[],[]),(7,[],[]),(2,[.tmp 22,.tmp 25],[]),(9,[],[]),(5,[.tmp 25],[]),(8,[],[]),(10,[],[]),(11,[],[]),(12,[],[]),(13,[],[]),(14,[],[])] (by kernel_rfl) ?_) | (with_reducible refine zF (i:=8) [(0,[],[]),(1,[],[4]),(2,[],[]),(3,[.tmp 43],[]),(4,[],[]),(5,[],[]),(6,[],[]),(7,[],[])] (by kernel_rfl) ?_) | (with_reducible refine zF (i:=10) [(0,[],[]),(1,[],[]),(3,[],[]),(4,[],[]),(6,[],[]),(7,[],[]),(2,[.tmp 54,.tmp 57],[]),(9,[],[]),(5,[.tmp 57],[]),(8,[],[]),(10,[],[]),(11,[],[]),(12,[],[]),(13,[],[]),(14,[],[])] (by kernel_rfl) ?_)) <;> simp [-qt,-qd,-ql,rgs,hO,aN,zN,wldV,he,hlt,k5,k6,k7,k8,k9,kA,kB]) | ((first | (with_reducible refine zA ?_ ?_)) <;> intro qb <;> (have qp:=qb;try simp only [psq] at qp) <;> simp [-qt,-qd,-ql,rgs,hO,aN,zN,wldV,he,hlt,k5,k6,k7,k8,k9,kA,kB,qb])
    refine .done (key _ id (n' + 21) _ rfl ?_ ?_ ?_ ?_ ?_ ?_ (by omega) hR4 (by omega) (by omega) (by omega))
    ·intro j hj h3 h1
     repeat rw [zI _ _ _ _ (by omega)]
     exact hF j hj h3
    ·intro k hk
     have:=hS.lo k hk
     have:=hS.hi k hk
     repeat rw [zI _ _ _ _ (by omega)]
    ·repeat rw [zI _ _ _ _ (by omega)]
     exact hR1
    ·repeat (first | exact zL .. | rw [zI _ _ _ _ (by omega)])
    ·repeat (first | exact zL .. | rw [zI _ _ _ _ (by omega)])
    ·repeat (first | exact zL .. | rw [zI _ _ _ _ (by omega)])
end Go.AE.Tryz
end
section
/- Contracts of what is generic. -/
set_option maxRecDepth 8000
set_option maxHeartbeats 2000000
namespace Go.AE.Tryz
open Go.Proofs
open List renaming map_take → qt,map_drop → qd,map_tail → ql
theorem c_size_Ins {p:Bool} {xs:List Inn}:PC ctx.P 312 [.view p 3 (xs.map uC)] (.int .i64 xs.length):=by
 refine PC.o okC Tryz.func312 rfl (.int _ _) fun h nx hnx => ?_
 try simp [-qt,-qd,-ql,rgs]
 repeat' first | done | ((first | ((with_reducible show zU _ _ _ _ _ _);refine zB rfl fun _ => ?_)) <;> simp [-qt,-qd,-ql,rgs])
theorem c_IndexFunc_Ins {p:Bool} {xs:List Inn} {q:Inn → Bool} {fv:AV} (hq:∀ x ∈ xs,FV ctx.P fv [.agg (uC x)] (.bool (q x))) :
 PC ctx.P 341 [.view p 3 (xs.map uC),fv] (.int .i64 (yW q xs 0)):=by
 refine PC.lim (n:=xs.length) (x:=.view p 3 (xs.map uC)) (by simp) (.here (by simp)) ⟨_,Tryz.func341,by kernel_rfl,by kernel_rfl⟩ fun hlim => ?_
 refine PC.o okC Tryz.func341 rfl (.int _ _) fun h nx hnx => ?_
 try simp [-qt,-qd,-ql,rgs]
 repeat' first | done | ((first | ((with_reducible show zU _ _ _ _ _ _);refine zB rfl fun _ => ?_) | ((with_reducible show zJ _ _ _ _ _ _ _);refine zC rfl omA omA ?_)) <;> simp [-qt,-qd,-ql,rgs]) | ((first | (with_reducible refine zA ?_ ?_)) <;> intro qb <;> (have qp:=qb;try simp only [psq] at qp) <;> simp [-qt,-qd,-ql,rgs,qb])
 refine zW [4,5,8,9,10,11,12,13,14,15,16,17,18] (xs.length) (fun (i:Nat) a=>[(8,.int .i64 i)]) (fun i_ a_ h_ _=>(fun i (_:Unit) _=>yW q (xs.drop i) i = yW q xs 0) i_ a_ h_) (()) (by simp) ?_ zT (Nat.le_refl _) ?_
 ·simp
 ·intro i a tm h' n' hle hJ hE hn' next hnx
  try dsimp only at hJ
  have hK:KeepB nx h' h:=KeepB.sub hE zK (by omega)
  simp [-qt,-qd,-ql]
  try simp [-qt,-qd,-ql,rgs,uC]
  repeat' first | done | ((first | ((with_reducible show zU _ _ _ _ _ _);refine zB rfl fun _ => ?_) | ((with_reducible show zJ _ _ _ _ _ _ _);refine zC rfl omA omA ?_) | (refine zC1 (hq _ (zE3 (by omega) (by omega))) ?_)) <;> simp [-qt,-qd,-ql,rgs,uC]) | ((first | (with_reducible refine zA ?_ ?_)) <;> intro qb <;> (have qp:=qb;try simp only [psq] at qp) <;> simp [-qt,-qd,-ql,rgs,uC,qb])
  all_goals
   first
   | (have hlt:i < xs.length:=(by first | omega | (simp at *; omega))
      rw [zV hlt] at hJ
      first
      | (refine hnx.go (()) ?_ ?_ ?_ ?_ ?_ ?_;omega;(simp [zM hlt hlim]);(simp);exact zK;(first | omega | (simp;omega));(try dsimp only);clear hnx;first | ((try simp only [List.drop_length,Int.toNat_natCast,yW] at hJ ⊢);grind) | (simp_all [yW];done) | (simp_all;omega))
      | (refine ⟨?_,zK⟩;clear hnx;first | ((try simp only [List.drop_length,Int.toNat_natCast,yW] at hJ ⊢);grind) | (simp_all [yW];done) | (simp_all;omega)))
   | (obtain rfl:i = xs.length:=(by first | omega | (simp at *; omega))
      refine ⟨?_,zK⟩;clear hnx;first | ((try simp only [List.drop_length,Int.toNat_natCast,yW] at hJ ⊢);grind) | (simp_all [yW];done) | (simp_all;omega))
theorem zP5 {p:Bool} {xs:List Inn} {q:Inn → Bool} {fv:AV} (hq:∀ x ∈ xs,FV ctx.P fv [.agg (uC x)] (.bool (q x))) :
 PC ctx.P 286 [.view p 3 (xs.map uC),fv] (.bool (xs.any q)):=by
 refine PC.o okC Tryz.func286 rfl (.bool _) fun h nx hnx => ?_
 try simp [-qt,-qd,-ql,rgs,vR q xs 0 (Int.le_refl 0)]
 repeat' first | done | ((first | ((with_reducible show zG _ _ _ 341 _ _);refine zD (c_IndexFunc_Ins hq) ?_)) <;> simp [-qt,-qd,-ql,rgs,vR q xs 0 (Int.le_refl 0)])
theorem c_size_Node {p:Bool} {xs:List Nod}:PC ctx.P 172 [.view p 5 (xs.map yC)] (.int .i64 xs.length):=by
 refine PC.o okC Tryz.func172 rfl (.int _ _) fun h nx hnx => ?_
 try simp [-qt,-qd,-ql,rgs]
 repeat' first | done | ((first | ((with_reducible show zU _ _ _ _ _ _);refine zB rfl fun _ => ?_)) <;> simp [-qt,-qd,-ql,rgs])
theorem zD9 {p:Bool} {n:Int} {xs:List Nod}:PC ctx.P 229 [.int .i64 n,.view p 5 (xs.map yC)] (.bool (vY n xs)):=by
 refine PC.lim (n:=xs.length) (x:=.view p 5 (xs.map yC)) (by simp) (.here (by simp)) ⟨_,Tryz.func229,by kernel_rfl,by kernel_rfl⟩ fun hlim => ?_
 refine PC.o okC Tryz.func229 rfl (.bool _) fun h nx hnx => ?_
 try simp [-qt,-qd,-ql,rgs,yF hlim,vY]
 repeat' first | done | ((first | ((with_reducible show zG _ _ _ 172 _ _);refine zD (c_size_Node) ?_) | ((with_reducible show zG _ _ _ 222 _ _);refine zD (vA) ?_)) <;> simp [-qt,-qd,-ql,rgs,yF hlim,vY])
theorem c_size_Event {p:Bool} {xs:List Evt}:PC ctx.P 320 [.view p 4 (xs.map yS)] (.int .i64 xs.length):=by
 refine PC.o okC Tryz.func320 rfl (.int _ _) fun h nx hnx => ?_
 try simp [-qt,-qd,-ql,rgs]
 repeat' first | done | ((first | ((with_reducible show zU _ _ _ _ _ _);refine zB rfl fun _ => ?_)) <;> simp [-qt,-qd,-ql,rgs])
theorem c_IndexFunc_Event {p:Bool} {xs:List Evt} {q:Evt → Bool} {fv:AV} (hq:∀ x ∈ xs,FV ctx.P fv [.agg (yS x)] (.bool (q x))) :
 PC ctx.P 344 [.view p 4 (xs.map yS),fv] (.int .i64 (yW q xs 0)):=by
 refine PC.lim (n:=xs.length) (x:=.view p 4 (xs.map yS)) (by simp) (.here (by simp)) ⟨_,Tryz.func344,by kernel_rfl,by kernel_rfl⟩ fun hlim => ?_
 refine PC.o okC Tryz.func344 rfl (.int _ _) fun h nx hnx => ?_
 try simp [-qt,-qd,-ql,rgs]
 repeat' first | done | ((first | ((with_reducible show zU _ _ _ _ _ _);refine zB rfl fun _ => ?_) | ((with_reducible show zJ _ _ _ _ _ _ _);refine zC rfl omA omA ?_)) <;> simp [-qt,-qd,-ql,rgs]) | ((first | (with_reducible refine zA ?_ ?_)) <;> intro qb <;> (have qp:=qb;try simp only [psq] at qp) <;> simp [-qt,-qd,-ql,rgs,qb])
 refine zW [4,5,8,9,10,11,12,13,14,15,16,17,18] (xs.length) (fun (i:Nat) a=>[(8,.int .i64 i)]) (fun i_ a_ h_ _=>(fun i (_:Unit) _=>yW q (xs.drop i) i = yW q xs 0) i_ a_ h_) (()) (by simp) ?_ zT (Nat.le_refl _) ?_
 ·simp
 ·intro i a tm h' n' hle hJ hE hn' next hnx
  try dsimp only at hJ
  have hK:KeepB nx h' h:=KeepB.sub hE zK (by omega)
  simp [-qt,-qd,-ql]
  try simp [-qt,-qd,-ql,rgs,yS]
  repeat' first | done | ((first | ((with_reducible show zU _ _ _ _ _ _);refine zB rfl fun _ => ?_) | ((with_reducible show zJ _ _ _ _ _ _ _);refine zC rfl omA omA ?_) | (refine zC1 (hq _ (zE3 (by omega) (by omega))) ?_)) <;> simp [-qt,-qd,-ql,rgs,yS]) | ((first | (with_reducible refine zA ?_ ?_)) <;> intro qb <;> (have qp:=qb;try simp only [psq] at qp) <;> simp [-qt,-qd,-ql,rgs,yS,qb])
  all_goals
   first
   | (have hlt:i < xs.length:=(by first | omega | (simp at *; omega))
      rw [zV hlt] at hJ
      first
      | (refine hnx.go (()) ?_ ?_ ?_ ?_ ?_ ?_;omega;(simp [zM hlt hlim]);(simp);exact zK;(first | omega | (simp;omega));(try dsimp only);clear hnx;first | ((try simp only [List.drop_length,Int.toNat_natCast,yW] at hJ ⊢);grind) | (simp_all [yW];done) | (simp_all;omega))
      | (refine ⟨?_,zK⟩;clear hnx;first | ((try simp only [List.drop_length,Int.toNat_natCast,yW] at hJ ⊢);grind) | (simp_all [yW];done) | (simp_all;omega)))
   | (obtain rfl:i = xs.length:=(by first | omega | (simp at *; omega))
      refine ⟨?_,zK⟩;clear hnx;first | ((try simp only [List.drop_length,Int.toNat_natCast,yW] at hJ ⊢);grind) | (simp_all [yW];done) | (simp_all;omega))
theorem zN8 {p:Bool} {xs:List Evt} {q:Evt → Bool} {fv:AV} (hq:∀ x ∈ xs,FV ctx.P fv [.agg (yS x)] (.bool (q x))) :
 PC ctx.P 292 [.view p 4 (xs.map yS),fv] (.bool (xs.any q)):=by
 refine PC.o okC Tryz.func292 rfl (.bool _) fun h nx hnx => ?_
 try simp [-qt,-qd,-ql,rgs,vR q xs 0 (Int.le_refl 0)]
 repeat' first | done | ((first | ((with_reducible show zG _ _ _ 344 _ _);refine zD (c_IndexFunc_Event hq) ?_)) <;> simp [-qt,-qd,-ql,rgs,vR q xs 0 (Int.le_refl 0)])
theorem c_allf_Event {x:Evt} {q:Evt → Bool} {fv:AV} (hq:FV ctx.P fv [.agg (yS x)] (.bool (q x))):PC ctx.P 293 [.agg (yS x),.vptr [fv]] (.bool (!q x)):=by
 refine PC.o okC Tryz.func293 rfl (.bool _) fun h nx hnx => ?_
 try simp [-qt,-qd,-ql,rgs]
 repeat' first | done | ((first | (refine zC1 (hq) ?_)) <;> simp [-qt,-qd,-ql,rgs])
theorem c_all_Event {p:Bool} {xs:List Evt} {q:Evt → Bool} {fv:AV} (hf:IsF fv) (hq:∀ x ∈ xs,FV ctx.P fv [.agg (yS x)] (.bool (q x))) :
 PC ctx.P 220 [.view p 4 (xs.map yS),fv] (.bool (xs.all q)):=by
 refine PC.o okC Tryz.func220 rfl (.bool _) fun h nx hnx => ?_
 have hc:=zN8 (p:=p) (q:=fun x => !q x) (xs:=xs) (fv:=.fn 293 [.vptr [fv]]) fun x hx=>c_allf_Event (hq x hx)
 cases hf
 all_goals simp
 ·refine yJ (hc) (by first | exact .bool _ | exact .int _ _ | exact .str _) (by repeat' first | exact Bors.nil | refine Bors.cons ?_ ?_ | exact Bor.same _ | refine Bor.fn1 ?_ | refine Bor.bnd1 ?_ | refine Bor.agg1 ?_ | refine Bor.ptr0 (by first | (simp;done) | (simp;rfl) | assumption | (simp [*];done)) ?_ | refine Bor.ref0 (by first | (simp;done) | (simp;rfl) | (simp [iv,bv];done)) (by simp) (by simp)) ?_
  simp [resultsA,resA,List.all_eq_not_any_not]
 ·refine yJ (hc) (by first | exact .bool _ | exact .int _ _ | exact .str _) (by repeat' first | exact Bors.nil | refine Bors.cons ?_ ?_ | exact Bor.same _ | refine Bor.fn1 ?_ | refine Bor.bnd1 ?_ | refine Bor.agg1 ?_ | refine Bor.ptr0 (by first | (simp;done) | (simp;rfl) | assumption | (simp [*];done)) ?_ | refine Bor.ref0 (by first | (simp;done) | (simp;rfl) | (simp [iv,bv];done)) (by simp) (by simp)) ?_
  simp [resultsA,resA,List.all_eq_not_any_not]
theorem zH9 {p:Bool} {xs:List Twg}:PC ctx.P 359 [.view p 3 (xs.map yQ)] (.int .i64 xs.length):=by
 refine PC.o okC Tryz.func359 rfl (.int _ _) fun h nx hnx => ?_
 try simp [-qt,-qd,-ql,rgs]
 repeat' first | done | ((first | ((with_reducible show zU _ _ _ _ _ _);refine zB rfl fun _ => ?_)) <;> simp [-qt,-qd,-ql,rgs])
theorem zK6 {p:Bool} {xs:List Twg} {q:Twg → Bool} {fv:AV} (hq:∀ x ∈ xs,FV ctx.P fv [.agg (yQ x)] (.bool (q x))) :
 PC ctx.P 346 [.view p 3 (xs.map yQ),fv] (.int .i64 (yW q xs 0)):=by
 refine PC.lim (n:=xs.length) (x:=.view p 3 (xs.map yQ)) (by simp) (.here (by simp)) ⟨_,Tryz.func346,by kernel_rfl,by kernel_rfl⟩ fun hlim => ?_
 refine PC.o okC Tryz.func346 rfl (.int _ _) fun h nx hnx => ?_
 try simp [-qt,-qd,-ql,rgs]
 repeat' first | done | ((first | ((with_reducible show zU _ _ _ _ _ _);refine zB rfl fun _ => ?_) | ((with_reducible show zJ _ _ _ _ _ _ _);refine zC rfl omA omA ?_)) <;> simp [-qt,-qd,-ql,rgs]) | ((first | (with_reducible refine zA ?_ ?_)) <;> intro qb <;> (have qp:=qb;try simp only [psq] at qp) <;> simp [-qt,-qd,-ql,rgs,qb])
 refine zW [4,5,8,9,10,11,12,13,14,15,16,17,18] (xs.length) (fun (i:Nat) a=>[(8,.int .i64 i)]) (fun i_ a_ h_ _=>(fun i (_:Unit) _=>yW q (xs.drop i) i = yW q xs 0) i_ a_ h_) (()) (by simp) ?_ zT (Nat.le_refl _) ?_
 ·simp
 ·intro i a tm h' n' hle hJ hE hn' next hnx
  try dsimp only at hJ
  have hK:KeepB nx h' h:=KeepB.sub hE zK (by omega)
  simp [-qt,-qd,-ql]
  try simp [-qt,-qd,-ql,rgs,yQ]
  repeat' first | done | ((first | ((with_reducible show zU _ _ _ _ _ _);refine zB rfl fun _ => ?_) | ((with_reducible show zJ _ _ _ _ _ _ _);refine zC rfl omA omA ?_) | (refine zC1 (hq _ (zE3 (by omega) (by omega))) ?_)) <;> simp [-qt,-qd,-ql,rgs,yQ]) | ((first | (with_reducible refine zA ?_ ?_)) <;> intro qb <;> (have qp:=qb;try simp only [psq] at qp) <;> simp [-qt,-qd,-ql,rgs,yQ,qb])
  all_goals
   first
   | (have hlt:i < xs.length:=(by first | omega | (simp at *; omega))
      rw [zV hlt] at hJ
      first
      | (refine hnx.go (()) ?_ ?_ ?_ ?_ ?_ ?_;omega;(simp [zM hlt hlim]);(simp);exact zK;(first | omega | (simp;omega));(try dsimp only);clear hnx;first | ((try simp only [List.drop_length,Int.toNat_natCast,yW] at hJ ⊢);grind) | (simp_all [yW];done) | (simp_all;omega))
      | (refine ⟨?_,zK⟩;clear hnx;first | ((try simp only [List.drop_length,Int.toNat_natCast,yW] at hJ ⊢);grind) | (simp_all [yW];done) | (simp_all;omega)))
   | (obtain rfl:i = xs.length:=(by first | omega | (simp at *; omega))
      refine ⟨?_,zK⟩;clear hnx;first | ((try simp only [List.drop_length,Int.toNat_natCast,yW] at hJ ⊢);grind) | (simp_all [yW];done) | (simp_all;omega))
theorem zP1 {p:Bool} {xs:List Twg} {q:Twg → Bool} {fv:AV} (hq:∀ x ∈ xs,FV ctx.P fv [.agg (yQ x)] (.bool (q x))) :
 PC ctx.P 295 [.view p 3 (xs.map yQ),fv] (.bool (xs.any q)):=by
 refine PC.o okC Tryz.func295 rfl (.bool _) fun h nx hnx => ?_
 try simp [-qt,-qd,-ql,rgs,vR q xs 0 (Int.le_refl 0)]
 repeat' first | done | ((first | ((with_reducible show zG _ _ _ 346 _ _);refine zD (zK6 hq) ?_)) <;> simp [-qt,-qd,-ql,rgs,vR q xs 0 (Int.le_refl 0)])
theorem zJ4 {p:Bool} {xs:List Tmr} {q:Tmr → Bool} {fv:AV} (hq:∀ x ∈ xs,FV ctx.P fv [.agg (vJ x)] (.bool (q x))) :
 PC ctx.P 250 [.view p 5 (xs.map vJ),fv] (.int .i64 (yW q xs 0)):=by
 refine PC.lim (n:=xs.length) (x:=.view p 5 (xs.map vJ)) (by simp) (.here (by simp)) ⟨_,Tryz.func250,by kernel_rfl,by kernel_rfl⟩ fun hlim => ?_
 refine PC.o okC Tryz.func250 rfl (.int _ _) fun h nx hnx => ?_
 try simp [-qt,-qd,-ql,rgs]
 repeat' first | done | ((first | ((with_reducible show zU _ _ _ _ _ _);refine zB rfl fun _ => ?_) | ((with_reducible show zJ _ _ _ _ _ _ _);refine zC rfl omA omA ?_)) <;> simp [-qt,-qd,-ql,rgs]) | ((first | (with_reducible refine zA ?_ ?_)) <;> intro qb <;> (have qp:=qb;try simp only [psq] at qp) <;> simp [-qt,-qd,-ql,rgs,qb])
 refine zW [4,5,8,9,10,11,12,13,14,15,16,17,18] (xs.length) (fun (i:Nat) a=>[(8,.int .i64 i)]) (fun i_ a_ h_ _=>(fun i (_:Unit) _=>yW q (xs.drop i) i = yW q xs 0) i_ a_ h_) (()) (by simp) ?_ zT (Nat.le_refl _) ?_
 ·simp
 ·intro i a tm h' n' hle hJ hE hn' next hnx
  try dsimp only at hJ
  have hK:KeepB nx h' h:=KeepB.sub hE zK (by omega)
  simp [-qt,-qd,-ql]
  try simp [-qt,-qd,-ql,rgs,vJ]
  repeat' first | done | ((first | ((with_reducible show zU _ _ _ _ _ _);refine zB rfl fun _ => ?_) | ((with_reducible show zJ _ _ _ _ _ _ _);refine zC rfl omA omA ?_) | (refine zC1 (hq _ (zE3 (by omega) (by omega))) ?_)) <;> simp [-qt,-qd,-ql,rgs,vJ]) | ((first | (with_reducible refine zA ?_ ?_)) <;> intro qb <;> (have qp:=qb;try simp only [psq] at qp) <;> simp [-qt,-qd,-ql,rgs,vJ,qb])
  all_goals
   first
   | (have hlt:i < xs.length:=(by first | omega | (simp at *; omega))
      rw [zV hlt] at hJ
      first
      | (refine hnx.go (()) ?_ ?_ ?_ ?_ ?_ ?_;omega;(simp [zM hlt hlim]);(simp);exact zK;(first | omega | (simp;omega));(try dsimp only);clear hnx;first | ((try simp only [List.drop_length,Int.toNat_natCast,yW] at hJ ⊢);grind) | (simp_all [yW];done) | (simp_all;omega))
      | (refine ⟨?_,zK⟩;clear hnx;first | ((try simp only [List.drop_length,Int.toNat_natCast,yW] at hJ ⊢);grind) | (simp_all [yW];done) | (simp_all;omega)))
   | (obtain rfl:i = xs.length:=(by first | omega | (simp at *; omega))
      refine ⟨?_,zK⟩;clear hnx;first | ((try simp only [List.drop_length,Int.toNat_natCast,yW] at hJ ⊢);grind) | (simp_all [yW];done) | (simp_all;omega))
theorem zN4 {p:Bool} {xs:List Tmr} {q:Tmr → Bool} {fv:AV} (hq:∀ x ∈ xs,FV ctx.P fv [.agg (vJ x)] (.bool (q x))) :
 PC ctx.P 297 [.view p 5 (xs.map vJ),fv] (.bool (xs.any q)):=by
 refine PC.o okC Tryz.func297 rfl (.bool _) fun h nx hnx => ?_
 try simp [-qt,-qd,-ql,rgs,vR q xs 0 (Int.le_refl 0)]
 repeat' first | done | ((first | ((with_reducible show zG _ _ _ 250 _ _);refine zD (zJ4 hq) ?_)) <;> simp [-qt,-qd,-ql,rgs,vR q xs 0 (Int.le_refl 0)])
theorem c_allf_Timer {x:Tmr} {q:Tmr → Bool} {fv:AV} (hq:FV ctx.P fv [.agg (vJ x)] (.bool (q x))):PC ctx.P 298 [.agg (vJ x),.vptr [fv]] (.bool (!q x)):=by
 refine PC.o okC Tryz.func298 rfl (.bool _) fun h nx hnx => ?_
 try simp [-qt,-qd,-ql,rgs]
 repeat' first | done | ((first | (refine zC1 (hq) ?_)) <;> simp [-qt,-qd,-ql,rgs])
theorem c_all_Timer {p:Bool} {xs:List Tmr} {q:Tmr → Bool} {fv:AV} (hf:IsF fv) (hq:∀ x ∈ xs,FV ctx.P fv [.agg (vJ x)] (.bool (q x))) :
 PC ctx.P 224 [.view p 5 (xs.map vJ),fv] (.bool (xs.all q)):=by
 refine PC.o okC Tryz.func224 rfl (.bool _) fun h nx hnx => ?_
 have hc:=zN4 (p:=p) (q:=fun x => !q x) (xs:=xs) (fv:=.fn 298 [.vptr [fv]]) fun x hx=>c_allf_Timer (hq x hx)
 cases hf
 all_goals simp
 ·refine yJ (hc) (by first | exact .bool _ | exact .int _ _ | exact .str _) (by repeat' first | exact Bors.nil | refine Bors.cons ?_ ?_ | exact Bor.same _ | refine Bor.fn1 ?_ | refine Bor.bnd1 ?_ | refine Bor.agg1 ?_ | refine Bor.ptr0 (by first | (simp;done) | (simp;rfl) | assumption | (simp [*];done)) ?_ | refine Bor.ref0 (by first | (simp;done) | (simp;rfl) | (simp [iv,bv];done)) (by simp) (by simp)) ?_
  simp [resultsA,resA,List.all_eq_not_any_not]
 ·refine yJ (hc) (by first | exact .bool _ | exact .int _ _ | exact .str _) (by repeat' first | exact Bors.nil | refine Bors.cons ?_ ?_ | exact Bor.same _ | refine Bor.fn1 ?_ | refine Bor.bnd1 ?_ | refine Bor.agg1 ?_ | refine Bor.ptr0 (by first | (simp;done) | (simp;rfl) | assumption | (simp [*];done)) ?_ | refine Bor.ref0 (by first | (simp;done) | (simp;rfl) | (simp [iv,bv];done)) (by simp) (by simp)) ?_
  simp [resultsA,resA,List.all_eq_not_any_not]
theorem c_size_After {p:Bool} {xs:List Afr}:PC ctx.P 301 [.view p 5 (xs.map vO)] (.int .i64 xs.length):=by
 refine PC.o okC Tryz.func301 rfl (.int _ _) fun h nx hnx => ?_
 try simp [-qt,-qd,-ql,rgs]
 repeat' first | done | ((first | ((with_reducible show zU _ _ _ _ _ _);refine zB rfl fun _ => ?_)) <;> simp [-qt,-qd,-ql,rgs])
theorem zJ5 {p:Bool} {xs:List Afr} {q:Afr → Bool} {fv:AV} (hq:∀ x ∈ xs,FV ctx.P fv [.agg (vO x)] (.bool (q x))) :
 PC ctx.P 351 [.view p 5 (xs.map vO),fv] (.int .i64 (yW q xs 0)):=by
 refine PC.lim (n:=xs.length) (x:=.view p 5 (xs.map vO)) (by simp) (.here (by simp)) ⟨_,Tryz.func351,by kernel_rfl,by kernel_rfl⟩ fun hlim => ?_
 refine PC.o okC Tryz.func351 rfl (.int _ _) fun h nx hnx => ?_
 try simp [-qt,-qd,-ql,rgs]
 repeat' first | done | ((first | ((with_reducible show zU _ _ _ _ _ _);refine zB rfl fun _ => ?_) | ((with_reducible show zJ _ _ _ _ _ _ _);refine zC rfl omA omA ?_)) <;> simp [-qt,-qd,-ql,rgs]) | ((first | (with_reducible refine zA ?_ ?_)) <;> intro qb <;> (have qp:=qb;try simp only [psq] at qp) <;> simp [-qt,-qd,-ql,rgs,qb])
 refine zW [4,5,8,9,10,11,12,13,14,15,16,17,18] (xs.length) (fun (i:Nat) a=>[(8,.int .i64 i)]) (fun i_ a_ h_ _=>(fun i (_:Unit) _=>yW q (xs.drop i) i = yW q xs 0) i_ a_ h_) (()) (by simp) ?_ zT (Nat.le_refl _) ?_
 ·simp
 ·intro i a tm h' n' hle hJ hE hn' next hnx
  try dsimp only at hJ
  have hK:KeepB nx h' h:=KeepB.sub hE zK (by omega)
  simp [-qt,-qd,-ql]
  try simp [-qt,-qd,-ql,rgs,vO]
  repeat' first | done | ((first | ((with_reducible show zU _ _ _ _ _ _);refine zB rfl fun _ => ?_) | ((with_reducible show zJ _ _ _ _ _ _ _);refine zC rfl omA omA ?_) | (refine zC1 (hq _ (zE3 (by omega) (by omega))) ?_)) <;> simp [-qt,-qd,-ql,rgs,vO]) | ((first | (with_reducible refine zA ?_ ?_)) <;> intro qb <;> (have qp:=qb;try simp only [psq] at qp) <;> simp [-qt,-qd,-ql,rgs,vO,qb])
  all_goals
   first
   | (have hlt:i < xs.length:=(by first | omega | (simp at *; omega))
      rw [zV hlt] at hJ
      first
      | (refine hnx.go (()) ?_ ?_ ?_ ?_ ?_ ?_;omega;(simp [zM hlt hlim]);(simp);exact zK;(first | omega | (simp;omega));(try dsimp only);clear hnx;first | ((try simp only [List.drop_length,Int.toNat_natCast,yW] at hJ ⊢);grind) | (simp_all [yW];done) | (simp_all;omega))
      | (refine ⟨?_,zK⟩;clear hnx;first | ((try simp only [List.drop_length,Int.toNat_natCast,yW] at hJ ⊢);grind) | (simp_all [yW];done) | (simp_all;omega)))
   | (obtain rfl:i = xs.length:=(by first | omega | (simp at *; omega))
      refine ⟨?_,zK⟩;clear hnx;first | ((try simp only [List.drop_length,Int.toNat_natCast,yW] at hJ ⊢);grind) | (simp_all [yW];done) | (simp_all;omega))
theorem zN6 {p:Bool} {xs:List Afr} {q:Afr → Bool} {fv:AV} (hq:∀ x ∈ xs,FV ctx.P fv [.agg (vO x)] (.bool (q x))) :
 PC ctx.P 306 [.view p 5 (xs.map vO),fv] (.bool (xs.any q)):=by
 refine PC.o okC Tryz.func306 rfl (.bool _) fun h nx hnx => ?_
 try simp [-qt,-qd,-ql,rgs,vR q xs 0 (Int.le_refl 0)]
 repeat' first | done | ((first | ((with_reducible show zG _ _ _ 351 _ _);refine zD (zJ5 hq) ?_)) <;> simp [-qt,-qd,-ql,rgs,vR q xs 0 (Int.le_refl 0)])
theorem c_allf_After {x:Afr} {q:Afr → Bool} {fv:AV} (hq:FV ctx.P fv [.agg (vO x)] (.bool (q x))):PC ctx.P 307 [.agg (vO x),.vptr [fv]] (.bool (!q x)):=by
 refine PC.o okC Tryz.func307 rfl (.bool _) fun h nx hnx => ?_
 try simp [-qt,-qd,-ql,rgs]
 repeat' first | done | ((first | (refine zC1 (hq) ?_)) <;> simp [-qt,-qd,-ql,rgs])
theorem c_all_After {p:Bool} {xs:List Afr} {q:Afr → Bool} {fv:AV} (hf:IsF fv) (hq:∀ x ∈ xs,FV ctx.P fv [.agg (vO x)] (.bool (q x))) :
 PC ctx.P 227 [.view p 5 (xs.map vO),fv] (.bool (xs.all q)):=by
 refine PC.o okC Tryz.func227 rfl (.bool _) fun h nx hnx => ?_
 have hc:=zN6 (p:=p) (q:=fun x => !q x) (xs:=xs) (fv:=.fn 307 [.vptr [fv]]) fun x hx=>c_allf_After (hq x hx)
 cases hf
 all_goals simp
 ·refine yJ (hc) (by first | exact .bool _ | exact .int _ _ | exact .str _) (by repeat' first | exact Bors.nil | refine Bors.cons ?_ ?_ | exact Bor.same _ | refine Bor.fn1 ?_ | refine Bor.bnd1 ?_ | refine Bor.agg1 ?_ | refine Bor.ptr0 (by first | (simp;done) | (simp;rfl) | assumption | (simp [*];done)) ?_ | refine Bor.ref0 (by first | (simp;done) | (simp;rfl) | (simp [iv,bv];done)) (by simp) (by simp)) ?_
  simp [resultsA,resA,List.all_eq_not_any_not]
 ·refine yJ (hc) (by first | exact .bool _ | exact .int _ _ | exact .str _) (by repeat' first | exact Bors.nil | refine Bors.cons ?_ ?_ | exact Bor.same _ | refine Bor.fn1 ?_ | refine Bor.bnd1 ?_ | refine Bor.agg1 ?_ | refine Bor.ptr0 (by first | (simp;done) | (simp;rfl) | assumption | (simp [*];done)) ?_ | refine Bor.ref0 (by first | (simp;done) | (simp;rfl) | (simp [iv,bv];done)) (by simp) (by simp)) ?_
  simp [resultsA,resA,List.all_eq_not_any_not]
theorem c_size_Task {p:Bool} {xs:List Tsk}:PC ctx.P 347 [.view p 9 (xs.map vU)] (.int .i64 xs.length):=by
 refine PC.o okC Tryz.func347 rfl (.int _ _) fun h nx hnx => ?_
 try simp [-qt,-qd,-ql,rgs]
 repeat' first | done | ((first | ((with_reducible show zU _ _ _ _ _ _);refine zB rfl fun _ => ?_)) <;> simp [-qt,-qd,-ql,rgs])
theorem c_isIn_Task {p:Bool} {n:Int} {xs:List Tsk}:PC ctx.P 299 [.int .i64 n,.view p 9 (xs.map vU)] (.bool (vY n xs)):=by
 refine PC.lim (n:=xs.length) (x:=.view p 9 (xs.map vU)) (by simp) (.here (by simp)) ⟨_,Tryz.func299,by kernel_rfl,by kernel_rfl⟩ fun hlim => ?_
 refine PC.o okC Tryz.func299 rfl (.bool _) fun h nx hnx => ?_
 try simp [-qt,-qd,-ql,rgs,yF hlim,vY]
 repeat' first | done | ((first | ((with_reducible show zG _ _ _ 347 _ _);refine zD (c_size_Task) ?_) | ((with_reducible show zG _ _ _ 222 _ _);refine zD (vA) ?_)) <;> simp [-qt,-qd,-ql,rgs,yF hlim,vY])
theorem c_IndexFunc_Task {p:Bool} {xs:List Tsk} {q:Tsk → Bool} {fv:AV} (hq:∀ x ∈ xs,FV ctx.P fv [.agg (vU x)] (.bool (q x))) :
 PC ctx.P 353 [.view p 9 (xs.map vU),fv] (.int .i64 (yW q xs 0)):=by
 refine PC.lim (n:=xs.length) (x:=.view p 9 (xs.map vU)) (by simp) (.here (by simp)) ⟨_,Tryz.func353,by kernel_rfl,by kernel_rfl⟩ fun hlim => ?_
 refine PC.o okC Tryz.func353 rfl (.int _ _) fun h nx hnx => ?_
 try simp [-qt,-qd,-ql,rgs]
 repeat' first | done | ((first | ((with_reducible show zU _ _ _ _ _ _);refine zB rfl fun _ => ?_) | ((with_reducible show zJ _ _ _ _ _ _ _);refine zC rfl omA omA ?_)) <;> simp [-qt,-qd,-ql,rgs]) | ((first | (with_reducible refine zA ?_ ?_)) <;> intro qb <;> (have qp:=qb;try simp only [psq] at qp) <;> simp [-qt,-qd,-ql,rgs,qb])
 refine zW [4,5,8,9,10,11,12,13,14,15,16,17,18] (xs.length) (fun (i:Nat) a=>[(8,.int .i64 i)]) (fun i_ a_ h_ _=>(fun i (_:Unit) _=>yW q (xs.drop i) i = yW q xs 0) i_ a_ h_) (()) (by simp) ?_ zT (Nat.le_refl _) ?_
 ·simp
 ·intro i a tm h' n' hle hJ hE hn' next hnx
  try dsimp only at hJ
  have hK:KeepB nx h' h:=KeepB.sub hE zK (by omega)
  simp [-qt,-qd,-ql]
  try simp [-qt,-qd,-ql,rgs,vU]
  repeat' first | done | ((first | ((with_reducible show zU _ _ _ _ _ _);refine zB rfl fun _ => ?_) | ((with_reducible show zJ _ _ _ _ _ _ _);refine zC rfl omA omA ?_) | (refine zC1 (hq _ (zE3 (by omega) (by omega))) ?_)) <;> simp [-qt,-qd,-ql,rgs,vU]) | ((first | (with_reducible refine zA ?_ ?_)) <;> intro qb <;> (have qp:=qb;try simp only [psq] at qp) <;> simp [-qt,-qd,-ql,rgs,vU,qb])
  all_goals
   first
   | (have hlt:i < xs.length:=(by first | omega | (simp at *; omega))
      rw [zV hlt] at hJ
      first
      | (refine hnx.go (()) ?_ ?_ ?_ ?_ ?_ ?_;omega;(simp [zM hlt hlim]);(simp);exact zK;(first | omega | (simp;omega));(try dsimp only);clear hnx;first | ((try simp only [List.drop_length,Int.toNat_natCast,yW] at hJ ⊢);grind) | (simp_all [yW];done) | (simp_all;omega))
      | (refine ⟨?_,zK⟩;clear hnx;first | ((try simp only [List.drop_length,Int.toNat_natCast,yW] at hJ ⊢);grind) | (simp_all [yW];done) | (simp_all;omega)))
   | (obtain rfl:i = xs.length:=(by first | omega | (simp at *; omega))
      refine ⟨?_,zK⟩;clear hnx;first | ((try simp only [List.drop_length,Int.toNat_natCast,yW] at hJ ⊢);grind) | (simp_all [yW];done) | (simp_all;omega))
theorem zI0 {p:Bool} {xs:List Tsk} {q:Tsk → Bool} {fv:AV} (hq:∀ x ∈ xs,FV ctx.P fv [.agg (vU x)] (.bool (q x))) :
 PC ctx.P 308 [.view p 9 (xs.map vU),fv] (.bool (xs.any q)):=by
 refine PC.o okC Tryz.func308 rfl (.bool _) fun h nx hnx => ?_
 try simp [-qt,-qd,-ql,rgs,vR q xs 0 (Int.le_refl 0)]
 repeat' first | done | ((first | ((with_reducible show zG _ _ _ 353 _ _);refine zD (c_IndexFunc_Task hq) ?_)) <;> simp [-qt,-qd,-ql,rgs,vR q xs 0 (Int.le_refl 0)])
theorem c_allf_Task {x:Tsk} {q:Tsk → Bool} {fv:AV} (hq:FV ctx.P fv [.agg (vU x)] (.bool (q x))):PC ctx.P 310 [.agg (vU x),.vptr [fv]] (.bool (!q x)):=by
 refine PC.o okC Tryz.func310 rfl (.bool _) fun h nx hnx => ?_
 try simp [-qt,-qd,-ql,rgs]
 repeat' first | done | ((first | (refine zC1 (hq) ?_)) <;> simp [-qt,-qd,-ql,rgs])
theorem c_all_Task {p:Bool} {xs:List Tsk} {q:Tsk → Bool} {fv:AV} (hf:IsF fv) (hq:∀ x ∈ xs,FV ctx.P fv [.agg (vU x)] (.bool (q x))) :
 PC ctx.P 231 [.view p 9 (xs.map vU),fv] (.bool (xs.all q)):=by
 refine PC.o okC Tryz.func231 rfl (.bool _) fun h nx hnx => ?_
 have hc:=zI0 (p:=p) (q:=fun x => !q x) (xs:=xs) (fv:=.fn 310 [.vptr [fv]]) fun x hx=>c_allf_Task (hq x hx)
 cases hf
 all_goals simp
 ·refine yJ (hc) (by first | exact .bool _ | exact .int _ _ | exact .str _) (by repeat' first | exact Bors.nil | refine Bors.cons ?_ ?_ | exact Bor.same _ | refine Bor.fn1 ?_ | refine Bor.bnd1 ?_ | refine Bor.agg1 ?_ | refine Bor.ptr0 (by first | (simp;done) | (simp;rfl) | assumption | (simp [*];done)) ?_ | refine Bor.ref0 (by first | (simp;done) | (simp;rfl) | (simp [iv,bv];done)) (by simp) (by simp)) ?_
  simp [resultsA,resA,List.all_eq_not_any_not]
 ·refine yJ (hc) (by first | exact .bool _ | exact .int _ _ | exact .str _) (by repeat' first | exact Bors.nil | refine Bors.cons ?_ ?_ | exact Bor.same _ | refine Bor.fn1 ?_ | refine Bor.bnd1 ?_ | refine Bor.agg1 ?_ | refine Bor.ptr0 (by first | (simp;done) | (simp;rfl) | assumption | (simp [*];done)) ?_ | refine Bor.ref0 (by first | (simp;done) | (simp;rfl) | (simp [iv,bv];done)) (by simp) (by simp)) ?_
  simp [resultsA,resA,List.all_eq_not_any_not]
theorem zL3 {p:Bool} {pg:Bool} {xs:List Grp}:PC ctx.P 88 [.view p 5 (xs.map (vD pg))] (.int .i64 xs.length):=by
 refine PC.o okC Tryz.func88 rfl (.int _ _) fun h nx hnx => ?_
 try simp [-qt,-qd,-ql,rgs]
 repeat' first | done | ((first | ((with_reducible show zU _ _ _ _ _ _);refine zB rfl fun _ => ?_)) <;> simp [-qt,-qd,-ql,rgs])
theorem c_isIn_Group {p:Bool} {pg:Bool} {n:Int} {xs:List Grp}:PC ctx.P 313 [.int .i64 n,.view p 5 (xs.map (vD pg))] (.bool (vY n xs)):=by
 refine PC.lim (n:=xs.length) (x:=.view p 5 (xs.map (vD pg))) (by simp) (.here (by simp)) ⟨_,Tryz.func313,by kernel_rfl,by kernel_rfl⟩ fun hlim => ?_
 refine PC.o okC Tryz.func313 rfl (.bool _) fun h nx hnx => ?_
 try simp [-qt,-qd,-ql,rgs,yF hlim,vY]
 repeat' first | done | ((first | ((with_reducible show zG _ _ _ 88 _ _);refine zD (zL3) ?_) | ((with_reducible show zG _ _ _ 222 _ _);refine zD (vA) ?_)) <;> simp [-qt,-qd,-ql,rgs,yF hlim,vY])
theorem c_IndexFunc_Group {p:Bool} {pg:Bool} {xs:List Grp} {q:Grp → Bool} {fv:AV} (hq:∀ x ∈ xs,FV ctx.P fv [.agg (vD pg x)] (.bool (q x))) :
 PC ctx.P 355 [.view p 5 (xs.map (vD pg)),fv] (.int .i64 (yW q xs 0)):=by
 refine PC.lim (n:=xs.length) (x:=.view p 5 (xs.map (vD pg))) (by simp) (.here (by simp)) ⟨_,Tryz.func355,by kernel_rfl,by kernel_rfl⟩ fun hlim => ?_
 refine PC.o okC Tryz.func355 rfl (.int _ _) fun h nx hnx => ?_
 try simp [-qt,-qd,-ql,rgs]
 repeat' first | done | ((first | ((with_reducible show zU _ _ _ _ _ _);refine zB rfl fun _ => ?_) | ((with_reducible show zJ _ _ _ _ _ _ _);refine zC rfl omA omA ?_)) <;> simp [-qt,-qd,-ql,rgs]) | ((first | (with_reducible refine zA ?_ ?_)) <;> intro qb <;> (have qp:=qb;try simp only [psq] at qp) <;> simp [-qt,-qd,-ql,rgs,qb])
 refine zW [4,5,8,9,10,11,12,13,14,15,16,17,18] (xs.length) (fun (i:Nat) a=>[(8,.int .i64 i)]) (fun i_ a_ h_ _=>(fun i (_:Unit) _=>yW q (xs.drop i) i = yW q xs 0) i_ a_ h_) (()) (by simp) ?_ zT (Nat.le_refl _) ?_
 ·simp
 ·intro i a tm h' n' hle hJ hE hn' next hnx
  try dsimp only at hJ
  have hK:KeepB nx h' h:=KeepB.sub hE zK (by omega)
  simp [-qt,-qd,-ql]
  try simp [-qt,-qd,-ql,rgs,vD]
  repeat' first | done | ((first | ((with_reducible show zU _ _ _ _ _ _);refine zB rfl fun _ => ?_) | ((with_reducible show zJ _ _ _ _ _ _ _);refine zC rfl omA omA ?_) | (refine zC1 (hq _ (zE3 (by omega) (by omega))) ?_)) <;> simp [-qt,-qd,-ql,rgs,vD]) | ((first | (with_reducible refine zA ?_ ?_)) <;> intro qb <;> (have qp:=qb;try simp only [psq] at qp) <;> simp [-qt,-qd,-ql,rgs,vD,qb])
  all_goals
   first
   | (have hlt:i < xs.length:=(by first | omega | (simp at *; omega))
      rw [zV hlt] at hJ
      first
      | (refine hnx.go (()) ?_ ?_ ?_ ?_ ?_ ?_;omega;(simp [zM hlt hlim]);(simp);exact zK;(first | omega | (simp;omega));(try dsimp only);clear hnx;first | ((try simp only [List.drop_length,Int.toNat_natCast,yW] at hJ ⊢);grind) | (simp_all [yW];done) | (simp_all;omega))
      | (refine ⟨?_,zK⟩;clear hnx;first | ((try simp only [List.drop_length,Int.toNat_natCast,yW] at hJ ⊢);grind) | (simp_all [yW];done) | (simp_all;omega)))
   | (obtain rfl:i = xs.length:=(by first | omega | (simp at *; omega))
      refine ⟨?_,zK⟩;clear hnx;first | ((try simp only [List.drop_length,Int.toNat_natCast,yW] at hJ ⊢);grind) | (simp_all [yW];done) | (simp_all;omega))
theorem zN9 {p:Bool} {pg:Bool} {xs:List Grp} {q:Grp → Bool} {fv:AV} (hq:∀ x ∈ xs,FV ctx.P fv [.agg (vD pg x)] (.bool (q x))) :
 PC ctx.P 314 [.view p 5 (xs.map (vD pg)),fv] (.bool (xs.any q)):=by
 refine PC.o okC Tryz.func314 rfl (.bool _) fun h nx hnx => ?_
 try simp [-qt,-qd,-ql,rgs,vR q xs 0 (Int.le_refl 0)]
 repeat' first | done | ((first | ((with_reducible show zG _ _ _ 355 _ _);refine zD (c_IndexFunc_Group hq) ?_)) <;> simp [-qt,-qd,-ql,rgs,vR q xs 0 (Int.le_refl 0)])
theorem c_allf_Group {pg:Bool} {x:Grp} {q:Grp → Bool} {fv:AV} (hq:FV ctx.P fv [.agg (vD pg x)] (.bool (q x))):PC ctx.P 315 [.agg (vD pg x),.vptr [fv]] (.bool (!q x)):=by
 refine PC.o okC Tryz.func315 rfl (.bool _) fun h nx hnx => ?_
 try simp [-qt,-qd,-ql,rgs]
 repeat' first | done | ((first | (refine zC1 (hq) ?_)) <;> simp [-qt,-qd,-ql,rgs])
theorem c_all_Group {p:Bool} {pg:Bool} {xs:List Grp} {q:Grp → Bool} {fv:AV} (hf:IsF fv) (hq:∀ x ∈ xs,FV ctx.P fv [.agg (vD pg x)] (.bool (q x))) :
 PC ctx.P 233 [.view p 5 (xs.map (vD pg)),fv] (.bool (xs.all q)):=by
 refine PC.o okC Tryz.func233 rfl (.bool _) fun h nx hnx => ?_
 have hc:=zN9 (p:=p) (q:=fun x => !q x) (xs:=xs) (fv:=.fn 315 [.vptr [fv]]) fun x hx=>c_allf_Group (hq x hx)
 cases hf
 all_goals simp
 ·refine yJ (hc) (by first | exact .bool _ | exact .int _ _ | exact .str _) (by repeat' first | exact Bors.nil | refine Bors.cons ?_ ?_ | exact Bor.same _ | refine Bor.fn1 ?_ | refine Bor.bnd1 ?_ | refine Bor.agg1 ?_ | refine Bor.ptr0 (by first | (simp;done) | (simp;rfl) | assumption | (simp [*];done)) ?_ | refine Bor.ref0 (by first | (simp;done) | (simp;rfl) | (simp [iv,bv];done)) (by simp) (by simp)) ?_
  simp [resultsA,resA,List.all_eq_not_any_not]
 ·refine yJ (hc) (by first | exact .bool _ | exact .int _ _ | exact .str _) (by repeat' first | exact Bors.nil | refine Bors.cons ?_ ?_ | exact Bor.same _ | refine Bor.fn1 ?_ | refine Bor.bnd1 ?_ | refine Bor.agg1 ?_ | refine Bor.ptr0 (by first | (simp;done) | (simp;rfl) | assumption | (simp [*];done)) ?_ | refine Bor.ref0 (by first | (simp;done) | (simp;rfl) | (simp [iv,bv];done)) (by simp) (by simp)) ?_
  simp [resultsA,resA,List.all_eq_not_any_not]
theorem c_IndexFunc_Sight {p:Bool} {xs:List Sgt} {q:Sgt → Bool} {fv:AV} (hq:∀ x ∈ xs,FV ctx.P fv [.agg (zA6 x)] (.bool (q x))) :
 PC ctx.P 356 [.view p 4 (xs.map zA6),fv] (.int .i64 (yW q xs 0)):=by
 refine PC.lim (n:=xs.length) (x:=.view p 4 (xs.map zA6)) (by simp) (.here (by simp)) ⟨_,Tryz.func356,by kernel_rfl,by kernel_rfl⟩ fun hlim => ?_
 refine PC.o okC Tryz.func356 rfl (.int _ _) fun h nx hnx => ?_
 try simp [-qt,-qd,-ql,rgs]
 repeat' first | done | ((first | ((with_reducible show zU _ _ _ _ _ _);refine zB rfl fun _ => ?_) | ((with_reducible show zJ _ _ _ _ _ _ _);refine zC rfl omA omA ?_)) <;> simp [-qt,-qd,-ql,rgs]) | ((first | (with_reducible refine zA ?_ ?_)) <;> intro qb <;> (have qp:=qb;try simp only [psq] at qp) <;> simp [-qt,-qd,-ql,rgs,qb])
 refine zW [4,5,8,9,10,11,12,13,14,15,16,17,18] (xs.length) (fun (i:Nat) a=>[(8,.int .i64 i)]) (fun i_ a_ h_ _=>(fun i (_:Unit) _=>yW q (xs.drop i) i = yW q xs 0) i_ a_ h_) (()) (by simp) ?_ zT (Nat.le_refl _) ?_
 ·simp
 ·intro i a tm h' n' hle hJ hE hn' next hnx
  try dsimp only at hJ
  have hK:KeepB nx h' h:=KeepB.sub hE zK (by omega)
  simp [-qt,-qd,-ql]
  try simp [-qt,-qd,-ql,rgs,zA6]
  repeat' first | done | ((first | ((with_reducible show zU _ _ _ _ _ _);refine zB rfl fun _ => ?_) | ((with_reducible show zJ _ _ _ _ _ _ _);refine zC rfl omA omA ?_) | (refine zC1 (hq _ (zE3 (by omega) (by omega))) ?_)) <;> simp [-qt,-qd,-ql,rgs,zA6]) | ((first | (with_reducible refine zA ?_ ?_)) <;> intro qb <;> (have qp:=qb;try simp only [psq] at qp) <;> simp [-qt,-qd,-ql,rgs,zA6,qb])
  all_goals
   first
   | (have hlt:i < xs.length:=(by first | omega | (simp at *; omega))
      rw [zV hlt] at hJ
      first
      | (refine hnx.go (()) ?_ ?_ ?_ ?_ ?_ ?_;omega;(simp [zM hlt hlim]);(simp);exact zK;(first | omega | (simp;omega));(try dsimp only);clear hnx;first | ((try simp only [List.drop_length,Int.toNat_natCast,yW] at hJ ⊢);grind) | (simp_all [yW];done) | (simp_all;omega))
      | (refine ⟨?_,zK⟩;clear hnx;first | ((try simp only [List.drop_length,Int.toNat_natCast,yW] at hJ ⊢);grind) | (simp_all [yW];done) | (simp_all;omega)))
   | (obtain rfl:i = xs.length:=(by first | omega | (simp at *; omega))
      refine ⟨?_,zK⟩;clear hnx;first | ((try simp only [List.drop_length,Int.toNat_natCast,yW] at hJ ⊢);grind) | (simp_all [yW];done) | (simp_all;omega))
theorem zO0 {p:Bool} {xs:List Sgt} {q:Sgt → Bool} {fv:AV} (hq:∀ x ∈ xs,FV ctx.P fv [.agg (zA6 x)] (.bool (q x))) :
 PC ctx.P 318 [.view p 4 (xs.map zA6),fv] (.bool (xs.any q)):=by
 refine PC.o okC Tryz.func318 rfl (.bool _) fun h nx hnx => ?_
 try simp [-qt,-qd,-ql,rgs,vR q xs 0 (Int.le_refl 0)]
 repeat' first | done | ((first | ((with_reducible show zG _ _ _ 356 _ _);refine zD (c_IndexFunc_Sight hq) ?_)) <;> simp [-qt,-qd,-ql,rgs,vR q xs 0 (Int.le_refl 0)])
theorem c_allf_Sight {x:Sgt} {q:Sgt → Bool} {fv:AV} (hq:FV ctx.P fv [.agg (zA6 x)] (.bool (q x))):PC ctx.P 319 [.agg (zA6 x),.vptr [fv]] (.bool (!q x)):=by
 refine PC.o okC Tryz.func319 rfl (.bool _) fun h nx hnx => ?_
 try simp [-qt,-qd,-ql,rgs]
 repeat' first | done | ((first | (refine zC1 (hq) ?_)) <;> simp [-qt,-qd,-ql,rgs])
theorem c_all_Sight {p:Bool} {xs:List Sgt} {q:Sgt → Bool} {fv:AV} (hf:IsF fv) (hq:∀ x ∈ xs,FV ctx.P fv [.agg (zA6 x)] (.bool (q x))) :
 PC ctx.P 235 [.view p 4 (xs.map zA6),fv] (.bool (xs.all q)):=by
 refine PC.o okC Tryz.func235 rfl (.bool _) fun h nx hnx => ?_
 have hc:=zO0 (p:=p) (q:=fun x => !q x) (xs:=xs) (fv:=.fn 319 [.vptr [fv]]) fun x hx=>c_allf_Sight (hq x hx)
 cases hf
 all_goals simp
 ·refine yJ (hc) (by first | exact .bool _ | exact .int _ _ | exact .str _) (by repeat' first | exact Bors.nil | refine Bors.cons ?_ ?_ | exact Bor.same _ | refine Bor.fn1 ?_ | refine Bor.bnd1 ?_ | refine Bor.agg1 ?_ | refine Bor.ptr0 (by first | (simp;done) | (simp;rfl) | assumption | (simp [*];done)) ?_ | refine Bor.ref0 (by first | (simp;done) | (simp;rfl) | (simp [iv,bv];done)) (by simp) (by simp)) ?_
  simp [resultsA,resA,List.all_eq_not_any_not]
 ·refine yJ (hc) (by first | exact .bool _ | exact .int _ _ | exact .str _) (by repeat' first | exact Bors.nil | refine Bors.cons ?_ ?_ | exact Bor.same _ | refine Bor.fn1 ?_ | refine Bor.bnd1 ?_ | refine Bor.agg1 ?_ | refine Bor.ptr0 (by first | (simp;done) | (simp;rfl) | assumption | (simp [*];done)) ?_ | refine Bor.ref0 (by first | (simp;done) | (simp;rfl) | (simp [iv,bv];done)) (by simp) (by simp)) ?_
  simp [resultsA,resA,List.all_eq_not_any_not]
theorem c_size_int64 {p:Bool} {xs:List Int}:PC ctx.P 348 [.view p 1 (xs.map iv)] (.int .i64 xs.length):=by
 refine PC.o okC Tryz.func348 rfl (.int _ _) fun h nx hnx => ?_
 try simp [-qt,-qd,-ql,rgs]
 repeat' first | done | ((first | ((with_reducible show zU _ _ _ _ _ _);refine zB rfl fun _ => ?_)) <;> simp [-qt,-qd,-ql,rgs])
theorem c_isIn_int64 {p:Bool} {n:Int} {xs:List Int}:PC ctx.P 350 [.int .i64 n,.view p 1 (xs.map iv)] (.bool (vY n xs)):=by
 refine PC.lim (n:=xs.length) (x:=.view p 1 (xs.map iv)) (by simp) (.here (by simp)) ⟨_,Tryz.func350,by kernel_rfl,by kernel_rfl⟩ fun hlim => ?_
 refine PC.o okC Tryz.func350 rfl (.bool _) fun h nx hnx => ?_
 try simp [-qt,-qd,-ql,rgs,yF hlim,vY]
 repeat' first | done | ((first | ((with_reducible show zG _ _ _ 348 _ _);refine zD (c_size_int64) ?_) | ((with_reducible show zG _ _ _ 222 _ _);refine zD (vA) ?_)) <;> simp [-qt,-qd,-ql,rgs,yF hlim,vY])
theorem c_IndexFunc_int64 {p:Bool} {xs:List Int} {q:Int → Bool} {fv:AV} (hq:∀ x ∈ xs,FV ctx.P fv [.int .i64 x] (.bool (q x))) :
 PC ctx.P 338 [.view p 1 (xs.map iv),fv] (.int .i64 (yW q xs 0)):=by
 refine PC.lim (n:=xs.length) (x:=.view p 1 (xs.map iv)) (by simp) (.here (by simp)) ⟨_,Tryz.func338,by kernel_rfl,by kernel_rfl⟩ fun hlim => ?_
 refine PC.o okC Tryz.func338 rfl (.int _ _) fun h nx hnx => ?_
 try simp [-qt,-qd,-ql,rgs]
 repeat' first | done | ((first | ((with_reducible show zU _ _ _ _ _ _);refine zB rfl fun _ => ?_) | ((with_reducible show zJ _ _ _ _ _ _ _);refine zC rfl omA omA ?_)) <;> simp [-qt,-qd,-ql,rgs]) | ((first | (with_reducible refine zA ?_ ?_)) <;> intro qb <;> (have qp:=qb;try simp only [psq] at qp) <;> simp [-qt,-qd,-ql,rgs,qb])
 refine zW [4,5,8,9,10,11,12,13,14,15,16,17,18] (xs.length) (fun (i:Nat) a=>[(8,.int .i64 i)]) (fun i_ a_ h_ _=>(fun i (_:Unit) _=>yW q (xs.drop i) i = yW q xs 0) i_ a_ h_) (()) (by simp) ?_ zT (Nat.le_refl _) ?_
 ·simp
 ·intro i a tm h' n' hle hJ hE hn' next hnx
  try dsimp only at hJ
  have hK:KeepB nx h' h:=KeepB.sub hE zK (by omega)
  simp [-qt,-qd,-ql]
  try simp [-qt,-qd,-ql,rgs,iv]
  repeat' first | done | ((first | ((with_reducible show zU _ _ _ _ _ _);refine zB rfl fun _ => ?_) | ((with_reducible show zJ _ _ _ _ _ _ _);refine zC rfl omA omA ?_) | (refine zC1 (hq _ (zE3 (by omega) (by omega))) ?_)) <;> simp [-qt,-qd,-ql,rgs,iv]) | ((first | (with_reducible refine zA ?_ ?_)) <;> intro qb <;> (have qp:=qb;try simp only [psq] at qp) <;> simp [-qt,-qd,-ql,rgs,iv,qb])
  all_goals
   first
   | (have hlt:i < xs.length:=(by first | omega | (simp at *; omega))
      rw [zV hlt] at hJ
      first
      | (refine hnx.go (()) ?_ ?_ ?_ ?_ ?_ ?_;omega;(simp [zM hlt hlim]);(simp);exact zK;(first | omega | (simp;omega));(try dsimp only);clear hnx;first | ((try simp only [List.drop_length,Int.toNat_natCast,yW] at hJ ⊢);grind) | (simp_all [yW];done) | (simp_all;omega))
      | (refine ⟨?_,zK⟩;clear hnx;first | ((try simp only [List.drop_length,Int.toNat_natCast,yW] at hJ ⊢);grind) | (simp_all [yW];done) | (simp_all;omega)))
   | (obtain rfl:i = xs.length:=(by first | omega | (simp at *; omega))
      refine ⟨?_,zK⟩;clear hnx;first | ((try simp only [List.drop_length,Int.toNat_natCast,yW] at hJ ⊢);grind) | (simp_all [yW];done) | (simp_all;omega))
theorem uX {p:Bool} {xs:List Int} {q:Int → Bool} {fv:AV} (hq:∀ x ∈ xs,FV ctx.P fv [.int .i64 x] (.bool (q x))) :
 PC ctx.P 290 [.view p 1 (xs.map iv),fv] (.bool (xs.any q)):=by
 refine PC.o okC Tryz.func290 rfl (.bool _) fun h nx hnx => ?_
 try simp [-qt,-qd,-ql,rgs,vR q xs 0 (Int.le_refl 0)]
 repeat' first | done | ((first | ((with_reducible show zG _ _ _ 338 _ _);refine zD (c_IndexFunc_int64 hq) ?_)) <;> simp [-qt,-qd,-ql,rgs,vR q xs 0 (Int.le_refl 0)])
theorem c_allf_int64 {x:Int} {q:Int → Bool} {fv:AV} (hq:FV ctx.P fv [.int .i64 x] (.bool (q x))):PC ctx.P 321 [.int .i64 x,.vptr [fv]] (.bool (!q x)):=by
 refine PC.o okC Tryz.func321 rfl (.bool _) fun h nx hnx => ?_
 try simp [-qt,-qd,-ql,rgs]
 repeat' first | done | ((first | (refine zC1 (hq) ?_)) <;> simp [-qt,-qd,-ql,rgs])
theorem c_all_int64 {p:Bool} {xs:List Int} {q:Int → Bool} {fv:AV} (hf:IsF fv) (hq:∀ x ∈ xs,FV ctx.P fv [.int .i64 x] (.bool (q x))) :
 PC ctx.P 237 [.view p 1 (xs.map iv),fv] (.bool (xs.all q)):=by
 refine PC.o okC Tryz.func237 rfl (.bool _) fun h nx hnx => ?_
 have hc:=uX (p:=p) (q:=fun x => !q x) (xs:=xs) (fv:=.fn 321 [.vptr [fv]]) fun x hx=>c_allf_int64 (hq x hx)
 cases hf
 all_goals simp
 ·refine yJ (hc) (by first | exact .bool _ | exact .int _ _ | exact .str _) (by repeat' first | exact Bors.nil | refine Bors.cons ?_ ?_ | exact Bor.same _ | refine Bor.fn1 ?_ | refine Bor.bnd1 ?_ | refine Bor.agg1 ?_ | refine Bor.ptr0 (by first | (simp;done) | (simp;rfl) | assumption | (simp [*];done)) ?_ | refine Bor.ref0 (by first | (simp;done) | (simp;rfl) | (simp [iv,bv];done)) (by simp) (by simp)) ?_
  simp [resultsA,resA,List.all_eq_not_any_not]
 ·refine yJ (hc) (by first | exact .bool _ | exact .int _ _ | exact .str _) (by repeat' first | exact Bors.nil | refine Bors.cons ?_ ?_ | exact Bor.same _ | refine Bor.fn1 ?_ | refine Bor.bnd1 ?_ | refine Bor.agg1 ?_ | refine Bor.ptr0 (by first | (simp;done) | (simp;rfl) | assumption | (simp [*];done)) ?_ | refine Bor.ref0 (by first | (simp;done) | (simp;rfl) | (simp [iv,bv];done)) (by simp) (by simp)) ?_
  simp [resultsA,resA,List.all_eq_not_any_not]
theorem c_size_bool {p:Bool} {xs:List Bool}:PC ctx.P 334 [.view p 1 (xs.map bv)] (.int .i64 xs.length):=by
 refine PC.o okC Tryz.func334 rfl (.int _ _) fun h nx hnx => ?_
 try simp [-qt,-qd,-ql,rgs]
 repeat' first | done | ((first | ((with_reducible show zU _ _ _ _ _ _);refine zB rfl fun _ => ?_)) <;> simp [-qt,-qd,-ql,rgs])
theorem c_isIn_bool {p:Bool} {n:Int} {xs:List Bool}:PC ctx.P 262 [.int .i64 n,.view p 1 (xs.map bv)] (.bool (vY n xs)):=by
 refine PC.lim (n:=xs.length) (x:=.view p 1 (xs.map bv)) (by simp) (.here (by simp)) ⟨_,Tryz.func262,by kernel_rfl,by kernel_rfl⟩ fun hlim => ?_
 refine PC.o okC Tryz.func262 rfl (.bool _) fun h nx hnx => ?_
 try simp [-qt,-qd,-ql,rgs,yF hlim,vY]
 repeat' first | done | ((first | ((with_reducible show zG _ _ _ 334 _ _);refine zD (c_size_bool) ?_) | ((with_reducible show zG _ _ _ 222 _ _);refine zD (vA) ?_)) <;> simp [-qt,-qd,-ql,rgs,yF hlim,vY])
theorem c_size_Prog {p:Bool} {pg:Bool} {xs:List (List Inn)}:PC ctx.P 354 [.view p 1 (xs.map (zD2 pg))] (.int .i64 xs.length):=by
 refine PC.o okC Tryz.func354 rfl (.int _ _) fun h nx hnx => ?_
 try simp [-qt,-qd,-ql,rgs]
 repeat' first | done | ((first | ((with_reducible show zU _ _ _ _ _ _);refine zB rfl fun _ => ?_)) <;> simp [-qt,-qd,-ql,rgs])
theorem c_isIn_Prog {p:Bool} {pg:Bool} {n:Int} {xs:List (List Inn)}:PC ctx.P 311 [.int .i64 n,.view p 1 (xs.map (zD2 pg))] (.bool (vY n xs)):=by
 refine PC.lim (n:=xs.length) (x:=.view p 1 (xs.map (zD2 pg))) (by simp) (.here (by simp)) ⟨_,Tryz.func311,by kernel_rfl,by kernel_rfl⟩ fun hlim => ?_
 refine PC.o okC Tryz.func311 rfl (.bool _) fun h nx hnx => ?_
 try simp [-qt,-qd,-ql,rgs,yF hlim,vY]
 repeat' first | done | ((first | ((with_reducible show zG _ _ _ 354 _ _);refine zD (c_size_Prog) ?_) | ((with_reducible show zG _ _ _ 222 _ _);refine zD (vA) ?_)) <;> simp [-qt,-qd,-ql,rgs,yF hlim,vY])
theorem c_IndexFunc_Prog {p:Bool} {pg:Bool} {xs:List (List Inn)} {q:(List Inn) → Bool} {fv:AV} (hq:∀ x ∈ xs,FV ctx.P fv [.view pg 3 (x.map uC)] (.bool (q x))) :
 PC ctx.P 340 [.view p 1 (xs.map (zD2 pg)),fv] (.int .i64 (yW q xs 0)):=by
 refine PC.lim (n:=xs.length) (x:=.view p 1 (xs.map (zD2 pg))) (by simp) (.here (by simp)) ⟨_,Tryz.func340,by kernel_rfl,by kernel_rfl⟩ fun hlim => ?_
 refine PC.o okC Tryz.func340 rfl (.int _ _) fun h nx hnx => ?_
 try simp [-qt,-qd,-ql,rgs]
 repeat' first | done | ((first | ((with_reducible show zU _ _ _ _ _ _);refine zB rfl fun _ => ?_) | ((with_reducible show zJ _ _ _ _ _ _ _);refine zC rfl omA omA ?_)) <;> simp [-qt,-qd,-ql,rgs]) | ((first | (with_reducible refine zA ?_ ?_)) <;> intro qb <;> (have qp:=qb;try simp only [psq] at qp) <;> simp [-qt,-qd,-ql,rgs,qb])
 refine zW [4,5,8,9,10,11,12,13,14,15,16,17,18] (xs.length) (fun (i:Nat) a=>[(8,.int .i64 i)]) (fun i_ a_ h_ _=>(fun i (_:Unit) _=>yW q (xs.drop i) i = yW q xs 0) i_ a_ h_) (()) (by simp) ?_ zT (Nat.le_refl _) ?_
 ·simp
 ·intro i a tm h' n' hle hJ hE hn' next hnx
  try dsimp only at hJ
  have hK:KeepB nx h' h:=KeepB.sub hE zK (by omega)
  simp [-qt,-qd,-ql]
  try simp [-qt,-qd,-ql,rgs,zD2]
  repeat' first | done | ((first | ((with_reducible show zU _ _ _ _ _ _);refine zB rfl fun _ => ?_) | ((with_reducible show zJ _ _ _ _ _ _ _);refine zC rfl omA omA ?_) | (refine zC1 (hq _ (zE3 (by omega) (by omega))) ?_)) <;> simp [-qt,-qd,-ql,rgs,zD2]) | ((first | (with_reducible refine zA ?_ ?_)) <;> intro qb <;> (have qp:=qb;try simp only [psq] at qp) <;> simp [-qt,-qd,-ql,rgs,zD2,qb])
  all_goals
   first
   | (have hlt:i < xs.length:=(by first | omega | (simp at *; omega))
      rw [zV hlt] at hJ
      first
      | (refine hnx.go (()) ?_ ?_ ?_ ?_ ?_ ?_;omega;(simp [zM hlt hlim]);(simp);exact zK;(first | omega | (simp;omega));(try dsimp only);clear hnx;first | ((try simp only [List.drop_length,Int.toNat_natCast,yW] at hJ ⊢);grind) | (simp_all [yW];done) | (simp_all;omega))
      | (refine ⟨?_,zK⟩;clear hnx;first | ((try simp only [List.drop_length,Int.toNat_natCast,yW] at hJ ⊢);grind) | (simp_all [yW];done) | (simp_all;omega)))
   | (obtain rfl:i = xs.length:=(by first | omega | (simp at *; omega))
      refine ⟨?_,zK⟩;clear hnx;first | ((try simp only [List.drop_length,Int.toNat_natCast,yW] at hJ ⊢);grind) | (simp_all [yW];done) | (simp_all;omega))
theorem zP2 {p:Bool} {pg:Bool} {xs:List (List Inn)} {q:(List Inn) → Bool} {fv:AV} (hq:∀ x ∈ xs,FV ctx.P fv [.view pg 3 (x.map uC)] (.bool (q x))) :
 PC ctx.P 284 [.view p 1 (xs.map (zD2 pg)),fv] (.bool (xs.any q)):=by
 refine PC.o okC Tryz.func284 rfl (.bool _) fun h nx hnx => ?_
 try simp [-qt,-qd,-ql,rgs,vR q xs 0 (Int.le_refl 0)]
 repeat' first | done | ((first | ((with_reducible show zG _ _ _ 340 _ _);refine zD (c_IndexFunc_Prog hq) ?_)) <;> simp [-qt,-qd,-ql,rgs,vR q xs 0 (Int.le_refl 0)])
theorem c_allf_Prog {pg:Bool} {x:(List Inn)} {q:(List Inn) → Bool} {fv:AV} (hq:FV ctx.P fv [.view pg 3 (x.map uC)] (.bool (q x))):PC ctx.P 285 [.view pg 3 (x.map uC),.vptr [fv]] (.bool (!q x)):=by
 refine PC.o okC Tryz.func285 rfl (.bool _) fun h nx hnx => ?_
 try simp [-qt,-qd,-ql,rgs]
 repeat' first | done | ((first | (refine zC1 (hq) ?_)) <;> simp [-qt,-qd,-ql,rgs])
theorem c_all_Prog {p:Bool} {pg:Bool} {xs:List (List Inn)} {q:(List Inn) → Bool} {fv:AV} (hf:IsF fv) (hq:∀ x ∈ xs,FV ctx.P fv [.view pg 3 (x.map uC)] (.bool (q x))) :
 PC ctx.P 216 [.view p 1 (xs.map (zD2 pg)),fv] (.bool (xs.all q)):=by
 refine PC.o okC Tryz.func216 rfl (.bool _) fun h nx hnx => ?_
 have hc:=zP2 (p:=p) (q:=fun x => !q x) (xs:=xs) (fv:=.fn 285 [.vptr [fv]]) fun x hx=>c_allf_Prog (hq x hx)
 cases hf
 all_goals simp
 ·refine yJ (hc) (by first | exact .bool _ | exact .int _ _ | exact .str _) (by repeat' first | exact Bors.nil | refine Bors.cons ?_ ?_ | exact Bor.same _ | refine Bor.fn1 ?_ | refine Bor.bnd1 ?_ | refine Bor.agg1 ?_ | refine Bor.ptr0 (by first | (simp;done) | (simp;rfl) | assumption | (simp [*];done)) ?_ | refine Bor.ref0 (by first | (simp;done) | (simp;rfl) | (simp [iv,bv];done)) (by simp) (by simp)) ?_
  simp [resultsA,resA,List.all_eq_not_any_not]
 ·refine yJ (hc) (by first | exact .bool _ | exact .int _ _ | exact .str _) (by repeat' first | exact Bors.nil | refine Bors.cons ?_ ?_ | exact Bor.same _ | refine Bor.fn1 ?_ | refine Bor.bnd1 ?_ | refine Bor.agg1 ?_ | refine Bor.ptr0 (by first | (simp;done) | (simp;rfl) | assumption | (simp [*];done)) ?_ | refine Bor.ref0 (by first | (simp;done) | (simp;rfl) | (simp [iv,bv];done)) (by simp) (by simp)) ?_
  simp [resultsA,resA,List.all_eq_not_any_not]
end Go.AE.Tryz
end
section
/- Contracts of the program's readers: slots, times, heaps, timers. -/
set_option maxRecDepth 8000
set_option maxHeartbeats 2000000
namespace Go.AE.Tryz
open Go.Proofs
open List renaming map_take → qt,map_drop → qd,map_tail → ql
theorem c_SlotsOk1 {x:Int}:PC ctx.P 349 [.int .i64 x] (.bool (!inR x 0 1000000)):=by
 refine PC.o okC Tryz.func349 rfl (.bool _) fun h nx hnx => ?_
 try simp [-qt,-qd,-ql,rgs]
 repeat' first | done | ((first | ((with_reducible show zG _ _ _ 222 _ _);refine zD (vA) ?_)) <;> simp [-qt,-qd,-ql,rgs])
theorem c_SlotsOk {F:Nat → Bool} {s:Slt}:PC ctx.P 300 [.agg (uJ F s)] (.bool (zH6 s)):=by
 refine PC.o okC Tryz.func300 rfl (.bool _) fun h nx hnx => ?_
 try simp [-qt,-qd,-ql,rgs,uJ,zH6]
 repeat' first | done | ((first | ((with_reducible show zU _ _ _ _ _ _);refine zB rfl fun _ => ?_) | ((with_reducible show zG _ _ _ 348 _ _);refine zD (c_size_int64) ?_) | ((with_reducible show zG _ _ _ 222 _ _);refine zD (vA) ?_) | ((with_reducible show zG _ _ _ 290 _ _);refine zD (uX (q:=fun a => !inR a 0 1000000) (fun x _=>c_SlotsOk1)) ?_)) <;> simp [-qt,-qd,-ql,rgs,uJ,zH6]) | ((first | (with_reducible refine zE ?_ ?_)) <;> intro qb <;> (have qp:=qb;try simp only [psq] at qp) <;> simp [-qt,-qd,-ql,rgs,uJ,zH6,qb])
theorem c_used {F:Nat → Bool} {s:Slt}:PC ctx.P 302 [.agg (uJ F s)] (.int .i64 (cntB id s.used)):=by
 refine PC.lim (n:=s.used.length) (x:=.agg (uJ F s)) (by simp) (.agg (x:=.view (F 9) 1 (s.used.map bv)) (by simp [uJ]) (.here (by simp))) ⟨_,Tryz.func302,by kernel_rfl,by kernel_rfl⟩ fun hlim => ?_
 refine PC.o okC Tryz.func302 rfl (.int _ _) fun h nx hnx => ?_
 try simp [-qt,-qd,-ql,rgs,uJ]
 repeat' first | done | ((first | ((with_reducible show zU _ _ _ _ _ _);refine zB rfl fun _ => ?_) | ((with_reducible show zJ _ _ _ _ _ _ _);refine zC rfl omA omA ?_)) <;> simp [-qt,-qd,-ql,rgs,uJ]) | ((first | (with_reducible refine zA ?_ ?_)) <;> intro qb <;> (have qp:=qb;try simp only [psq] at qp) <;> simp [-qt,-qd,-ql,rgs,uJ,qb])
 refine zW [3,5,9,10,11,12,13,14,15,16] (s.used.length) (fun (i:Nat) a=>[(9,.int .i64 i),(3,.int .i64 a)]) (fun i_ a_ h_ _=>(fun i (a:Int) _=>a + cntB id (s.used.drop i) = cntB id s.used ∧ 0 ≤ a ∧ a ≤ i) i_ a_ h_) (0) (by simp) ?_ zT (Nat.le_refl _) ?_
 ·simp
 ·intro i a tm h' n' hle hJ hE hn' next hnx
  try dsimp only at hJ
  have hK:KeepB nx h' h:=KeepB.sub hE zK (by omega)
  simp [-qt,-qd,-ql]
  try simp [-qt,-qd,-ql,rgs,bv]
  repeat' first | done | ((first | ((with_reducible show zU _ _ _ _ _ _);refine zB rfl fun _ => ?_) | ((with_reducible show zJ _ _ _ _ _ _ _);refine zC rfl omA omA ?_)) <;> simp [-qt,-qd,-ql,rgs,bv]) | ((first | (with_reducible refine zA ?_ ?_)) <;> intro qb <;> (have qp:=qb;try simp only [psq] at qp) <;> simp [-qt,-qd,-ql,rgs,bv,qb])
  ·rw [zV (by omega)] at hJ
   refine hnx.go (a + 1) (by omega) (by simp [zM (i:=i) (n:=s.used.length) (by omega) hlim,zH (x:=a + 1) (by simp only [LIM] at hlim;omega)]) (by simp) zK (by first | omega | (simp;omega)) ?_
   try dsimp only
   simp [cntB,qb] at hJ ⊢
   omega
  ·rw [zV (by omega)] at hJ
   refine hnx.go (a) (by omega) (by simp [zM (i:=i) (n:=s.used.length) (by omega) hlim]) (by simp) zK (by first | omega | (simp;omega)) ?_
   try dsimp only
   simp [cntB,qb] at hJ ⊢
   omega
  ·refine ⟨?_,by simp [hK]⟩
   rw [List.drop_eq_nil_of_le (by omega)] at hJ
   simp [cntB] at hJ ⊢
   omega
theorem c_holds {F:Nat → Bool} {s:Slt} {x:Han} (hl:s.used.length = s.ages.length):PC ctx.P 304 [.agg (uJ F s),.agg (zG8 x)] (.bool (vT s x)):=by
 refine PC.o okC Tryz.func304 rfl (.bool _) fun h nx hnx => ?_
 try simp [-qt,-qd,-ql,rgs,uJ,zG8,iv,bv,vT]
 repeat' first | done | ((first | ((with_reducible show zJ _ _ _ _ _ _ _);refine zC rfl omA omA ?_) | ((with_reducible show zG _ _ _ 350 _ _);refine zD (c_isIn_int64) ?_) | (with_reducible refine zF (i:=1) [(0,[],[]),(1,[],[]),(2,[],[]),(3,[],[]),(4,[],[]),(5,[],[]),(6,[],[]),(7,[],[]),(8,[],[]),(9,[],[]),(10,[],[]),(11,[],[]),(12,[],[]),(13,[],[]),(14,[],[]),(15,[],[]),(16,[],[]),(17,[],[]),(18,[],[]),(19,[],[]),(20,[],[]),(21,[],[]),(22,[],[]),(23,[],[]),(24,[],[])] (by kernel_rfl) ?_)) <;> simp [-qt,-qd,-ql,rgs,uJ,zG8,iv,bv,vT]) | ((first | (with_reducible refine zO ?_ ?_)) <;> intro qb <;> (have qp:=qb;try simp only [psq] at qp) <;> simp [-qt,-qd,-ql,rgs,uJ,zG8,iv,bv,vT,qb])
theorem c_IsDue {a b:Int}:PC ctx.P 175 [.int .i64 a,.int .i64 b] (.bool (zM3 a b)):=by
 refine PC.o okC Tryz.func175 rfl (.bool _) fun h nx hnx => ?_
 try simp [-qt,-qd,-ql,rgs,zM3,vX]
 repeat' first | done | ((first | (with_reducible refine zE ?_ ?_)) <;> intro qb <;> (have qp:=qb;try simp only [psq] at qp) <;> simp [-qt,-qd,-ql,rgs,zM3,vX,qb])
theorem c_isNaN {a:Int}:PC ctx.P 364 [.int .i64 a] (.bool false):=by
 refine PC.o okC Tryz.func364 rfl (.bool _) fun h nx hnx => ?_
 try simp [-qt,-qd,-ql,rgs]
theorem c_Compare {a b:Int}:PC ctx.P 362 [.int .i64 a,.int .i64 b] (.int .i64 (cmp2 a b)):=by
 refine PC.o okC Tryz.func362 rfl (.int _ _) fun h nx hnx => ?_
 try simp [-qt,-qd,-ql,rgs,cmp2]
 repeat' first | done | ((first | ((with_reducible show zG _ _ _ 364 _ _);refine zD (c_isNaN) ?_)) <;> simp [-qt,-qd,-ql,rgs,cmp2]) | ((first | (with_reducible refine zA ?_ ?_)) <;> intro qb <;> (have qp:=qb;try simp only [psq] at qp) <;> simp [-qt,-qd,-ql,rgs,cmp2,qb])
 all_goals omega
theorem c_Or {p:Bool} {xs:List Int}:PC ctx.P 361 [.view p 1 (xs.map iv)] (.int .i64 (orI xs)):=by
 refine PC.lim (n:=xs.length) (x:=.view p 1 (xs.map iv)) (by simp) (.here (by simp)) ⟨_,Tryz.func361,by kernel_rfl,by kernel_rfl⟩ fun hlim => ?_
 refine PC.o okC Tryz.func361 rfl (.int _ _) fun h nx hnx => ?_
 try simp [-qt,-qd,-ql,rgs]
 repeat' first | done | ((first | ((with_reducible show zU _ _ _ _ _ _);refine zB rfl fun _ => ?_) | ((with_reducible show zJ _ _ _ _ _ _ _);refine zC rfl omA omA ?_)) <;> simp [-qt,-qd,-ql,rgs]) | ((first | (with_reducible refine zA ?_ ?_)) <;> intro qb <;> (have qp:=qb;try simp only [psq] at qp) <;> simp [-qt,-qd,-ql,rgs,qb])
 refine zW [2,5,8,9,10,11,12,13,14,15,16] (xs.length) (fun (i:Nat) a=>[(8,.int .i64 i)]) (fun i_ a_ h_ _=>(fun i (_:Unit) _=>orI (xs.drop i) = orI xs) i_ a_ h_) (()) (by simp) ?_ zT (Nat.le_refl _) ?_
 ·simp
 ·intro i a tm h' n' hle hJ hE hn' next hnx
  try dsimp only at hJ
  have hK:KeepB nx h' h:=KeepB.sub hE zK (by omega)
  simp [-qt,-qd,-ql]
  try simp [-qt,-qd,-ql,rgs,iv]
  repeat' first | done | ((first | ((with_reducible show zU _ _ _ _ _ _);refine zB rfl fun _ => ?_) | ((with_reducible show zJ _ _ _ _ _ _ _);refine zC rfl omA omA ?_)) <;> simp [-qt,-qd,-ql,rgs,iv]) | ((first | (with_reducible refine zA ?_ ?_)) <;> intro qb <;> (have qp:=qb;try simp only [psq] at qp) <;> simp [-qt,-qd,-ql,rgs,iv,qb])
  all_goals
   first
   | (have hlt:i < xs.length:=(by first | omega | (simp at *; omega))
      rw [zV hlt] at hJ
      first
      | (refine hnx.go (()) ?_ ?_ ?_ ?_ ?_ ?_;omega;(simp [zM hlt hlim]);(simp);exact zK;(first | omega | (simp;omega));(try dsimp only);clear hnx;first | ((try simp only [List.drop_length,Int.toNat_natCast,orI] at hJ ⊢);grind) | (simp_all [orI];done) | (simp_all;omega))
      | (refine ⟨?_,zK⟩;clear hnx;first | ((try simp only [List.drop_length,Int.toNat_natCast,orI] at hJ ⊢);grind) | (simp_all [orI];done) | (simp_all;omega)))
   | (obtain rfl:i = xs.length:=(by first | omega | (simp at *; omega))
      refine ⟨?_,zK⟩;clear hnx;first | ((try simp only [List.drop_length,Int.toNat_natCast,orI] at hJ ⊢);grind) | (simp_all [orI];done) | (simp_all;omega))
end Go.AE.Tryz
end
section
/- Contracts of the program's readers: heaps, timers, trees. -/
set_option maxRecDepth 8000
set_option maxHeartbeats 2000000
namespace Go.AE.Tryz
open Go.Proofs
open List renaming map_take → qt,map_drop → qd,map_tail → ql
theorem c_compare {a b:Twg}:PC ctx.P 330 [.agg (yQ a),.agg (yQ b)] (.int .i64 (zA4 a b)):=by
 refine PC.o okC Tryz.func330 rfl (.int _ _) fun h nx hnx => ?_
 try simp [-qt,-qd,-ql,rgs,yQ]
 repeat' first | done | ((first | ((with_reducible show zG _ _ _ 362 _ _);refine zD (c_Compare) ?_) | ((with_reducible show zG _ _ _ 361 _ _);refine yJ (c_Or (p:=false) (xs:=[cmp2 a.due b.due,cmp2 a.seq b.seq])) (by first | exact .bool _ | exact .int _ _ | exact .str _) (by repeat' first | exact Bors.nil | refine Bors.cons ?_ ?_ | exact Bor.same _ | refine Bor.fn1 ?_ | refine Bor.bnd1 ?_ | refine Bor.agg1 ?_ | refine Bor.ptr0 (by first | (simp;done) | (simp;rfl) | assumption | (simp [*];done)) ?_ | refine Bor.ref0 (by first | (simp;done) | (simp;rfl) | (simp [iv,bv];done)) (by simp) (by simp)) ?_) | (with_reducible refine zF (i:=1) [(0,[],[]),(1,[],[]),(2,[],[]),(3,[],[]),(5,[],[]),(6,[],[]),(7,[],[]),(8,[],[]),(4,[.tmp 10,.tmp 12],[]),(9,[],[]),(10,[],[]),(11,[],[]),(12,[],[])] (by kernel_rfl) ?_)) <;> simp [-qt,-qd,-ql,rgs,yQ])
 all_goals (try clear hnx)
 all_goals first | (simp_all [zA4];done) | (simp_all [zA4];omega) | (rw [Bool.eq_iff_iff];simp_all [zA4];done) | (rw [Bool.eq_iff_iff];simp_all [zA4];omega) | omega | (simp only [zA4];grind) | grind
theorem c_parts {p:Bool} {l:List Twg} (hp:0 < l.length) (h0:0 ≤ (gt l 0).lefts) (h1:(gt l 0).lefts < l.length) :
 PC ctx.P 327 [.view p 3 (l.map yQ)] (.tup [.view p 3 ((l.tail.take (gt l 0).lefts.toNat).map yQ),.view p 3 ((l.drop ((gt l 0).lefts.toNat + 1)).map yQ)]):=by
 refine PC.lim (n:=l.length) (x:=.view p 3 (l.map yQ)) (by simp) (.here (by simp)) ⟨_,Tryz.func327,by kernel_rfl,by kernel_rfl⟩ fun hlim => ?_
 simp only [LIM] at hlim
 have q1:(1 + (gt l 0).lefts).toNat = (gt l 0).lefts.toNat + 1:=by omega
 refine PC.o okC Tryz.func327 rfl (.tup _ (by simp [-List.map_take,-List.map_drop];exact ⟨.vmap vK,.vmap vK⟩)) fun h nx hnx => ?_
 try simp [-qt,-qd,-ql,rgs,yQ,zH (x:=1 + (gt l 0).lefts) (by omega),q1]
 repeat' first | done | ((first | ((with_reducible show zJ _ _ _ _ _ _ _);refine zC rfl omA omA ?_) | ((with_reducible show yT _ _ _ _ _ _ _ _);refine uY rfl omA omA ?_) | ((with_reducible show yT _ _ _ _ _ _ _ _);refine vM rfl omA omA ?_) | ((with_reducible show yT _ _ _ _ _ _ _ _);refine uA rfl omA omA omA ?_) | ((with_reducible show vE _ _ _ _ _ _ _ _ _ _ _);refine zA2 rfl omA omA ?_) | ((with_reducible show vE _ _ _ _ _ _ _ _ _ _ _);refine vQ rfl omA omA ?_) | ((with_reducible show vE _ _ _ _ _ _ _ _ _ _ _);refine uD rfl omA omA omA ?_) | (with_reducible refine zF (i:=2) [(0,[],[]),(1,[],[]),(2,[],[]),(3,[],[]),(4,[],[]),(5,[],[]),(6,[],[]),(7,[],[])] (by kernel_rfl) ?_)) <;> simp [-qt,-qd,-ql,rgs,yQ,zH (x:=1 + (gt l 0).lefts) (by omega),q1])
theorem c_seqAt1 {x:Twg} {s:Int}:PC ctx.P 357 [.agg (yQ x),.vptr [.int .i64 s]] (.bool (x.seq == s)):=by
 refine PC.o okC Tryz.func357 rfl (.bool _) fun h nx hnx => ?_
 try simp [-qt,-qd,-ql,rgs,yQ]
theorem c_seqAt {p:Bool} {h:List Twg} {s:Int}:PC ctx.P 328 [.view p 3 (h.map yQ),.int .i64 s] (.int .i64 (zL0 h s)):=by
 refine PC.o okC Tryz.func328 rfl (.int _ _) fun h nx hnx => ?_
 try simp [-qt,-qd,-ql,rgs,zL0]
 repeat' first | done | ((first | ((with_reducible show zG _ _ _ 346 _ _);refine yJ (zK6 (q:=fun x=>x.seq == s) (fv:=.fn 357 [.vptr [.int .i64 s]]) (fun x _=>c_seqAt1)) (by first | exact .bool _ | exact .int _ _ | exact .str _) (by repeat' first | exact Bors.nil | refine Bors.cons ?_ ?_ | exact Bor.same _ | refine Bor.fn1 ?_ | refine Bor.bnd1 ?_ | refine Bor.agg1 ?_ | refine Bor.ptr0 (by first | (simp;done) | (simp;rfl) | assumption | (simp [*];done)) ?_ | refine Bor.ref0 (by first | (simp;done) | (simp;rfl) | (simp [iv,bv];done)) (by simp) (by simp)) ?_)) <;> simp [-qt,-qd,-ql,rgs,zL0])
theorem c_tmsAt1 {x:Tmr} {s:Int}:PC ctx.P 251 [.agg (vJ x),.vptr [.int .i64 s]] (.bool (x.seq == s)):=by
 refine PC.o okC Tryz.func251 rfl (.bool _) fun h nx hnx => ?_
 try simp [-qt,-qd,-ql,rgs,vJ]
theorem c_tmsAt {F:Nat → Bool} {t:Tms} {s:Int}:PC ctx.P 139 [.agg (zA8 F t),.int .i64 s] (.int .i64 (zF4 t.list s)):=by
 refine PC.o okC Tryz.func139 rfl (.int _ _) fun h nx hnx => ?_
 try simp [-qt,-qd,-ql,rgs,zA8,zF4]
 repeat' first | done | ((first | ((with_reducible show zG _ _ _ 250 _ _);refine yJ (zJ4 (q:=fun x=>x.seq == s) (fv:=.fn 251 [.vptr [.int .i64 s]]) (fun x _=>c_tmsAt1)) (by first | exact .bool _ | exact .int _ _ | exact .str _) (by repeat' first | exact Bors.nil | refine Bors.cons ?_ ?_ | exact Bor.same _ | refine Bor.fn1 ?_ | refine Bor.bnd1 ?_ | refine Bor.agg1 ?_ | refine Bor.ptr0 (by first | (simp;done) | (simp;rfl) | assumption | (simp [*];done)) ?_ | refine Bor.ref0 (by first | (simp;done) | (simp;rfl) | (simp [iv,bv];done)) (by simp) (by simp)) ?_)) <;> simp [-qt,-qd,-ql,rgs,zA8,zF4])
theorem c_TimersOk1 {F:Nat → Bool} {t:Tms} {x:Twg}:PC ctx.P 296 [.agg (yQ x),.vptr (zA8 F t)] (.bool (decide (zF4 t.list x.seq < 0) || (!(gt t.list (zF4 t.list x.seq)).armed || (gt t.list (zF4 t.list x.seq)).due != x.due))):=by
 have hat:=tmsAt_lt t.list x.seq
 refine PC.o okC Tryz.func296 rfl (.bool _) fun h nx hnx => ?_
 try simp [-qt,-qd,-ql,rgs,yQ,zA8,vJ]
 repeat' first | done | ((first | ((with_reducible show zJ _ _ _ _ _ _ _);refine zC rfl omA omA ?_) | ((with_reducible show zG _ _ _ 139 _ _);refine zD (c_tmsAt (F:=F) (t:=t)) ?_) | (with_reducible refine zF (i:=2) [(0,[],[]),(1,[],[]),(2,[],[]),(3,[],[]),(4,[],[]),(5,[],[]),(6,[],[]),(7,[],[]),(8,[],[]),(9,[],[]),(10,[],[]),(11,[],[]),(12,[],[]),(13,[],[]),(14,[],[]),(15,[],[]),(16,[],[]),(17,[],[]),(18,[],[]),(19,[],[]),(20,[],[]),(21,[],[]),(22,[],[])] (by kernel_rfl) ?_)) <;> simp [-qt,-qd,-ql,rgs,yQ,zA8,vJ]) | ((first | (with_reducible refine zO ?_ ?_)) <;> intro qb <;> (have qp:=qb;try simp only [psq] at qp) <;> simp [-qt,-qd,-ql,rgs,yQ,zA8,vJ,qb])
theorem c_rank {p:Bool} {h0:List Twg} {r:Nat} (hr:rk h0 = some r):PC ctx.P 358 [.view p 3 (h0.map yQ)] (.int .i64 r):=by
 refine PC.lim (n:=h0.length) (x:=.view p 3 (h0.map yQ)) (by simp) (.here (by simp)) ⟨_,Tryz.func358,by kernel_rfl,by kernel_rfl⟩ fun hlim => ?_
 have hrl:=rk_le hr
 simp only [LIM] at hlim
 refine PC.o okC Tryz.func358 rfl (.int _ _) fun h nx hnx => ?_
 try simp [-qt,-qd,-ql,rgs]
 repeat' first | done | ((first | ((with_reducible show zU _ _ _ _ _ _);refine zB rfl fun _ => ?_)) <;> simp [-qt,-qd,-ql,rgs]) | ((first | (with_reducible refine zA ?_ ?_)) <;> intro qb <;> (have qp:=qb;try simp only [psq] at qp) <;> simp [-qt,-qd,-ql,rgs,qb])
 refine go_dnP [0,3,4,5,6,7,8,9,10,11,12,13] (fun a=>[(0,.view p 3 (a.1.map yQ)),(3,.int .i64 a.2)]) (fun a=>a.1.length) (fun a_ h_ _=>(fun (a:List Twg × Int) _ => ∃ k:Nat,rk a.1 = some k ∧ a.2 + k = r ∧ 0 ≤ a.2) a_ h_) ((h0,0)) (by simp) ?_ zT (Nat.le_refl _) ?_
 ·exact ⟨r,hr,by simp,by simp⟩
 ·intro a tm h' n' hJ hE hn' next hnx
  try dsimp only at hJ
  have hK:KeepB nx h' h:=KeepB.sub hE zK (by omega)
  obtain ⟨l,n⟩:=a
  obtain ⟨k,hk,hn,h0⟩:=hJ
  dsimp only at hk hn h0 ⊢
  rcases rk_cases hk with ⟨rfl,rfl⟩ | ⟨hp,hx0,hx1,b,hb,rfl⟩
  ·try simp [-qt,-qd,-ql,rgs]
   repeat' first | done | ((first | ((with_reducible show zU _ _ _ _ _ _);refine zB rfl fun _ => ?_)) <;> simp [-qt,-qd,-ql,rgs]) | ((first | (with_reducible refine zA ?_ ?_)) <;> intro qb <;> (have qp:=qb;try simp only [psq] at qp) <;> simp [-qt,-qd,-ql,rgs,qb])
   all_goals (first | exact ⟨by simpa using hn,hK⟩ | (simp at *; omega))
  ·simp at hn h0
   try simp [-qt,-qd,-ql,rgs]
   repeat' first | done | ((first | ((with_reducible show zU _ _ _ _ _ _);refine zB rfl fun _ => ?_) | ((with_reducible show zG _ _ _ 327 _ _);refine zD (c_parts hp hx0 hx1) ?_)) <;> simp [-qt,-qd,-ql,rgs]) | ((first | (with_reducible refine zA ?_ ?_)) <;> intro qb <;> (have qp:=qb;try simp only [psq] at qp) <;> simp [-qt,-qd,-ql,rgs,qb])
   ·refine hnx.go (l.drop ((gt l 0).lefts.toNat + 1),n + 1) (by simp;omega) (by simp [zH (x:=n + 1) (by omega)]) (by simp) zK (by first | omega | (simp;omega)) ⟨b,hb,by simp;omega,by simp;omega⟩
   ·omega
theorem c_isHeapN {p:Bool}:∀ (n:Nat) (l:List Twg),l.length ≤ n → PC ctx.P 345 [.view p 3 (l.map yQ)] (.bool (rk l).isSome):=by
 intro n
 induction n with
 | zero =>
   intro l hl
   obtain rfl:l = []:=by simpa using hl
   refine PC.o okC Tryz.func345 rfl (.bool _) fun h nx hnx => ?_
   try simp [-qt,-qd,-ql,rgs,rk_nil]
   repeat' first | done | ((first | ((with_reducible show zU _ _ _ _ _ _);refine zB rfl fun _ => ?_) | ((with_reducible show zJ _ _ _ _ _ _ _);refine zC rfl omA omA ?_) | (with_reducible refine zF (i:=3) [(0,[],[]),(1,[],[]),(2,[],[]),(3,[],[]),(4,[],[]),(5,[.tmp 10],[]),(6,[],[]),(7,[],[]),(8,[],[])] (by kernel_rfl) ?_) | (with_reducible refine zF (i:=8) [(0,[],[]),(1,[],[]),(2,[],[]),(3,[],[]),(4,[],[]),(5,[],[]),(6,[],[]),(7,[],[]),(8,[],[]),(9,[],[]),(10,[],[]),(11,[],[]),(12,[],[]),(13,[],[]),(14,[],[]),(15,[],[]),(16,[],[]),(17,[],[]),(18,[],[]),(19,[],[]),(20,[],[]),(21,[],[]),(22,[],[]),(23,[],[]),(24,[],[]),(25,[],[]),(26,[],[]),(27,[],[]),(28,[],[])] (by kernel_rfl) ?_)) <;> simp [-qt,-qd,-ql,rgs,rk_nil]) | ((first | (with_reducible refine zO ?_ ?_) | (with_reducible refine zE ?_ ?_) | (with_reducible refine zA ?_ ?_)) <;> intro qb <;> (have qp:=qb;try simp only [psq] at qp) <;> simp [-qt,-qd,-ql,rgs,rk_nil,qb])
 | succ n ih =>
   intro l hl
   refine PC.lim (n:=l.length) (x:=.view p 3 (l.map yQ)) (by simp) (.here (by simp)) ⟨_,Tryz.func345,by kernel_rfl,by kernel_rfl⟩ fun hlim => ?_
   simp only [LIM] at hlim
   by_cases hp:0 < l.length
   ·have i1:=ih (l.tail.take (gt l 0).lefts.toNat) (by simp;omega)
    have i2:=ih (l.drop ((gt l 0).lefts.toNat + 1)) (by simp;omega)
    rw [rk_tail hp]
    cases ha:rk (l.tail.take (gt l 0).lefts.toNat) with
    | none =>
      rw [ha] at i1
      refine PC.o okC Tryz.func345 rfl (.bool _) fun h nx hnx => ?_
      try simp [-qt,-qd,-ql,rgs,yQ,zH (x:=(l.length:Int) - 1) (by omega)]
      repeat' first | done | ((first | ((with_reducible show zU _ _ _ _ _ _);refine zB rfl fun _ => ?_) | ((with_reducible show zJ _ _ _ _ _ _ _);refine zC rfl omA omA ?_) | ((with_reducible show zG _ _ _ 359 _ _);refine zD (zH9) ?_) | ((with_reducible show zG _ _ _ 222 _ _);refine zD (vA) ?_) | ((with_reducible show zG _ _ _ 327 _ _);refine zD (c_parts hp (by omega) (by omega)) ?_) | (refine zD (i1) ?_) | (refine zD (i2) ?_) | (with_reducible refine zF (i:=3) [(0,[],[]),(1,[],[]),(2,[],[]),(3,[],[]),(4,[],[]),(5,[.tmp 10],[]),(6,[],[]),(7,[],[]),(8,[],[])] (by kernel_rfl) ?_) | (with_reducible refine zF (i:=8) [(0,[],[]),(1,[],[]),(2,[],[]),(3,[],[]),(4,[],[]),(5,[],[]),(6,[],[]),(7,[],[]),(8,[],[]),(9,[],[]),(10,[],[]),(11,[],[]),(12,[],[]),(13,[],[]),(14,[],[]),(15,[],[]),(16,[],[]),(17,[],[]),(18,[],[]),(19,[],[]),(20,[],[]),(21,[],[]),(22,[],[]),(23,[],[]),(24,[],[]),(25,[],[]),(26,[],[]),(27,[],[]),(28,[],[])] (by kernel_rfl) ?_)) <;> simp [-qt,-qd,-ql,rgs,yQ,zH (x:=(l.length:Int) - 1) (by omega)]) | ((first | (with_reducible refine zO ?_ ?_) | (with_reducible refine zE ?_ ?_) | (with_reducible refine zA ?_ ?_)) <;> intro qb <;> (have qp:=qb;try simp only [psq] at qp) <;> simp [-qt,-qd,-ql,rgs,yQ,zH (x:=(l.length:Int) - 1) (by omega),qb])
      all_goals (clear ih i1 i2 hnx;simp_all)
    | some a =>
      rw [ha] at i1
      cases hb:rk (l.drop ((gt l 0).lefts.toNat + 1)) with
      | none =>
        rw [hb] at i2
        refine PC.o okC Tryz.func345 rfl (.bool _) fun h nx hnx => ?_
        try simp [-qt,-qd,-ql,rgs,yQ,zH (x:=(l.length:Int) - 1) (by omega)]
        repeat' first | done | ((first | ((with_reducible show zU _ _ _ _ _ _);refine zB rfl fun _ => ?_) | ((with_reducible show zJ _ _ _ _ _ _ _);refine zC rfl omA omA ?_) | ((with_reducible show zG _ _ _ 359 _ _);refine zD (zH9) ?_) | ((with_reducible show zG _ _ _ 222 _ _);refine zD (vA) ?_) | ((with_reducible show zG _ _ _ 327 _ _);refine zD (c_parts hp (by omega) (by omega)) ?_) | (refine zD (i1) ?_) | (refine zD (i2) ?_) | (with_reducible refine zF (i:=3) [(0,[],[]),(1,[],[]),(2,[],[]),(3,[],[]),(4,[],[]),(5,[.tmp 10],[]),(6,[],[]),(7,[],[]),(8,[],[])] (by kernel_rfl) ?_) | (with_reducible refine zF (i:=8) [(0,[],[]),(1,[],[]),(2,[],[]),(3,[],[]),(4,[],[]),(5,[],[]),(6,[],[]),(7,[],[]),(8,[],[]),(9,[],[]),(10,[],[]),(11,[],[]),(12,[],[]),(13,[],[]),(14,[],[]),(15,[],[]),(16,[],[]),(17,[],[]),(18,[],[]),(19,[],[]),(20,[],[]),(21,[],[]),(22,[],[]),(23,[],[]),(24,[],[]),(25,[],[]),(26,[],[]),(27,[],[]),(28,[],[])] (by kernel_rfl) ?_)) <;> simp [-qt,-qd,-ql,rgs,yQ,zH (x:=(l.length:Int) - 1) (by omega)]) | ((first | (with_reducible refine zO ?_ ?_) | (with_reducible refine zE ?_ ?_) | (with_reducible refine zA ?_ ?_)) <;> intro qb <;> (have qp:=qb;try simp only [psq] at qp) <;> simp [-qt,-qd,-ql,rgs,yQ,zH (x:=(l.length:Int) - 1) (by omega),qb])
        all_goals (clear ih i1 i2 hnx;simp_all)
      | some b =>
        rw [hb] at i2
        simp only [head_all]
        refine PC.o okC Tryz.func345 rfl (.bool _) fun h nx hnx => ?_
        try simp [-qt,-qd,-ql,rgs,yQ,zH (x:=(l.length:Int) - 1) (by omega)]
        repeat' first | done | ((first | ((with_reducible show zU _ _ _ _ _ _);refine zB rfl fun _ => ?_) | ((with_reducible show zJ _ _ _ _ _ _ _);refine zC rfl omA omA ?_) | ((with_reducible show zG _ _ _ 359 _ _);refine zD (zH9) ?_) | ((with_reducible show zG _ _ _ 222 _ _);refine zD (vA) ?_) | ((with_reducible show zG _ _ _ 327 _ _);refine zD (c_parts hp (by omega) (by omega)) ?_) | (refine zD (i1) ?_) | (refine zD (i2) ?_) | ((with_reducible show zG _ _ _ 358 _ _);refine zD (c_rank ha) ?_) | ((with_reducible show zG _ _ _ 358 _ _);refine zD (c_rank hb) ?_) | ((with_reducible show zG _ _ _ 330 _ _);refine zD (c_compare (a:=gt l 0)) ?_) | (with_reducible refine zF (i:=3) [(0,[],[]),(1,[],[]),(2,[],[]),(3,[],[]),(4,[],[]),(5,[.tmp 10],[]),(6,[],[]),(7,[],[]),(8,[],[])] (by kernel_rfl) ?_) | (with_reducible refine zF (i:=8) [(0,[],[]),(1,[],[]),(2,[],[]),(3,[],[]),(4,[],[]),(5,[],[]),(6,[],[]),(7,[],[]),(8,[],[]),(9,[],[]),(10,[],[]),(11,[],[]),(12,[],[]),(13,[],[]),(14,[],[]),(15,[],[]),(16,[],[]),(17,[],[]),(18,[],[]),(19,[],[]),(20,[],[]),(21,[],[]),(22,[],[]),(23,[],[]),(24,[],[]),(25,[],[]),(26,[],[]),(27,[],[]),(28,[],[])] (by kernel_rfl) ?_)) <;> simp [-qt,-qd,-ql,rgs,yQ,zH (x:=(l.length:Int) - 1) (by omega)]) | ((first | (with_reducible refine zO ?_ ?_) | (with_reducible refine zE ?_ ?_) | (with_reducible refine zA ?_ ?_)) <;> intro qb <;> (have qp:=qb;try simp only [psq] at qp) <;> simp [-qt,-qd,-ql,rgs,yQ,zH (x:=(l.length:Int) - 1) (by omega),qb])
        all_goals clear ih i1 i2 hnx
        all_goals first | (simp_all;done) | (simp_all;omega) | grind | trace_state
   ·obtain rfl:l = []:=by cases l <;> simp at hp ⊢
    refine PC.o okC Tryz.func345 rfl (.bool _) fun h nx hnx => ?_
    try simp [-qt,-qd,-ql,rgs,rk_nil]
    repeat' first | done | ((first | ((with_reducible show zU _ _ _ _ _ _);refine zB rfl fun _ => ?_) | ((with_reducible show zJ _ _ _ _ _ _ _);refine zC rfl omA omA ?_) | (with_reducible refine zF (i:=3) [(0,[],[]),(1,[],[]),(2,[],[]),(3,[],[]),(4,[],[]),(5,[.tmp 10],[]),(6,[],[]),(7,[],[]),(8,[],[])] (by kernel_rfl) ?_) | (with_reducible refine zF (i:=8) [(0,[],[]),(1,[],[]),(2,[],[]),(3,[],[]),(4,[],[]),(5,[],[]),(6,[],[]),(7,[],[]),(8,[],[]),(9,[],[]),(10,[],[]),(11,[],[]),(12,[],[]),(13,[],[]),(14,[],[]),(15,[],[]),(16,[],[]),(17,[],[]),(18,[],[]),(19,[],[]),(20,[],[]),(21,[],[]),(22,[],[]),(23,[],[]),(24,[],[]),(25,[],[]),(26,[],[]),(27,[],[]),(28,[],[])] (by kernel_rfl) ?_)) <;> simp [-qt,-qd,-ql,rgs,rk_nil]) | ((first | (with_reducible refine zO ?_ ?_) | (with_reducible refine zE ?_ ?_) | (with_reducible refine zA ?_ ?_)) <;> intro qb <;> (have qp:=qb;try simp only [psq] at qp) <;> simp [-qt,-qd,-ql,rgs,rk_nil,qb])
theorem c_isHeap {p:Bool} {l:List Twg}:PC ctx.P 345 [.view p 3 (l.map yQ)] (.bool (rk l).isSome):=c_isHeapN _ _ (Nat.le_refl _)
theorem c_HeapOk {p:Bool} {l:List Twg}:PC ctx.P 294 [.view p 3 (l.map yQ)] (.bool (zF7 l)):=by
 refine PC.lim (n:=l.length) (x:=.view p 3 (l.map yQ)) (by simp) (.here (by simp)) ⟨_,Tryz.func294,by kernel_rfl,by kernel_rfl⟩ fun hlim => ?_
 refine PC.o okC Tryz.func294 rfl (.bool _) fun h nx hnx => ?_
 try simp [-qt,-qd,-ql,rgs]
 repeat' first | done | ((first | ((with_reducible show zU _ _ _ _ _ _);refine zB rfl fun _ => ?_) | ((with_reducible show zJ _ _ _ _ _ _ _);refine zC rfl omA omA ?_) | ((with_reducible show yT _ _ _ _ _ _ _ _);refine uY rfl omA omA ?_) | ((with_reducible show yT _ _ _ _ _ _ _ _);refine vM rfl omA omA ?_) | ((with_reducible show yT _ _ _ _ _ _ _ _);refine uA rfl omA omA omA ?_) | ((with_reducible show vE _ _ _ _ _ _ _ _ _ _ _);refine zA2 rfl omA omA ?_) | ((with_reducible show vE _ _ _ _ _ _ _ _ _ _ _);refine vQ rfl omA omA ?_) | ((with_reducible show vE _ _ _ _ _ _ _ _ _ _ _);refine uD rfl omA omA omA ?_) | (with_reducible refine zF (i:=6) [(0,[],[]),(1,[],[]),(2,[],[]),(3,[],[]),(4,[],[]),(5,[],[]),(6,[],[])] (by kernel_rfl) ?_)) <;> simp [-qt,-qd,-ql,rgs]) | ((first | (with_reducible refine zA ?_ ?_)) <;> intro qb <;> (have qp:=qb;try simp only [psq] at qp) <;> simp [-qt,-qd,-ql,rgs,qb])
 ·all_goals (try clear hnx)
  all_goals first | (simp_all [zF7];done) | (simp_all [zF7];omega) | (rw [Bool.eq_iff_iff];simp_all [zF7];done) | (rw [Bool.eq_iff_iff];simp_all [zF7];omega) | omega | (simp only [zF7];grind) | grind
 ·refine zW [2,3,4,10,11,12,13,14,15,16,17,18,19,20,21,22] (l.length) (fun (i:Nat) a=>[(10,.int .i64 i)]) (fun i_ a_ h_ _=>(fun i (_:Unit) _=>uI (fun i x => !(decide (0 ≤ zL0 (l.take i.toNat) x.seq))) (l.drop i) i = uI (fun i x => !(decide (0 ≤ zL0 (l.take i.toNat) x.seq))) l 0) i_ a_ h_) (()) (by simp) ?_ zT (Nat.le_refl _) ?_
  ·simp
  ·intro i a tm h' n' hle hJ hE hn' next hnx
   try dsimp only at hJ
   have hK:KeepB nx h' h:=KeepB.sub hE zK (by omega)
   simp [-qt,-qd,-ql]
   try simp [-qt,-qd,-ql,rgs,yQ]
   repeat' first | done | ((first | ((with_reducible show zU _ _ _ _ _ _);refine zB rfl fun _ => ?_) | ((with_reducible show zJ _ _ _ _ _ _ _);refine zC rfl omA omA ?_) | ((with_reducible show yT _ _ _ _ _ _ _ _);refine uY rfl omA omA ?_) | ((with_reducible show yT _ _ _ _ _ _ _ _);refine vM rfl omA omA ?_) | ((with_reducible show yT _ _ _ _ _ _ _ _);refine uA rfl omA omA omA ?_) | ((with_reducible show vE _ _ _ _ _ _ _ _ _ _ _);refine zA2 rfl omA omA ?_) | ((with_reducible show vE _ _ _ _ _ _ _ _ _ _ _);refine vQ rfl omA omA ?_) | ((with_reducible show vE _ _ _ _ _ _ _ _ _ _ _);refine uD rfl omA omA omA ?_) | ((with_reducible show zG _ _ _ 328 _ _);refine zD (c_seqAt) ?_) | ((with_reducible show zG _ _ _ 345 _ _);refine zD (c_isHeap) ?_) | (with_reducible refine zF (i:=6) [(0,[],[]),(1,[],[]),(2,[],[]),(3,[],[]),(4,[],[]),(5,[],[]),(6,[],[])] (by kernel_rfl) ?_)) <;> simp [-qt,-qd,-ql,rgs,yQ]) | ((first | (with_reducible refine zA ?_ ?_)) <;> intro qb <;> (have qp:=qb;try simp only [psq] at qp) <;> simp [-qt,-qd,-ql,rgs,yQ,qb])
   all_goals
    first
    | (have hlt:i < l.length:=(by first | omega | (simp at *; omega))
       rw [zV hlt] at hJ
       first
       | (refine hnx.go (()) ?_ ?_ ?_ ?_ ?_ ?_;omega;(simp [zM hlt hlim]);(simp);exact zK;(first | omega | (simp;omega));(try dsimp only);clear hnx;first | ((try simp only [List.drop_length,Int.toNat_natCast,uI,zF7] at hJ ⊢);grind) | (simp_all [uI,zF7];done) | (simp_all;omega))
       | (refine ⟨?_,zK⟩;clear hnx;first | ((try simp only [List.drop_length,Int.toNat_natCast,uI,zF7] at hJ ⊢);grind) | (simp_all [uI,zF7];done) | (simp_all;omega)))
    | (obtain rfl:i = l.length:=(by first | omega | (simp at *; omega))
       refine ⟨?_,zK⟩;clear hnx;first | ((try simp only [List.drop_length,Int.toNat_natCast,uI,zF7] at hJ ⊢);grind) | (simp_all [uI,zF7];done) | (simp_all;omega))
theorem c_isNode {n:Nod} {i:Int} (h0:0 ≤ i) (h1:i ≤ LIM):PC ctx.P 171 [.agg (yC n),.int .i64 i] (.bool (zD6 n i)):=by
 simp only [LIM] at h1
 refine PC.o okC Tryz.func171 rfl (.bool _) fun h nx hnx => ?_
 try simp [-qt,-qd,-ql,rgs,yC,zH (x:=i) (by omega),zH (x:=i - 1) (by omega)]
 repeat' first | done | ((first | ((with_reducible show zG _ _ _ 222 _ _);refine zD (vA) ?_)) <;> simp [-qt,-qd,-ql,rgs,yC,zH (x:=i) (by omega),zH (x:=i - 1) (by omega)]) | ((first | (with_reducible refine zE ?_ ?_) | (with_reducible refine zA ?_ ?_)) <;> intro qb <;> (have qp:=qb;try simp only [psq] at qp) <;> simp [-qt,-qd,-ql,rgs,yC,zH (x:=i) (by omega),zH (x:=i - 1) (by omega),qb])
 all_goals (try clear hnx)
 all_goals first | (simp_all [zD6,vX];done) | (simp_all [zD6,vX];omega) | (rw [Bool.eq_iff_iff];simp_all [zD6,vX];done) | (rw [Bool.eq_iff_iff];simp_all [zD6,vX];omega) | omega | (simp only [zD6,vX];grind) | grind
theorem c_TreeOk {p:Bool} {t:List Nod}:PC ctx.P 289 [.view p 5 (t.map yC)] (.bool (vV t)):=by
 refine PC.lim (n:=t.length) (x:=.view p 5 (t.map yC)) (by simp) (.here (by simp)) ⟨_,Tryz.func289,by kernel_rfl,by kernel_rfl⟩ fun hlim => ?_
 refine PC.o okC Tryz.func289 rfl (.bool _) fun h nx hnx => ?_
 try simp [-qt,-qd,-ql,rgs]
 repeat' first | done | ((first | ((with_reducible show zU _ _ _ _ _ _);refine zB rfl fun _ => ?_) | ((with_reducible show zJ _ _ _ _ _ _ _);refine zC rfl omA omA ?_)) <;> simp [-qt,-qd,-ql,rgs]) | ((first | (with_reducible refine zE ?_ ?_) | (with_reducible refine zA ?_ ?_)) <;> intro qb <;> (have qp:=qb;try simp only [psq] at qp) <;> simp [-qt,-qd,-ql,rgs,qb])
 refine zW [2,3,4,7,8,9,10,11,12,13,14,15,16,17,18,19,20] (t.length) (fun (i:Nat) a=>[(7,.int .i64 i)]) (fun i_ a_ h_ _=>(fun i (_:Unit) _=>uI (fun i n=>i != 60 && zD6 n i) (t.drop i) i = vV t) i_ a_ h_) (()) (by simp) ?_ zT (Nat.le_refl _) ?_
 ·simp [vV]
 ·intro i a tm h' n' hle hJ hE hn' next hnx
  try dsimp only at hJ
  have hK:KeepB nx h' h:=KeepB.sub hE zK (by omega)
  simp [-qt,-qd,-ql]
  try simp [-qt,-qd,-ql,rgs]
  repeat' first | done | ((first | ((with_reducible show zU _ _ _ _ _ _);refine zB rfl fun _ => ?_) | ((with_reducible show zJ _ _ _ _ _ _ _);refine zC rfl omA omA ?_) | ((with_reducible show zG _ _ _ 171 _ _);refine zD (c_isNode (by omega) (by omega)) ?_)) <;> simp [-qt,-qd,-ql,rgs]) | ((first | (with_reducible refine zE ?_ ?_) | (with_reducible refine zA ?_ ?_)) <;> intro qb <;> (have qp:=qb;try simp only [psq] at qp) <;> simp [-qt,-qd,-ql,rgs,qb])
  all_goals
   first
   | (have hlt:i < t.length:=(by first | omega | (simp at *; omega))
      rw [zV hlt] at hJ
      first
      | (refine hnx.go (()) ?_ ?_ ?_ ?_ ?_ ?_;omega;(simp [zM hlt hlim]);(simp);exact zK;(first | omega | (simp;omega));(try dsimp only);clear hnx;first | ((try simp only [List.drop_length,Int.toNat_natCast,uI] at hJ ⊢);grind) | (simp_all [uI];done) | (simp_all;omega))
      | (refine ⟨?_,zK⟩;clear hnx;first | ((try simp only [List.drop_length,Int.toNat_natCast,uI] at hJ ⊢);grind) | (simp_all [uI];done) | (simp_all;omega)))
   | (obtain rfl:i = t.length:=(by first | omega | (simp at *; omega))
      refine ⟨?_,zK⟩;clear hnx;first | ((try simp only [List.drop_length,Int.toNat_natCast,uI] at hJ ⊢);grind) | (simp_all [uI];done) | (simp_all;omega))
theorem c_Index {p:Bool} {xs:List Int} {n:Int}:PC ctx.P 333 [.view p 1 (xs.map iv),.int .i64 n] (.int .i64 (yW (fun x=>n == x) xs 0)):=by
 refine PC.lim (n:=xs.length) (x:=.view p 1 (xs.map iv)) (by simp) (.here (by simp)) ⟨_,Tryz.func333,by kernel_rfl,by kernel_rfl⟩ fun hlim => ?_
 refine PC.o okC Tryz.func333 rfl (.int _ _) fun h nx hnx => ?_
 try simp [-qt,-qd,-ql,rgs]
 repeat' first | done | ((first | ((with_reducible show zU _ _ _ _ _ _);refine zB rfl fun _ => ?_) | ((with_reducible show zJ _ _ _ _ _ _ _);refine zC rfl omA omA ?_)) <;> simp [-qt,-qd,-ql,rgs]) | ((first | (with_reducible refine zA ?_ ?_)) <;> intro qb <;> (have qp:=qb;try simp only [psq] at qp) <;> simp [-qt,-qd,-ql,rgs,qb])
 refine zW [4,5,8,9,10,11,12,13,14,15,16,17,18] (xs.length) (fun (i:Nat) a=>[(8,.int .i64 i)]) (fun i_ a_ h_ _=>(fun i (_:Unit) _=>yW (fun x=>n == x) (xs.drop i) i = yW (fun x=>n == x) xs 0) i_ a_ h_) (()) (by simp) ?_ zT (Nat.le_refl _) ?_
 ·simp
 ·intro i a tm h' n' hle hJ hE hn' next hnx
  try dsimp only at hJ
  have hK:KeepB nx h' h:=KeepB.sub hE zK (by omega)
  simp [-qt,-qd,-ql]
  try simp [-qt,-qd,-ql,rgs,iv]
  repeat' first | done | ((first | ((with_reducible show zU _ _ _ _ _ _);refine zB rfl fun _ => ?_) | ((with_reducible show zJ _ _ _ _ _ _ _);refine zC rfl omA omA ?_)) <;> simp [-qt,-qd,-ql,rgs,iv]) | ((first | (with_reducible refine zA ?_ ?_)) <;> intro qb <;> (have qp:=qb;try simp only [psq] at qp) <;> simp [-qt,-qd,-ql,rgs,iv,qb])
  all_goals
   first
   | (have hlt:i < xs.length:=(by first | omega | (simp at *; omega))
      rw [zV hlt] at hJ
      first
      | (refine hnx.go (()) ?_ ?_ ?_ ?_ ?_ ?_;omega;(simp [zM hlt hlim]);(simp);exact zK;(first | omega | (simp;omega));(try dsimp only);clear hnx;first | ((try simp only [List.drop_length,Int.toNat_natCast,yW] at hJ ⊢);grind) | (simp_all [yW];done) | (simp_all;omega))
      | (refine ⟨?_,zK⟩;clear hnx;first | ((try simp only [List.drop_length,Int.toNat_natCast,yW] at hJ ⊢);grind) | (simp_all [yW];done) | (simp_all;omega)))
   | (obtain rfl:i = xs.length:=(by first | omega | (simp at *; omega))
      refine ⟨?_,zK⟩;clear hnx;first | ((try simp only [List.drop_length,Int.toNat_natCast,yW] at hJ ⊢);grind) | (simp_all [yW];done) | (simp_all;omega))
theorem c_Contains {p:Bool} {xs:List Int} {n:Int}:PC ctx.P 261 [.view p 1 (xs.map iv),.int .i64 n] (.bool (xs.contains n)):=by
 have e:decide (0 ≤ yW (fun x=>n == x) xs 0) = xs.contains n:=by rw [vR _ _ 0 (Int.le_refl 0),any_contains]
 refine PC.o okC Tryz.func261 rfl (.bool _) fun h nx hnx => ?_
 try simp [-qt,-qd,-ql,rgs,e]
 repeat' first | done | ((first | ((with_reducible show zG _ _ _ 333 _ _);refine zD (c_Index) ?_)) <;> simp [-qt,-qd,-ql,rgs,e])
theorem c_isEvent {p:Bool} {t:List Nod} {e:Evt}:PC ctx.P 335 [.agg (yS e),.view p 5 (t.map yC)] (.bool (uM t e)):=by
 refine PC.o okC Tryz.func335 rfl (.bool _) fun h nx hnx => ?_
 try simp [-qt,-qd,-ql,rgs,yS,yC]
 repeat' first | done | ((first | ((with_reducible show zJ _ _ _ _ _ _ _);refine zC rfl omA omA ?_) | ((with_reducible show zG _ _ _ 229 _ _);refine zD (zD9) ?_) | ((with_reducible show zG _ _ _ 222 _ _);refine zD (vA) ?_) | ((with_reducible show zG _ _ _ 175 _ _);refine zD (c_IsDue) ?_) | (with_reducible refine zF (i:=8) [(0,[],[]),(1,[],[]),(2,[],[]),(3,[],[]),(4,[],[]),(5,[],[]),(6,[],[]),(7,[],[]),(8,[],[]),(9,[],[]),(10,[],[]),(11,[],[]),(12,[],[]),(13,[],[]),(14,[],[]),(15,[],[]),(16,[],[]),(17,[],[]),(18,[],[])] (by kernel_rfl) ?_)) <;> simp [-qt,-qd,-ql,rgs,yS,yC]) | ((first | (with_reducible refine zO ?_ ?_) | (with_reducible refine zE ?_ ?_) | (with_reducible refine zA ?_ ?_)) <;> intro qb <;> (have qp:=qb;try simp only [psq] at qp) <;> simp [-qt,-qd,-ql,rgs,yS,yC,qb])
 all_goals (try clear hnx)
 all_goals first | (simp_all [uM];done) | (simp_all [uM];omega) | (rw [Bool.eq_iff_iff];simp_all [uM];done) | (rw [Bool.eq_iff_iff];simp_all [uM];omega) | omega | (simp only [uM];grind) | grind
theorem c_isSpread1 {p:Bool} {t:List Nod} {n:Int}:PC ctx.P 291 [.int .i64 n,.vptr [.view p 5 (t.map yC)]] (.bool (!vY n t)):=by
 refine PC.o okC Tryz.func291 rfl (.bool _) fun h nx hnx => ?_
 try simp [-qt,-qd,-ql,rgs]
 repeat' first | done | ((first | ((with_reducible show zG _ _ _ 229 _ _);refine zD (zD9) ?_)) <;> simp [-qt,-qd,-ql,rgs])
theorem c_isSpread {F:Nat → Bool} {p:Bool} {t:List Nod} {s:Spr}:PC ctx.P 219 [.agg (zC2 F s),.view p 5 (t.map yC)] (.bool (vC s t)):=by
 refine PC.o okC Tryz.func219 rfl (.bool _) fun h nx hnx => ?_
 try simp [-qt,-qd,-ql,rgs,zC2]
 repeat' first | done | ((first | ((with_reducible show zU _ _ _ _ _ _);refine zB rfl fun _ => ?_) | ((with_reducible show zG _ _ _ 290 _ _);refine yJ (uX (q:=fun n => !vY n t) (fv:=.fn 291 [.vptr [.view p 5 (t.map yC)]]) (fun x _=>c_isSpread1)) (by first | exact .bool _ | exact .int _ _ | exact .str _) (by repeat' first | exact Bors.nil | refine Bors.cons ?_ ?_ | exact Bor.same _ | refine Bor.fn1 ?_ | refine Bor.bnd1 ?_ | refine Bor.agg1 ?_ | refine Bor.ptr0 (by first | (simp;done) | (simp;rfl) | assumption | (simp [*];done)) ?_ | refine Bor.ref0 (by first | (simp;done) | (simp;rfl) | (simp [iv,bv];done)) (by simp) (by simp)) ?_)) <;> simp [-qt,-qd,-ql,rgs,zC2]) | ((first | (with_reducible refine zE ?_ ?_)) <;> intro qb <;> (have qp:=qb;try simp only [psq] at qp) <;> simp [-qt,-qd,-ql,rgs,zC2,qb])
 all_goals (try clear hnx)
 all_goals first | (simp_all [vC];done) | (simp_all [vC];omega) | (rw [Bool.eq_iff_iff];simp_all [vC];done) | (rw [Bool.eq_iff_iff];simp_all [vC];omega) | omega | (simp only [vC];grind) | grind
end Go.AE.Tryz
end
