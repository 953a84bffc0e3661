/- Contracts of the seat's functions: what each answers, for all arguments. -/
import Derived.Test.YtokkkniepbkapaaGreatB2
import Derived.Test.YtokkkniepbkapaaGreatA3
import Derived.Test.YtokkkniepbkapaaGreatB1
set_option linter.unusedVariables false
set_option linter.unusedSimpArgs false
set_option linter.deprecated false
section
/- Contracts of the program's readers: tasks, groups, worlds. -/
set_option maxRecDepth 8000
set_option maxHeartbeats 2000000
namespace Go.AE.Tryz
open Go.Proofs
open List renaming map_take → qt,map_drop → qd,map_tail → ql
theorem c_hasNode {n:Int}:PC ctx.P 342 [.int .i64 n] (.bool (zG6 n)):=by
 refine PC.o okC Tryz.func342 rfl (.bool _) fun h nx hnx => ?_
 try simp [-qt,-qd,-ql,rgs]
 repeat' first | done | ((first | ((with_reducible show zG _ _ _ 222 _ _);refine zD (vA) ?_)) <;> simp [-qt,-qd,-ql,rgs]) | ((first | (with_reducible refine zE ?_ ?_)) <;> intro qb <;> (have qp:=qb;try simp only [psq] at qp) <;> simp [-qt,-qd,-ql,rgs,qb])
 all_goals (try clear hnx)
 all_goals first | (simp_all [zG6];done) | (simp_all [zG6];omega) | (rw [Bool.eq_iff_iff];simp_all [zG6];done) | (rw [Bool.eq_iff_iff];simp_all [zG6];omega) | omega | (simp only [zG6];grind) | grind
theorem c_hasB {n:Int}:PC ctx.P 343 [.int .i64 n] (.bool (hasB n)):=by
 refine PC.o okC Tryz.func343 rfl (.bool _) fun h nx hnx => ?_
 try simp [-qt,-qd,-ql,rgs]
 repeat' first | done | ((first | (with_reducible refine zE ?_ ?_)) <;> intro qb <;> (have qp:=qb;try simp only [psq] at qp) <;> simp [-qt,-qd,-ql,rgs,qb])
 all_goals (try clear hnx)
 all_goals first | (simp_all [hasB];done) | (simp_all [hasB];omega) | (rw [Bool.eq_iff_iff];simp_all [hasB];done) | (rw [Bool.eq_iff_iff];simp_all [hasB];omega) | omega | (simp only [hasB];grind) | grind
theorem c_InsOk {x:Inn}:PC ctx.P 288 [.agg (uC x)] (.bool (zL8 x)):=by
 refine PC.o okC Tryz.func288 rfl (.bool _) fun h nx hnx => ?_
 try simp [-qt,-qd,-ql,rgs,uC]
 repeat' first | done | ((first | ((with_reducible show zG _ _ _ 342 _ _);refine zD (c_hasNode) ?_) | ((with_reducible show zG _ _ _ 343 _ _);refine zD (c_hasB) ?_) | ((with_reducible show zG _ _ _ 222 _ _);refine zD (vA) ?_)) <;> simp [-qt,-qd,-ql,rgs,uC]) | ((first | (with_reducible refine zE ?_ ?_) | (with_reducible refine zA ?_ ?_)) <;> intro qb <;> (have qp:=qb;try simp only [psq] at qp) <;> simp [-qt,-qd,-ql,rgs,uC,qb])
 all_goals (try clear hnx)
 all_goals first | (simp_all [zL8];done) | (simp_all [zL8];omega) | (rw [Bool.eq_iff_iff];simp_all [zL8];done) | (rw [Bool.eq_iff_iff];simp_all [zL8];omega) | omega | (simp only [zL8];grind) | grind
theorem c_ProgOk1 {x:Inn}:PC ctx.P 287 [.agg (uC x)] (.bool (!zL8 x)):=by
 refine PC.o okC Tryz.func287 rfl (.bool _) fun h nx hnx => ?_
 try simp [-qt,-qd,-ql,rgs]
 repeat' first | done | ((first | ((with_reducible show zG _ _ _ 288 _ _);refine zD (c_InsOk) ?_)) <;> simp [-qt,-qd,-ql,rgs])
theorem c_ProgOk {p:Bool} {l:List Inn}:PC ctx.P 217 [.view p 3 (l.map uC)] (.bool (zE4 l)):=by
 refine PC.o okC Tryz.func217 rfl (.bool _) fun h nx hnx => ?_
 try simp [-qt,-qd,-ql,rgs]
 repeat' first | done | ((first | ((with_reducible show zU _ _ _ _ _ _);refine zB rfl fun _ => ?_) | ((with_reducible show zG _ _ _ 286 _ _);refine zD (zP5 (q:=fun x => !zL8 x) (fun x _=>c_ProgOk1)) ?_)) <;> simp [-qt,-qd,-ql,rgs]) | ((first | (with_reducible refine zE ?_ ?_)) <;> intro qb <;> (have qp:=qb;try simp only [psq] at qp) <;> simp [-qt,-qd,-ql,rgs,qb])
 all_goals (try clear hnx)
 all_goals first | (simp_all [zE4];done) | (simp_all [zE4];omega) | (rw [Bool.eq_iff_iff];simp_all [zE4];done) | (rw [Bool.eq_iff_iff];simp_all [zE4];omega) | omega | (simp only [zE4];grind) | grind
theorem c_TaskOk {t:Tsk}:PC ctx.P 268 [.agg (vU t)] (.bool (zN5 t)):=by
 refine PC.o okC Tryz.func268 rfl (.bool _) fun h nx hnx => ?_
 try simp [-qt,-qd,-ql,rgs,vU]
 repeat' first | done | ((first | ((with_reducible show zG _ _ _ 222 _ _);refine zD (vA) ?_) | (with_reducible refine zF (i:=3) [(0,[],[]),(1,[],[]),(2,[],[]),(3,[],[]),(4,[],[]),(5,[.tmp 34],[]),(6,[],[]),(7,[],[]),(8,[],[]),(9,[],[]),(10,[],[]),(11,[],[]),(12,[],[]),(13,[],[]),(14,[],[]),(15,[],[]),(16,[],[])] (by kernel_rfl) ?_)) <;> simp [-qt,-qd,-ql,rgs,vU]) | ((first | (with_reducible refine zO ?_ ?_) | (with_reducible refine zE ?_ ?_) | (with_reducible refine zA ?_ ?_)) <;> intro qb <;> (have qp:=qb;try simp only [psq] at qp) <;> simp [-qt,-qd,-ql,rgs,vU,qb])
 all_goals (try clear hnx)
 all_goals first | (simp_all [zN5];done) | (simp_all [zN5];omega) | (rw [Bool.eq_iff_iff];simp_all [zN5];done) | (rw [Bool.eq_iff_iff];simp_all [zN5];omega) | omega | (simp only [zN5];grind) | grind
theorem c_TasksOk1 {t:Tsk}:PC ctx.P 309 [.agg (vU t)] (.bool (!zN5 t)):=by
 refine PC.o okC Tryz.func309 rfl (.bool _) fun h nx hnx => ?_
 try simp [-qt,-qd,-ql,rgs]
 repeat' first | done | ((first | ((with_reducible show zG _ _ _ 268 _ _);refine zD (c_TaskOk) ?_)) <;> simp [-qt,-qd,-ql,rgs])
theorem c_TasksOk {p:Bool} {l:List Tsk}:PC ctx.P 230 [.view p 9 (l.map vU)] (.bool (uZ l)):=by
 refine PC.o okC Tryz.func230 rfl (.bool _) fun h nx hnx => ?_
 try simp [-qt,-qd,-ql,rgs]
 repeat' first | done | ((first | ((with_reducible show zU _ _ _ _ _ _);refine zB rfl fun _ => ?_) | ((with_reducible show zG _ _ _ 308 _ _);refine zD (zI0 (q:=fun x => !zN5 x) (fun x _=>c_TasksOk1)) ?_)) <;> simp [-qt,-qd,-ql,rgs]) | ((first | (with_reducible refine zE ?_ ?_)) <;> intro qb <;> (have qp:=qb;try simp only [psq] at qp) <;> simp [-qt,-qd,-ql,rgs,qb])
 all_goals (try clear hnx)
 all_goals first | (simp_all [uZ];done) | (simp_all [uZ];omega) | (rw [Bool.eq_iff_iff];simp_all [uZ];done) | (rw [Bool.eq_iff_iff];simp_all [uZ];omega) | omega | (simp only [uZ];grind) | grind
theorem c_isAfter {a b:Int}:PC ctx.P 303 [.int .i64 a,.int .i64 b] (.bool (zB1 a b)):=by
 refine PC.o okC Tryz.func303 rfl (.bool _) fun h nx hnx => ?_
 try simp [-qt,-qd,-ql,rgs]
 repeat' first | done | ((first | ((with_reducible show zG _ _ _ 222 _ _);refine zD (vA) ?_)) <;> simp [-qt,-qd,-ql,rgs]) | ((first | (with_reducible refine zE ?_ ?_)) <;> intro qb <;> (have qp:=qb;try simp only [psq] at qp) <;> simp [-qt,-qd,-ql,rgs,qb])
 all_goals (try clear hnx)
 all_goals first | (simp_all [zB1];done) | (simp_all [zB1];omega) | (rw [Bool.eq_iff_iff];simp_all [zB1];done) | (rw [Bool.eq_iff_iff];simp_all [zB1];omega) | omega | (simp only [zB1];grind) | grind
theorem c_afsAt1 {x:Afr} {h:Han}:PC ctx.P 352 [.agg (vO x),.vptr (zG8 h)] (.bool (x.han == h)):=by
 refine PC.o okC Tryz.func352 rfl (.bool _) fun h nx hnx => ?_
 try simp [-qt,-qd,-ql,rgs,vO,zG8,han_eq,lfOf,uT,cellEq]
theorem c_afsAt {F:Nat → Bool} {a:Afs} {x:Han}:PC ctx.P 305 [.agg (zC3 F a),.agg (zG8 x)] (.int .i64 (afsAt a.list x)):=by
 refine PC.o okC Tryz.func305 rfl (.int _ _) fun h nx hnx => ?_
 try simp [-qt,-qd,-ql,rgs,zC3,afsAt]
 repeat' first | done | ((first | ((with_reducible show zG _ _ _ 351 _ _);refine yJ (zJ5 (q:=fun y=>y.han == x) (fv:=.fn 352 [.vptr (zG8 x)]) (fun x _=>c_afsAt1)) (by first | exact .bool _ | exact .int _ _ | exact .str _) (by repeat' first | exact Bors.nil | refine Bors.cons ?_ ?_ | exact Bor.same _ | refine Bor.fn1 ?_ | refine Bor.bnd1 ?_ | refine Bor.agg1 ?_ | refine Bor.ptr0 (by first | (simp;done) | (simp;rfl) | assumption | (simp [*];done)) ?_ | refine Bor.ref0 (by first | (simp;done) | (simp;rfl) | (simp [iv,bv];done)) (by simp) (by simp)) ?_)) <;> simp [-qt,-qd,-ql,rgs,zC3,afsAt])
theorem c_isTimer {F:Nat → Bool} {w:Wld} {t:Tmr}:PC ctx.P 225 [.agg (wldV F w),.agg (vJ t)] (.bool (zB3 w t)):=by
 refine PC.o okC Tryz.func225 rfl (.bool _) fun h nx hnx => ?_
 try simp [-qt,-qd,-ql,rgs,wldV,vJ]
 repeat' first | done | ((first | ((with_reducible show zG _ _ _ 229 _ _);refine zD (zD9) ?_) | ((with_reducible show zG _ _ _ 299 _ _);refine zD (c_isIn_Task) ?_)) <;> simp [-qt,-qd,-ql,rgs,wldV,vJ]) | ((first | (with_reducible refine zA ?_ ?_)) <;> intro qb <;> (have qp:=qb;try simp only [psq] at qp) <;> simp [-qt,-qd,-ql,rgs,wldV,vJ,qb])
 all_goals (try clear hnx)
 all_goals first | (simp_all [zB3];done) | (simp_all [zB3];omega) | (rw [Bool.eq_iff_iff];simp_all [zB3];done) | (rw [Bool.eq_iff_iff];simp_all [zB3];omega) | omega | (simp only [zB3];grind) | grind
theorem c_isSight {F:Nat → Bool} {w:Wld} {s:Sgt}:PC ctx.P 236 [.agg (wldV F w),.agg (zA6 s)] (.bool (zE1 w s)):=by
 refine PC.o okC Tryz.func236 rfl (.bool _) fun h nx hnx => ?_
 try simp [-qt,-qd,-ql,rgs,wldV,zA6]
 repeat' first | done | ((first | ((with_reducible show zG _ _ _ 229 _ _);refine zD (zD9) ?_) | ((with_reducible show zG _ _ _ 222 _ _);refine zD (vA) ?_) | ((with_reducible show zG _ _ _ 320 _ _);refine zD (c_size_Event) ?_) | (with_reducible refine zF (i:=1) [(0,[],[]),(1,[],[]),(2,[],[]),(3,[],[]),(4,[],[]),(5,[],[]),(6,[],[]),(7,[],[]),(8,[],[]),(9,[],[]),(10,[],[]),(11,[.tmp 12],[]),(12,[],[]),(13,[],[]),(14,[],[])] (by kernel_rfl) ?_)) <;> simp [-qt,-qd,-ql,rgs,wldV,zA6]) | ((first | (with_reducible refine zO ?_ ?_) | (with_reducible refine zE ?_ ?_) | (with_reducible refine zA ?_ ?_)) <;> intro qb <;> (have qp:=qb;try simp only [psq] at qp) <;> simp [-qt,-qd,-ql,rgs,wldV,zA6,qb])
 all_goals (try clear hnx)
 all_goals first | (simp_all [zE1];done) | (simp_all [zE1];omega) | (rw [Bool.eq_iff_iff];simp_all [zE1];done) | (rw [Bool.eq_iff_iff];simp_all [zE1];omega) | omega | (simp only [zE1];grind) | grind
theorem c_isTask {F:Nat → Bool} {w:Wld} {t:Tsk}:PC ctx.P 232 [.agg (wldV F w),.agg (vU t)] (.bool (zD7 w t)):=by
 refine PC.lim (n:=w.groups.length) (x:=.agg (wldV F w)) (by simp) (.agg (x:=.view (F 12) 5 (w.groups.map (vD (F 13)))) (by simp [wldV]) (.here (by simp))) ⟨_,Tryz.func232,by kernel_rfl,by kernel_rfl⟩ fun hlim => ?_
 refine PC.o okC Tryz.func232 rfl (.bool _) fun h nx hnx => ?_
 try simp [-qt,-qd,-ql,rgs,wldV,vU,zD2,yF hlim]
 repeat' first | done | ((first | ((with_reducible show zJ _ _ _ _ _ _ _);refine zC rfl omA omA ?_) | ((with_reducible show zG _ _ _ 311 _ _);refine zD (c_isIn_Prog) ?_) | ((with_reducible show zG _ _ _ 312 _ _);refine zD (c_size_Ins) ?_) | ((with_reducible show zG _ _ _ 88 _ _);refine zD (zL3) ?_) | ((with_reducible show zG _ _ _ 222 _ _);refine zD (vA) ?_) | ((with_reducible show zG _ _ _ 229 _ _);refine zD (zD9) ?_) | ((with_reducible show zG _ _ _ 313 _ _);refine zD (c_isIn_Group) ?_) | (with_reducible refine zF (i:=1) [(0,[],[]),(1,[],[]),(2,[],[]),(3,[],[]),(4,[],[]),(5,[],[]),(6,[],[]),(7,[],[]),(8,[],[]),(9,[],[]),(10,[],[]),(11,[],[]),(12,[],[]),(13,[],[]),(14,[],[]),(15,[.tmp 12],[]),(16,[],[]),(17,[],[]),(18,[],[]),(19,[],[]),(20,[],[]),(21,[],[]),(22,[],[]),(23,[.tmp 24],[]),(24,[],[]),(25,[],[]),(26,[],[]),(27,[],[])] (by kernel_rfl) ?_)) <;> simp [-qt,-qd,-ql,rgs,wldV,vU,zD2,yF hlim]) | ((first | (with_reducible refine zO ?_ ?_) | (with_reducible refine zA ?_ ?_)) <;> intro qb <;> (have qp:=qb;try simp only [psq] at qp) <;> simp [-qt,-qd,-ql,rgs,wldV,vU,zD2,yF hlim,qb])
 all_goals (try clear hnx)
 all_goals first | (simp_all [zD7];done) | (simp_all [zD7];omega) | (rw [Bool.eq_iff_iff];simp_all [zD7];done) | (rw [Bool.eq_iff_iff];simp_all [zD7];omega) | omega | (simp only [zD7];grind) | grind
theorem c_isGroup1 {F:Nat → Bool} {w:Wld} {n:Int}:PC ctx.P 317 [.int .i64 n,.vptr (wldV F w)] (.bool (!vY n w.tasks)):=by
 refine PC.o okC Tryz.func317 rfl (.bool _) fun h nx hnx => ?_
 try simp [-qt,-qd,-ql,rgs,wldV]
 repeat' first | done | ((first | ((with_reducible show zG _ _ _ 299 _ _);refine zD (c_isIn_Task) ?_)) <;> simp [-qt,-qd,-ql,rgs,wldV])
theorem c_WorldOk1 {F:Nat → Bool} {w:Wld} {e:Evt}:PC ctx.P 221 [.agg (yS e),.vptr (wldV F w)] (.bool (inR e.time 0 w.now)):=by
 refine PC.o okC Tryz.func221 rfl (.bool _) fun h nx hnx => ?_
 try simp [-qt,-qd,-ql,rgs,wldV,yS]
 repeat' first | done | ((first | ((with_reducible show zG _ _ _ 222 _ _);refine zD (vA) ?_)) <;> simp [-qt,-qd,-ql,rgs,wldV,yS])
theorem c_WorldOk2 {F:Nat → Bool} {w:Wld} {x:Afr}:PC ctx.P 228 [.agg (vO x),.vptr (wldV F w)] (.bool (vY x.node w.tree)):=by
 refine PC.o okC Tryz.func228 rfl (.bool _) fun h nx hnx => ?_
 try simp [-qt,-qd,-ql,rgs,wldV,vO]
 repeat' first | done | ((first | ((with_reducible show zG _ _ _ 229 _ _);refine zD (zD9) ?_)) <;> simp [-qt,-qd,-ql,rgs,wldV,vO])
theorem c_WorldOk3 {n:Int}:PC ctx.P 238 [.int .i64 n] (.bool (inR n 0 99)):=by
 refine PC.o okC Tryz.func238 rfl (.bool _) fun h nx hnx => ?_
 try simp [-qt,-qd,-ql,rgs]
 repeat' first | done | ((first | ((with_reducible show zG _ _ _ 222 _ _);refine zD (vA) ?_)) <;> simp [-qt,-qd,-ql,rgs])
theorem c_WorldOk4 {n:Int}:PC ctx.P 239 [.int .i64 n] (.bool (inR n 0 99)):=by
 refine PC.o okC Tryz.func239 rfl (.bool _) fun h nx hnx => ?_
 try simp [-qt,-qd,-ql,rgs]
 repeat' first | done | ((first | ((with_reducible show zG _ _ _ 222 _ _);refine zD (vA) ?_)) <;> simp [-qt,-qd,-ql,rgs])
end Go.AE.Tryz
end
section
/- Contracts of the program's readers: timers, chains, events. -/
set_option maxRecDepth 8000
set_option maxHeartbeats 2000000
namespace Go.AE.Tryz
open Go.Proofs
open List renaming map_take → qt,map_drop → qd,map_tail → ql
theorem c_TimersOk {F:Nat → Bool} {t:Tms}:PC ctx.P 223 [.agg (zA8 F t)] (.bool (uL t)):=by
 refine PC.lim (n:=t.list.length) (x:=.agg (zA8 F t)) (by simp) (.agg (x:=.view (F 7) 5 (t.list.map vJ)) (by simp [zA8]) (.here (by simp))) ⟨_,Tryz.func223,by kernel_rfl,by kernel_rfl⟩ fun hlim => ?_
 refine PC.o okC Tryz.func223 rfl (.bool _) fun h nx hnx => ?_
 try simp [-qt,-qd,-ql,rgs,zA8]
 repeat' first | done | ((first | ((with_reducible show zU _ _ _ _ _ _);refine zB rfl fun _ => ?_) | ((with_reducible show zJ _ _ _ _ _ _ _);refine zC rfl omA omA ?_) | ((with_reducible show zG _ _ _ 222 _ _);refine zD (vA) ?_) | ((with_reducible show zG _ _ _ 294 _ _);refine zD (c_HeapOk) ?_)) <;> simp [-qt,-qd,-ql,rgs,zA8]) | ((first | (with_reducible refine zE ?_ ?_) | (with_reducible refine zA ?_ ?_)) <;> intro qb <;> (have qp:=qb;try simp only [psq] at qp) <;> simp [-qt,-qd,-ql,rgs,zA8,qb])
 ·all_goals (try clear hnx)
  all_goals first | (simp_all [uL];done) | (simp_all [uL];omega) | (rw [Bool.eq_iff_iff];simp_all [uL];done) | (rw [Bool.eq_iff_iff];simp_all [uL];omega) | omega | (simp only [uL];grind) | grind
 ·all_goals (try clear hnx)
  all_goals first | (simp_all [uL];done) | (simp_all [uL];omega) | (rw [Bool.eq_iff_iff];simp_all [uL];done) | (rw [Bool.eq_iff_iff];simp_all [uL];omega) | omega | (simp only [uL];grind) | grind
 ·all_goals (try clear hnx)
  all_goals first | (simp_all [uL];done) | (simp_all [uL];omega) | (rw [Bool.eq_iff_iff];simp_all [uL];done) | (rw [Bool.eq_iff_iff];simp_all [uL];omega) | omega | (simp only [uL];grind) | grind
 ·refine zW [2,3,4,6,26,27,28,29,30,31,32,33,34,35,36,37,38,39,40,41,42,43,44,45,46,47,48,49,50,51,52,53,54,55,56,57,58,59] (t.list.length) (fun (i:Nat) a=>[(26,.int .i64 i),(3,.int .i64 a.1),(4,.int .i64 a.2)]) (fun i_ a_ h_ _=>(fun i (a:Int × Int) _=>zD3 t.next (t.list.drop i) a.1 = zD3 t.next t.list (-1) ∧ a.2 + cntB (·.armed) (t.list.drop i) = cntB (·.armed) t.list ∧ 0 ≤ a.2 ∧ a.2 ≤ i) i_ a_ h_) ((-1,0)) (by simp) ?_ zT (Nat.le_refl _) ?_
  ·simp
  ·intro i a tm h' n' hle hJ hE hn' next hnx
   try dsimp only at hJ
   have hK:KeepB nx h' h:=KeepB.sub hE zK (by omega)
   simp [-qt,-qd,-ql]
   have e1:h' (nx) = some (.obj (zA8 F t)):=by have:=hE (nx) (by omega);simpa [zA8] using this
   have e1n:∀ k,((nx) = n' + k) = False:=fun k=>by simp only [eq_iff_iff,iff_false];omega
   have e1m:((nx) = n') = False:=by simp only [eq_iff_iff,iff_false];omega
   try simp [-qt,-qd,-ql,rgs,zA8,vJ,e1,e1n,e1m]
   repeat' first | done | ((first | ((with_reducible show zU _ _ _ _ _ _);refine zB rfl fun _ => ?_) | ((with_reducible show zJ _ _ _ _ _ _ _);refine zC rfl omA omA ?_) | ((with_reducible show zG _ _ _ 222 _ _);refine zD (vA) ?_) | ((with_reducible show zG _ _ _ 295 _ _);refine yJ (zP1 (q:=fun h=>decide (zF4 t.list h.seq < 0) || (!(gt t.list (zF4 t.list h.seq)).armed || (gt t.list (zF4 t.list h.seq)).due != h.due)) (fv:=.fn 296 [.vptr (zA8 F t)]) (fun x _=>c_TimersOk1)) (by first | exact .bool _ | exact .int _ _ | exact .str _) (by repeat' first | exact Bors.nil | refine Bors.cons ?_ ?_ | exact Bor.same _ | refine Bor.fn1 ?_ | refine Bor.bnd1 ?_ | refine Bor.agg1 ?_ | refine Bor.ptr0 (by first | (simp;done) | (simp;rfl) | assumption | (simp [*];done)) ?_ | refine Bor.ref0 (by first | (simp;done) | (simp;rfl) | (simp [iv,bv];done)) (by simp) (by simp)) ?_)) <;> simp [-qt,-qd,-ql,rgs,zA8,vJ,e1,e1n,e1m]) | ((first | (with_reducible refine zE ?_ ?_) | (with_reducible refine zA ?_ ?_)) <;> intro qb <;> (have qp:=qb;try simp only [psq] at qp) <;> simp [-qt,-qd,-ql,rgs,zA8,vJ,e1,e1n,e1m,qb])
   all_goals
    first
    | (have hlt:i < t.list.length:=(by omega)
       rw [zV hlt] at hJ
       first
       | (refine ⟨?_,zK⟩;clear hnx;(try simp only [zD3,uL,zQ8,cntB_nil] at hJ ⊢);grind)
       | skip)
    | skip
   ·simp only [LIM] at hlim
    refine hnx.go ((gt t.list (i:Int)).seq,a.2 + 1) ?_ ?_ ?_ ?_ ?_ ?_
    ·omega
    ·simp [zH (x:=(i:Int) + 1) (by omega),zH (x:=a.2 + 1) (by omega)]
    ·simp
    ·exact zK
    ·first | omega | (simp;omega)
    dsimp only
    simp only [zD3,zQ8] at hJ
    grind
   ·simp only [LIM] at hlim
    refine hnx.go ((gt t.list (i:Int)).seq,a.2) ?_ ?_ ?_ ?_ ?_ ?_
    ·omega
    ·simp [zH (x:=(i:Int) + 1) (by omega)]
    ·simp
    ·exact zK
    ·first | omega | (simp;omega)
    dsimp only
    simp only [zD3,zQ8] at hJ
    grind
   all_goals
    obtain rfl:i = t.list.length:=(by omega)
    refine ⟨?_,zK⟩
    simp only [List.drop_length,zD3,uL,cntB_nil] at hJ ⊢
    grind
theorem c_chain {p:Bool} {t:List Nod} {n:Int} (ht:vV t = true) (h0:0 ≤ n) (h1:n < t.length):PC ctx.P 260 [.view p 5 (t.map yC),.int .i64 n] (.view true 1 ((zI2 t n).map iv)):=by
 have hl60:=zB9 ht
 refine PC.o okC Tryz.func260 rfl (.vmap zE6) fun h nx hnx => ?_
 try simp [-qt,-qd,-ql,rgs]
 repeat' first | done | ((first | ((with_reducible show zJ _ _ _ _ _ _ _);refine zC rfl omA omA ?_) | ((with_reducible show vZ _ _ _ _ _ _ _ _);refine zQ rfl rfl (by decide) (by decide) (by first | (simp [-qt,-qd,-ql,rgs];done) | (simp [-qt,-qd,-ql,rgs];rfl)) (by first | (simp [-qt,-qd,-ql,rgs];done) | (simp [-qt,-qd,-ql,rgs];rfl)) (by first | (simp;done) | (simp;omega)) (by first | (simp only [zY,LIM] at *; simp;omega) | (simp only [zY];simp;omega)) (by simp [iv,bv]) ?_)) <;> simp [-qt,-qd,-ql,rgs]) | ((first | (with_reducible refine zE ?_ ?_) | (with_reducible refine zA ?_ ?_)) <;> intro qb <;> (have qp:=qb;try simp only [psq] at qp) <;> simp [-qt,-qd,-ql,rgs,qb])
 refine go_dnP (h0:=h) (nx0:=nx) [1,5,8,9,10,11,12,13,14,15,16,17,18,19,20,21,22,23,24,25,26,27,28,29,30] (fun a=>[(1,.int .i64 a.1),(5,.ref a.2.2 1 0 (a.2.1.length + 1))]) (fun a=>a.1.toNat) (fun (a:Int × List Int × Nat) h' n'=>0 ≤ a.1 ∧ a.1 < t.length ∧ nx ≤ a.2.2 ∧ h' a.2.2 = some (.row 1 ((a.2.1 ++ [a.1]).map iv)) ∧ a.2.1 ++ zI2 t a.1 = zI2 t n ∧ (a.2.1.length:Int) + a.1 ≤ n ∧ a.2.2 < n') ((n,[],nx + 2)) (by simp) ?_ zK (by omega) ?_
 ·simp [h0,h1,iv]
 ·intro a tm h' n' hJ hE hn' next hnx
  try dsimp only at hJ
  have hK:KeepB nx h' h:=KeepB.sub hE zK (by omega)
  obtain ⟨m,pre,id⟩:=a
  obtain ⟨g0,g1,g2,g3,g4,g5,g6⟩:=hJ
  dsimp only at g0 g1 g2 g3 g4 g5 g6 ⊢
  have hs:=chain_step ht g0 g1
  have hu:=zJ1 ht g0 g1
  have k1:∀ k,(id = n' + k) = False:=fun k=>by simp only [eq_iff_iff,iff_false];omega
  try simp [-qt,-qd,-ql,rgs,yC,g3,k1,iv]
  repeat' first | done | ((first | ((with_reducible show zJ _ _ _ _ _ _ _);refine zC rfl omA omA ?_) | ((with_reducible show vZ _ _ _ _ _ _ _ _);refine zQ rfl rfl (by decide) (by decide) (by first | (simp [-qt,-qd,-ql,rgs,yC,g3,k1,iv];done) | (simp [-qt,-qd,-ql,rgs,yC,g3,k1,iv];rfl)) (by first | (simp [-qt,-qd,-ql,rgs,yC,g3,k1,iv];done) | (simp [-qt,-qd,-ql,rgs,yC,g3,k1,iv];rfl)) (by first | (simp;done) | (simp;omega)) (by first | (simp only [zY,LIM] at *; simp;omega) | (simp only [zY];simp;omega)) (by simp [iv,bv]) ?_)) <;> simp [-qt,-qd,-ql,rgs,yC,g3,k1,iv]) | ((first | (with_reducible refine zE ?_ ?_) | (with_reducible refine zA ?_ ?_)) <;> intro qb <;> (have qp:=qb;try simp only [psq] at qp) <;> simp [-qt,-qd,-ql,rgs,yC,g3,k1,iv,qb])
  ·have hk:(gt t m).kind ≠ 0:=by omega
   have hu':=hu hk
   refine hnx.go ((gt t m).up,pre ++ [m],n' + 23) ?_ ?_ ?_ ?_ ?_ ?_
   ·simp;omega
   ·simp
   ·simp
   ·exact zK
   ·first | omega | (simp;omega)
   dsimp only
   refine ⟨by omega,by omega,by omega,by simp [iv],?_,by simp;omega,by simp⟩
   rw [if_neg (by simp;omega)] at hs
   rw [← g4,hs];simp
  all_goals
   refine ⟨?_,zK⟩
   rw [if_pos (by simp;omega)] at hs
   rw [← g4,hs,List.take_of_length_le (by simp)];simp [iv]
theorem c_firstOf {p q:Bool} {t:List Nod} {l:List Evt} {n:Int} (ht:vV t = true) (h0:0 ≤ n) (h1:n < t.length) :
 PC ctx.P 173 [.view p 5 (t.map yC),.view q 4 (l.map yS),.int .i64 n] (.tup [.agg (yS ((uN t l n).getD ⟨0,0,0,0⟩)),.bool (uN t l n).isSome]):=by
 refine PC.lim (n:=l.length) (x:=.view q 4 (l.map yS)) (by simp) (.here (by simp)) ⟨_,Tryz.func173,by kernel_rfl,by kernel_rfl⟩ fun hlim => ?_
 refine PC.o okC Tryz.func173 rfl (.tup _ (by simp;exact .agg _ (zO7 _))) fun h nx hnx => ?_
 try simp [-qt,-qd,-ql,rgs]
 repeat' first | done | ((first | ((with_reducible show zU _ _ _ _ _ _);refine zB rfl fun _ => ?_) | ((with_reducible show zJ _ _ _ _ _ _ _);refine zC rfl omA omA ?_) | ((with_reducible show zG _ _ _ 260 _ _);refine zD (c_chain ht h0 h1) ?_)) <;> simp [-qt,-qd,-ql,rgs]) | ((first | (with_reducible refine zA ?_ ?_)) <;> intro qb <;> (have qp:=qb;try simp only [psq] at qp) <;> simp [-qt,-qd,-ql,rgs,qb])
 refine zW [7,10,16,17,18,19,20,21,22,23,24,25] (l.length) (fun (i:Nat) a=>[(16,.int .i64 i)]) (fun i_ a_ h_ _=>(fun i (_:Unit) _=>(l.drop i).find? (fun e=>(zI2 t n).contains e.node) = uN t l n) i_ a_ h_) (()) (by simp) ?_ zT (Nat.le_refl _) ?_
 ·simp [uN]
 ·intro i a tm h' n' hle hJ hE hn' next hnx
  try dsimp only at hJ
  have hK:KeepB nx h' h:=KeepB.sub hE zK (by omega)
  simp [-qt,-qd,-ql]
  have e1:h' (nx) = some (.obj [.int .i64 0,.int .i64 0,.int .i64 0,.int .i64 0]):=by have:=hE (nx) (by omega);simpa using this
  have e1n:∀ k,((nx) = n' + k) = False:=fun k=>by simp only [eq_iff_iff,iff_false];omega
  have e1m:((nx) = n') = False:=by simp only [eq_iff_iff,iff_false];omega
  try simp [-qt,-qd,-ql,rgs,yS,e1,e1n,e1m]
  repeat' first | done | ((first | ((with_reducible show zU _ _ _ _ _ _);refine zB rfl fun _ => ?_) | ((with_reducible show zJ _ _ _ _ _ _ _);refine zC rfl omA omA ?_) | ((with_reducible show zG _ _ _ 261 _ _);refine zD (c_Contains) ?_)) <;> simp [-qt,-qd,-ql,rgs,yS,e1,e1n,e1m]) | ((first | (with_reducible refine zA ?_ ?_)) <;> intro qb <;> (have qp:=qb;try simp only [psq] at qp) <;> simp [-qt,-qd,-ql,rgs,yS,e1,e1n,e1m,qb])
  ·have hf:uN t l n = some (gt l i):=by rw [zV (xs:=l) (i:=i) (by omega),List.find?_cons] at hJ;simpa [qp] using hJ.symm
   refine ⟨by simp [hf],zK⟩
  ·have hf:(l.drop (i + 1)).find? (fun e=>(zI2 t n).contains e.node) = uN t l n:=by rw [zV (xs:=l) (i:=i) (by omega),List.find?_cons] at hJ;simpa [qp] using hJ
   refine hnx.go () ?_ ?_ ?_ ?_ ?_ ?_
   ·omega
   ·simp [zM (show i < l.length by omega) hlim]
   ·simp
   ·exact zK
   ·first | omega | (simp;omega)
   exact hf
  ·have hf:uN t l n = none:=by rw [← hJ,List.drop_eq_nil_of_le (by omega)];rfl
   refine ⟨by simp [hf],zK⟩
theorem c_fits {p q:Bool} {t:List Nod} {l:List Evt} {e:Evt} (ht:vV t = true):PC ctx.P 263 [.agg (yS e),.view p 5 (t.map yC),.view q 4 (l.map yS)] (.bool (fits t l e)):=by
 refine PC.lim (n:=l.length) (x:=.view q 4 (l.map yS)) (by simp) (.here (by simp)) ⟨_,Tryz.func263,by kernel_rfl,by kernel_rfl⟩ fun hlim => ?_
 by_cases hev:uM t e = true
 ·have hb:0 ≤ e.node ∧ e.node < t.length:=by
   unfold uM at hev;split at hev
   ·cases hev
   ·rename_i h2;simpa [zM0] using h2
  refine PC.o okC Tryz.func263 rfl (.bool _) fun h nx hnx => ?_
  try simp [-qt,-qd,-ql,rgs,yS,yF hlim,hev]
  repeat' first | done | ((first | ((with_reducible show zU _ _ _ _ _ _);refine zB rfl fun _ => ?_) | ((with_reducible show zJ _ _ _ _ _ _ _);refine zC rfl omA omA ?_) | ((with_reducible show zG _ _ _ 335 _ _);refine zD (c_isEvent (e:=e)) ?_) | ((with_reducible show zG _ _ _ 173 _ _);refine zD (c_firstOf ht hb.1 hb.2) ?_) | (with_reducible refine zF (i:=1) [(0,[],[]),(1,[],[]),(2,[],[]),(3,[],[]),(4,[],[]),(5,[],[]),(6,[],[]),(7,[],[]),(8,[],[]),(9,[],[]),(10,[],[]),(11,[],[]),(12,[],[]),(13,[],[]),(14,[],[]),(15,[],[]),(16,[],[]),(17,[],[]),(18,[],[]),(19,[],[]),(20,[],[])] (by kernel_rfl) ?_)) <;> simp [-qt,-qd,-ql,rgs,yS,yF hlim,hev]) | ((first | (with_reducible refine zO ?_ ?_) | (with_reducible refine zA ?_ ?_)) <;> intro qb <;> (have qp:=qb;try simp only [psq] at qp) <;> simp [-qt,-qd,-ql,rgs,yS,yF hlim,hev,qb])
  all_goals (try clear hnx)
  all_goals first | (simp_all [fits];done) | (simp_all [fits];omega) | (rw [Bool.eq_iff_iff];simp_all [fits];done) | (rw [Bool.eq_iff_iff];simp_all [fits];omega) | omega | (simp only [fits];grind) | grind
 ·refine PC.o okC Tryz.func263 rfl (.bool _) fun h nx hnx => ?_
  try simp [-qt,-qd,-ql,rgs,yS,hev]
  repeat' first | done | ((first | ((with_reducible show zU _ _ _ _ _ _);refine zB rfl fun _ => ?_) | ((with_reducible show zJ _ _ _ _ _ _ _);refine zC rfl omA omA ?_) | ((with_reducible show zG _ _ _ 335 _ _);refine zD (c_isEvent (e:=e)) ?_) | (with_reducible refine zF (i:=1) [(0,[],[]),(1,[],[]),(2,[],[]),(3,[],[]),(4,[],[]),(5,[],[]),(6,[],[]),(7,[],[]),(8,[],[]),(9,[],[]),(10,[],[]),(11,[],[]),(12,[],[]),(13,[],[]),(14,[],[]),(15,[],[]),(16,[],[]),(17,[],[]),(18,[],[]),(19,[],[]),(20,[],[])] (by kernel_rfl) ?_)) <;> simp [-qt,-qd,-ql,rgs,yS,hev]) | ((first | (with_reducible refine zO ?_ ?_) | (with_reducible refine zA ?_ ?_)) <;> intro qb <;> (have qp:=qb;try simp only [psq] at qp) <;> simp [-qt,-qd,-ql,rgs,yS,hev,qb])
  all_goals (try clear hnx)
  all_goals first | (simp_all [fits];done) | (simp_all [fits];omega) | (rw [Bool.eq_iff_iff];simp_all [fits];done) | (rw [Bool.eq_iff_iff];simp_all [fits];omega) | omega | (simp only [fits];grind) | grind
end Go.AE.Tryz
end
section
/- Contracts of the program's readers: events, worlds. -/
set_option maxRecDepth 8000
set_option maxHeartbeats 2000000
namespace Go.AE.Tryz
open Go.Proofs
open List renaming map_take → qt,map_drop → qd,map_tail → ql
theorem c_EventsOk {p q:Bool} {t:List Nod} {l:List Evt}:PC ctx.P 218 [.view p 5 (t.map yC),.view q 4 (l.map yS)] (.bool (yM t l)):=by
 refine PC.lim (n:=l.length) (x:=.view q 4 (l.map yS)) (by simp) (.here (by simp)) ⟨_,Tryz.func218,by kernel_rfl,by kernel_rfl⟩ fun hlim => ?_
 by_cases ht:vV t = true
 ·refine PC.o okC Tryz.func218 rfl (.bool _) fun h nx hnx => ?_
  try simp [-qt,-qd,-ql,rgs,ht]
  repeat' first | done | ((first | ((with_reducible show zU _ _ _ _ _ _);refine zB rfl fun _ => ?_) | ((with_reducible show zJ _ _ _ _ _ _ _);refine zC rfl omA omA ?_) | ((with_reducible show yT _ _ _ _ _ _ _ _);refine uY rfl omA omA ?_) | ((with_reducible show yT _ _ _ _ _ _ _ _);refine vM rfl omA omA ?_) | ((with_reducible show yT _ _ _ _ _ _ _ _);refine uA rfl omA omA omA ?_) | ((with_reducible show vE _ _ _ _ _ _ _ _ _ _ _);refine zA2 rfl omA omA ?_) | ((with_reducible show vE _ _ _ _ _ _ _ _ _ _ _);refine vQ rfl omA omA ?_) | ((with_reducible show vE _ _ _ _ _ _ _ _ _ _ _);refine uD rfl omA omA omA ?_) | ((with_reducible show zG _ _ _ 289 _ _);refine zD (c_TreeOk) ?_) | (with_reducible refine zF (i:=6) [(0,[],[]),(1,[],[]),(2,[],[]),(3,[],[]),(4,[],[]),(5,[],[]),(6,[],[])] (by kernel_rfl) ?_)) <;> simp [-qt,-qd,-ql,rgs,ht]) | ((first | (with_reducible refine zA ?_ ?_)) <;> intro qb <;> (have qp:=qb;try simp only [psq] at qp) <;> simp [-qt,-qd,-ql,rgs,ht,qb])
  refine zW [4,5,6,12,13,14,15,16,17,18,19,20,21,22,23,24] (l.length) (fun (i:Nat) a=>[(12,.int .i64 i)]) (fun i_ a_ h_ _=>(fun i (_:Unit) _=>uI (fun i e=>fits t (l.take i.toNat) e) (l.drop i) i = uI (fun i e=>fits t (l.take i.toNat) e) l 0) i_ a_ h_) (()) (by simp) ?_ zT (Nat.le_refl _) ?_
  ·simp
  ·intro i a tm h' n' hle hJ hE hn' next hnx
   try dsimp only at hJ
   have hK:KeepB nx h' h:=KeepB.sub hE zK (by omega)
   simp [-qt,-qd,-ql]
   try simp [-qt,-qd,-ql,rgs]
   repeat' first | done | ((first | ((with_reducible show zU _ _ _ _ _ _);refine zB rfl fun _ => ?_) | ((with_reducible show zJ _ _ _ _ _ _ _);refine zC rfl omA omA ?_) | ((with_reducible show yT _ _ _ _ _ _ _ _);refine uY rfl omA omA ?_) | ((with_reducible show yT _ _ _ _ _ _ _ _);refine vM rfl omA omA ?_) | ((with_reducible show yT _ _ _ _ _ _ _ _);refine uA rfl omA omA omA ?_) | ((with_reducible show vE _ _ _ _ _ _ _ _ _ _ _);refine zA2 rfl omA omA ?_) | ((with_reducible show vE _ _ _ _ _ _ _ _ _ _ _);refine vQ rfl omA omA ?_) | ((with_reducible show vE _ _ _ _ _ _ _ _ _ _ _);refine uD rfl omA omA omA ?_) | ((with_reducible show zG _ _ _ 263 _ _);refine zD (c_fits ht) ?_) | (with_reducible refine zF (i:=6) [(0,[],[]),(1,[],[]),(2,[],[]),(3,[],[]),(4,[],[]),(5,[],[]),(6,[],[])] (by kernel_rfl) ?_)) <;> simp [-qt,-qd,-ql,rgs]) | ((first | (with_reducible refine zA ?_ ?_)) <;> intro qb <;> (have qp:=qb;try simp only [psq] at qp) <;> simp [-qt,-qd,-ql,rgs,qb])
   all_goals
    first
    | (have hlt:i < l.length:=(by first | omega | (simp at *; omega))
       rw [zV hlt] at hJ
       first
       | (refine hnx.go (()) ?_ ?_ ?_ ?_ ?_ ?_;omega;(simp [zM hlt hlim]);(simp);exact zK;(first | omega | (simp;omega));(try dsimp only);clear hnx;first | ((try simp only [List.drop_length,Int.toNat_natCast,uI,yM] at hJ ⊢);grind) | (simp_all [uI,yM];done) | (simp_all;omega))
       | (refine ⟨?_,zK⟩;clear hnx;first | ((try simp only [List.drop_length,Int.toNat_natCast,uI,yM] at hJ ⊢);grind) | (simp_all [uI,yM];done) | (simp_all;omega)))
    | (obtain rfl:i = l.length:=(by first | omega | (simp at *; omega))
       refine ⟨?_,zK⟩;clear hnx;first | ((try simp only [List.drop_length,Int.toNat_natCast,uI,yM] at hJ ⊢);grind) | (simp_all [uI,yM];done) | (simp_all;omega))
 ·refine PC.o okC Tryz.func218 rfl (.bool _) fun h nx hnx => ?_
  try simp [-qt,-qd,-ql,rgs,ht]
  repeat' first | done | ((first | ((with_reducible show zU _ _ _ _ _ _);refine zB rfl fun _ => ?_) | ((with_reducible show zJ _ _ _ _ _ _ _);refine zC rfl omA omA ?_) | ((with_reducible show yT _ _ _ _ _ _ _ _);refine uY rfl omA omA ?_) | ((with_reducible show yT _ _ _ _ _ _ _ _);refine vM rfl omA omA ?_) | ((with_reducible show yT _ _ _ _ _ _ _ _);refine uA rfl omA omA omA ?_) | ((with_reducible show vE _ _ _ _ _ _ _ _ _ _ _);refine zA2 rfl omA omA ?_) | ((with_reducible show vE _ _ _ _ _ _ _ _ _ _ _);refine vQ rfl omA omA ?_) | ((with_reducible show vE _ _ _ _ _ _ _ _ _ _ _);refine uD rfl omA omA omA ?_) | ((with_reducible show zG _ _ _ 289 _ _);refine zD (c_TreeOk) ?_) | (with_reducible refine zF (i:=6) [(0,[],[]),(1,[],[]),(2,[],[]),(3,[],[]),(4,[],[]),(5,[],[]),(6,[],[])] (by kernel_rfl) ?_)) <;> simp [-qt,-qd,-ql,rgs,ht]) | ((first | (with_reducible refine zA ?_ ?_)) <;> intro qb <;> (have qp:=qb;try simp only [psq] at qp) <;> simp [-qt,-qd,-ql,rgs,ht,qb])
  all_goals (try clear hnx)
  all_goals first | (simp_all [yM];done) | (simp_all [yM];omega) | (rw [Bool.eq_iff_iff];simp_all [yM];done) | (rw [Bool.eq_iff_iff];simp_all [yM];omega) | omega | (simp only [yM];grind) | grind
theorem c_AftersOk {F:Nat → Bool} {x:Afs}:PC ctx.P 226 [.agg (zC3 F x)] (.bool (zE0 x)):=by
 refine PC.lim (n:=x.list.length) (x:=.agg (zC3 F x)) (by simp) (.agg (x:=.view (F 10) 5 (x.list.map vO)) (by simp [zC3]) (.here (by simp))) ⟨_,Tryz.func226,by kernel_rfl,by kernel_rfl⟩ fun hlim => ?_
 by_cases hs:zH6 x.slots = true
 ·have hl:x.slots.used.length = x.slots.ages.length:=by simp [zH6] at hs;omega
  refine PC.o okC Tryz.func226 rfl (.bool _) fun h nx hnx => ?_
  try simp [-qt,-qd,-ql,rgs,zC3,hs]
  repeat' first | done | ((first | ((with_reducible show zU _ _ _ _ _ _);refine zB rfl fun _ => ?_) | ((with_reducible show zJ _ _ _ _ _ _ _);refine zC rfl omA omA ?_) | ((with_reducible show zG _ _ _ 300 _ _);refine zD (c_SlotsOk (s:=x.slots) (F:=F)) ?_) | ((with_reducible show zG _ _ _ 301 _ _);refine zD (c_size_After) ?_) | ((with_reducible show zG _ _ _ 302 _ _);refine zD (c_used (s:=x.slots) (F:=F)) ?_) | (with_reducible refine zF (i:=1) [(0,[],[]),(1,[],[]),(2,[],[]),(3,[],[]),(4,[],[]),(5,[],[]),(6,[],[]),(8,[],[]),(9,[],[]),(7,[.tmp 13],[]),(10,[],[]),(11,[],[]),(12,[],[])] (by kernel_rfl) ?_)) <;> simp [-qt,-qd,-ql,rgs,zC3,hs]) | ((first | (with_reducible refine zO ?_ ?_) | (with_reducible refine zE ?_ ?_) | (with_reducible refine zA ?_ ?_)) <;> intro qb <;> (have qp:=qb;try simp only [psq] at qp) <;> simp [-qt,-qd,-ql,rgs,zC3,hs,qb])
  ·simp only [zE0];grind
  ·refine zW [2,3,4,21,22,23,24,25,26,27,28,29,30,31,32,33,34,35,36,37,38,39,40,41,42,43,44,45,46,47,48] (x.list.length) (fun (i:Nat) a=>[(21,.int .i64 i)]) (fun i_ a_ h_ _=>(fun i (_:Unit) _=>uI (fun i y=>zB1 y.node y.fn && (vT x.slots y.han && afsAt x.list y.han == i)) (x.list.drop i) i = uI (fun i y=>zB1 y.node y.fn && (vT x.slots y.han && afsAt x.list y.han == i)) x.list 0) i_ a_ h_) (()) (by simp) ?_ zT (Nat.le_refl _) ?_
   ·simp
   ·intro i a tm h' n' hle hJ hE hn' next hnx
    try dsimp only at hJ
    have hK:KeepB nx h' h:=KeepB.sub hE zK (by omega)
    simp [-qt,-qd,-ql]
    have e1:h' (nx) = some (.obj (zC3 F x)):=by have:=hE (nx) (by omega);simpa [zC3] using this
    have e1n:∀ k,((nx) = n' + k) = False:=fun k=>by simp only [eq_iff_iff,iff_false];omega
    have e1m:((nx) = n') = False:=by simp only [eq_iff_iff,iff_false];omega
    try simp [-qt,-qd,-ql,rgs,zC3,vO,e1,e1n,e1m]
    repeat' first | done | ((first | ((with_reducible show zU _ _ _ _ _ _);refine zB rfl fun _ => ?_) | ((with_reducible show zJ _ _ _ _ _ _ _);refine zC rfl omA omA ?_) | ((with_reducible show zG _ _ _ 303 _ _);refine zD (c_isAfter) ?_) | ((with_reducible show zG _ _ _ 304 _ _);refine zD (c_holds (s:=x.slots) (F:=F) (x:=(gt x.list (i:Int)).han) hl) ?_) | ((with_reducible show zG _ _ _ 305 _ _);refine zD (c_afsAt (a:=x) (F:=F) (x:=(gt x.list (i:Int)).han)) ?_) | (with_reducible refine zF (i:=1) [(0,[],[]),(1,[],[]),(2,[],[]),(3,[],[]),(4,[],[]),(5,[],[]),(6,[],[]),(8,[],[]),(9,[],[]),(7,[.tmp 13],[]),(10,[],[]),(11,[],[]),(12,[],[])] (by kernel_rfl) ?_)) <;> simp [-qt,-qd,-ql,rgs,zC3,vO,e1,e1n,e1m]) | ((first | (with_reducible refine zO ?_ ?_) | (with_reducible refine zE ?_ ?_) | (with_reducible refine zA ?_ ?_)) <;> intro qb <;> (have qp:=qb;try simp only [psq] at qp) <;> simp [-qt,-qd,-ql,rgs,zC3,vO,e1,e1n,e1m,qb])
    all_goals
     first
     | (have hlt:i < x.list.length:=(by first | omega | (simp at *; omega))
        rw [zV hlt] at hJ
        first
        | (refine hnx.go (()) ?_ ?_ ?_ ?_ ?_ ?_;omega;(simp [zM hlt hlim]);(simp);exact zK;(first | omega | (simp;omega));(try dsimp only);clear hnx;first | ((try simp only [List.drop_length,Int.toNat_natCast,uI,zE0] at hJ ⊢);grind) | (simp_all [uI,zE0];done) | (simp_all;omega))
        | (refine ⟨?_,zK⟩;clear hnx;first | ((try simp only [List.drop_length,Int.toNat_natCast,uI,zE0] at hJ ⊢);grind) | (simp_all [uI,zE0];done) | (simp_all;omega)))
     | (obtain rfl:i = x.list.length:=(by first | omega | (simp at *; omega))
        refine ⟨?_,zK⟩;clear hnx;first | ((try simp only [List.drop_length,Int.toNat_natCast,uI,zE0] at hJ ⊢);grind) | (simp_all [uI,zE0];done) | (simp_all;omega))
 ·refine PC.o okC Tryz.func226 rfl (.bool _) fun h nx hnx => ?_
  try simp [-qt,-qd,-ql,rgs,zC3,hs]
  repeat' first | done | ((first | ((with_reducible show zU _ _ _ _ _ _);refine zB rfl fun _ => ?_) | ((with_reducible show zJ _ _ _ _ _ _ _);refine zC rfl omA omA ?_) | ((with_reducible show zG _ _ _ 300 _ _);refine zD (c_SlotsOk (s:=x.slots) (F:=F)) ?_) | (with_reducible refine zF (i:=1) [(0,[],[]),(1,[],[]),(2,[],[]),(3,[],[]),(4,[],[]),(5,[],[]),(6,[],[]),(8,[],[]),(9,[],[]),(7,[.tmp 13],[]),(10,[],[]),(11,[],[]),(12,[],[])] (by kernel_rfl) ?_)) <;> simp [-qt,-qd,-ql,rgs,zC3,hs]) | ((first | (with_reducible refine zO ?_ ?_) | (with_reducible refine zE ?_ ?_) | (with_reducible refine zA ?_ ?_)) <;> intro qb <;> (have qp:=qb;try simp only [psq] at qp) <;> simp [-qt,-qd,-ql,rgs,zC3,hs,qb])
  all_goals (try clear hnx)
  all_goals first | (simp_all [zE0];done) | (simp_all [zE0];omega) | (rw [Bool.eq_iff_iff];simp_all [zE0];done) | (rw [Bool.eq_iff_iff];simp_all [zE0];omega) | omega | (simp only [zE0];grind) | grind
theorem c_GroupOk {p:Bool} {g:Grp}:PC ctx.P 316 [.agg (vD p g)] (.bool (zJ6 g)):=by
 refine PC.lim (n:=g.waits.length) (x:=.agg (vD p g)) (by simp) (.agg (x:=.view p 1 (g.waits.map iv)) (by simp [vD]) (.here (by simp))) ⟨_,Tryz.func316,by kernel_rfl,by kernel_rfl⟩ fun hlim => ?_
 refine PC.o okC Tryz.func316 rfl (.bool _) fun h nx hnx => ?_
 try simp [-qt,-qd,-ql,rgs,vD]
 repeat' first | done | ((first | ((with_reducible show zU _ _ _ _ _ _);refine zB rfl fun _ => ?_) | ((with_reducible show zJ _ _ _ _ _ _ _);refine zC rfl omA omA ?_) | ((with_reducible show yT _ _ _ _ _ _ _ _);refine uY rfl omA omA ?_) | ((with_reducible show yT _ _ _ _ _ _ _ _);refine vM rfl omA omA ?_) | ((with_reducible show yT _ _ _ _ _ _ _ _);refine uA rfl omA omA omA ?_) | ((with_reducible show zG _ _ _ 222 _ _);refine zD (vA) ?_)) <;> simp [-qt,-qd,-ql,rgs,vD]) | ((first | (with_reducible refine zE ?_ ?_) | (with_reducible refine zA ?_ ?_)) <;> intro qb <;> (have qp:=qb;try simp only [psq] at qp) <;> simp [-qt,-qd,-ql,rgs,vD,qb])
 all_goals first | (clear hnx;simp only [zJ6];grind) | skip
 all_goals
  refine zW [2,3,4,58,59,60,61,62,63,64,65,66,67,68,69,70,71,72,73,74] (g.waits.length) (fun (i:Nat) a=>[(58,.int .i64 i)]) (fun i_ a_ h_ _=>(fun i (_:Unit) _=>uI (fun i n=>inR n 0 59 && !(g.waits.take i.toNat).contains n) (g.waits.drop i) i = uI (fun i n=>inR n 0 59 && !(g.waits.take i.toNat).contains n) g.waits 0) i_ a_ h_) (()) (by simp) ?_ zT (Nat.le_refl _) ?_
  ·simp
  ·intro i a tm h' n' hle hJ hE hn' next hnx
   try dsimp only at hJ
   have hK:KeepB nx h' h:=KeepB.sub hE zK (by omega)
   simp [-qt,-qd,-ql]
   have e1:h' (nx) = some (.obj (vD p g)):=by have:=hE (nx) (by omega);simpa [vD] using this
   have e1n:∀ k,((nx) = n' + k) = False:=fun k=>by simp only [eq_iff_iff,iff_false];omega
   have e1m:((nx) = n') = False:=by simp only [eq_iff_iff,iff_false];omega
   try simp [-qt,-qd,-ql,rgs,vD,iv,e1,e1n,e1m]
   repeat' first | done | ((first | ((with_reducible show zU _ _ _ _ _ _);refine zB rfl fun _ => ?_) | ((with_reducible show zJ _ _ _ _ _ _ _);refine zC rfl omA omA ?_) | ((with_reducible show yT _ _ _ _ _ _ _ _);refine uY rfl omA omA ?_) | ((with_reducible show yT _ _ _ _ _ _ _ _);refine vM rfl omA omA ?_) | ((with_reducible show yT _ _ _ _ _ _ _ _);refine uA rfl omA omA omA ?_) | ((with_reducible show zG _ _ _ 222 _ _);refine zD (vA) ?_) | ((with_reducible show zG _ _ _ 261 _ _);refine zD (c_Contains) ?_)) <;> simp [-qt,-qd,-ql,rgs,vD,iv,e1,e1n,e1m]) | ((first | (with_reducible refine zE ?_ ?_) | (with_reducible refine zA ?_ ?_)) <;> intro qb <;> (have qp:=qb;try simp only [psq] at qp) <;> simp [-qt,-qd,-ql,rgs,vD,iv,e1,e1n,e1m,qb])
   all_goals
    first
    | (have hlt:i < g.waits.length:=(by first | omega | (simp at *; omega))
       rw [zV hlt] at hJ
       first
       | (refine hnx.go (()) ?_ ?_ ?_ ?_ ?_ ?_;omega;(simp [zM hlt hlim]);(simp);exact zK;(first | omega | (simp;omega));(try dsimp only);clear hnx;first | ((try simp only [List.drop_length,Int.toNat_natCast,uI,zJ6] at hJ ⊢);grind) | (simp_all [uI,zJ6];done) | (simp_all;omega))
       | (refine ⟨?_,zK⟩;clear hnx;first | ((try simp only [List.drop_length,Int.toNat_natCast,uI,zJ6] at hJ ⊢);grind) | (simp_all [uI,zJ6];done) | (simp_all;omega)))
    | (obtain rfl:i = g.waits.length:=(by first | omega | (simp at *; omega))
       refine ⟨?_,zK⟩;clear hnx;first | ((try simp only [List.drop_length,Int.toNat_natCast,uI,zJ6] at hJ ⊢);grind) | (simp_all [uI,zJ6];done) | (simp_all;omega))
end Go.AE.Tryz
end
section
/- Contracts of the program's readers: worlds. -/
set_option maxRecDepth 8000
set_option maxHeartbeats 4000000
namespace Go.AE.Tryz
open Go.Proofs
open List renaming map_take → qt,map_drop → qd,map_tail → ql
theorem c_isGroup {F:Nat → Bool} {p:Bool} {w:Wld} {g:Grp}:PC ctx.P 234 [.agg (wldV F w),.agg (vD p g)] (.bool (zC8 w g)):=by
 refine PC.o okC Tryz.func234 rfl (.bool _) fun h nx hnx => ?_
 try simp [-qt,-qd,-ql,rgs,wldV,yC]
 repeat' first | done | ((first | ((with_reducible show zJ _ _ _ _ _ _ _);refine zC rfl omA omA ?_) | ((with_reducible show zG _ _ _ 316 _ _);refine zD (c_GroupOk (g:=g) (p:=p)) ?_) | ((with_reducible show zG _ _ _ 229 _ _);refine zD (zD9) ?_) | ((with_reducible show zG _ _ _ 290 _ _);refine yJ (uX (q:=fun i => !vY i w.tasks) (fv:=.fn 317 [.vptr (wldV F w)]) (fun x _=>c_isGroup1)) (by first | exact .bool _ | exact .int _ _ | exact .str _) (by repeat' first | exact Bors.nil | refine Bors.cons ?_ ?_ | exact Bor.same _ | refine Bor.fn1 ?_ | refine Bor.bnd1 ?_ | refine Bor.agg1 ?_ | refine Bor.ptr0 (by first | (simp;done) | (simp;rfl) | assumption | (simp [*];done)) ?_ | refine Bor.ref0 (by first | (simp;done) | (simp;rfl) | (simp [iv,bv];done)) (by simp) (by simp)) ?_)) <;> simp [-qt,-qd,-ql,rgs,wldV,yC]) | ((first | (with_reducible refine zE ?_ ?_)) <;> intro qb <;> (have qp:=qb;try simp only [psq] at qp) <;> simp [-qt,-qd,-ql,rgs,wldV,yC,qb])
 all_goals (try clear hnx)
 all_goals first | (simp_all [zC8];done) | (simp_all [zC8];omega) | (rw [Bool.eq_iff_iff];simp_all [zC8];done) | (rw [Bool.eq_iff_iff];simp_all [zC8];omega) | omega | (simp only [zC8];grind) | grind
theorem c_WorldOk {F:Nat → Bool} {w:Wld}:PC ctx.P 137 [.agg (wldV F w)] (.bool (vG w)):=by
 refine PC.o okC Tryz.func137 rfl (.bool _) fun h nx hnx => ?_
 try simp [-qt,-qd,-ql,rgs,wldV]
 repeat' first | done | ((first | ((with_reducible show zU _ _ _ _ _ _);refine zB rfl fun _ => ?_) | ((with_reducible show zG _ _ _ 216 _ _);refine zD (c_all_Prog (q:=zE4) (.fn _ _) (fun x _=>c_ProgOk)) ?_) | ((with_reducible show zG _ _ _ 218 _ _);refine zD (c_EventsOk) ?_) | ((with_reducible show zG _ _ _ 219 _ _);refine zD (c_isSpread (s:=w.spread) (F:=F)) ?_) | ((with_reducible show zG _ _ _ 220 _ _);refine yJ (c_all_Event (q:=fun e=>inR e.time 0 w.now) (fv:=.fn 221 [.vptr (wldV F w)]) (.fn _ _) (fun x _=>c_WorldOk1)) (by first | exact .bool _ | exact .int _ _ | exact .str _) (by repeat' first | exact Bors.nil | refine Bors.cons ?_ ?_ | exact Bor.same _ | refine Bor.fn1 ?_ | refine Bor.bnd1 ?_ | refine Bor.agg1 ?_ | refine Bor.ptr0 (by first | (simp;done) | (simp;rfl) | assumption | (simp [*];done)) ?_ | refine Bor.ref0 (by first | (simp;done) | (simp;rfl) | (simp [iv,bv];done)) (by simp) (by simp)) ?_) | ((with_reducible show zG _ _ _ 223 _ _);refine zD (c_TimersOk (t:=w.timers) (F:=F)) ?_) | ((with_reducible show zG _ _ _ 224 _ _);refine zD (c_all_Timer (q:=zB3 w) (.bnd _ _) (fun x _=>c_isTimer (F:=F))) ?_) | ((with_reducible show zG _ _ _ 226 _ _);refine zD (c_AftersOk (x:=w.afters) (F:=F)) ?_) | ((with_reducible show zG _ _ _ 227 _ _);refine yJ (c_all_After (q:=fun a=>vY a.node w.tree) (fv:=.fn 228 [.vptr (wldV F w)]) (.fn _ _) (fun x _=>c_WorldOk2)) (by first | exact .bool _ | exact .int _ _ | exact .str _) (by repeat' first | exact Bors.nil | refine Bors.cons ?_ ?_ | exact Bor.same _ | refine Bor.fn1 ?_ | refine Bor.bnd1 ?_ | refine Bor.agg1 ?_ | refine Bor.ptr0 (by first | (simp;done) | (simp;rfl) | assumption | (simp [*];done)) ?_ | refine Bor.ref0 (by first | (simp;done) | (simp;rfl) | (simp [iv,bv];done)) (by simp) (by simp)) ?_) | ((with_reducible show zG _ _ _ 230 _ _);refine zD (c_TasksOk) ?_) | ((with_reducible show zG _ _ _ 231 _ _);refine zD (c_all_Task (q:=zD7 w) (.bnd _ _) (fun x _=>c_isTask (F:=F))) ?_) | ((with_reducible show zG _ _ _ 233 _ _);refine zD (c_all_Group (q:=zC8 w) (.bnd _ _) (fun x _=>c_isGroup (F:=F))) ?_) | ((with_reducible show zG _ _ _ 235 _ _);refine zD (c_all_Sight (q:=zE1 w) (.bnd _ _) (fun x _=>c_isSight (F:=F))) ?_) | ((with_reducible show zG _ _ _ 237 _ _);refine zD (c_all_int64 (q:=fun n=>inR n 0 99) (.fn _ _) (fun x _=>c_WorldOk3)) ?_) | ((with_reducible show zG _ _ _ 237 _ _);refine zD (c_all_int64 (q:=fun n=>inR n 0 99) (.fn _ _) (fun x _=>c_WorldOk4)) ?_)) <;> simp [-qt,-qd,-ql,rgs,wldV]) | ((first | (with_reducible refine zE ?_ ?_) | (with_reducible refine zA ?_ ?_)) <;> intro qb <;> (have qp:=qb;try simp only [psq] at qp) <;> simp [-qt,-qd,-ql,rgs,wldV,qb])
 all_goals (try clear hnx)
 all_goals first | (simp_all [vG];done) | (simp_all [vG];omega) | (rw [Bool.eq_iff_iff];simp_all [vG];done) | (rw [Bool.eq_iff_iff];simp_all [vG];omega) | omega | (simp only [vG];grind) | grind
end Go.AE.Tryz
end
section
/- Contracts of the program's requests: what is asked of a world, and what it makes of a copy. -/
set_option maxRecDepth 8000
set_option maxHeartbeats 4000000
namespace Go.AE.Tryz
open Go.Proofs
open List renaming map_take → qt,map_drop → qd,map_tail → ql
theorem zR (X:WI) (w:Wld):(∀ x ∈ vN X w,x.one = true) = True:=by simp [vN]
theorem yI (X:WI) (w:Wld):(vN X w).length = 17:=rfl
theorem yB (X:WI) (w:Wld):(vN X w).take 17 = vN X w:=rfl
theorem zA0 {F:Nat → Bool} {w:Wld}:(∀ x ∈ wldV F w,x.one = true) = True:=by simp [wldV]
theorem wldV_len (F:Nat → Bool) (w:Wld):(wldV F w).length = 17:=rfl
theorem wldV_take (F:Nat → Bool) (w:Wld):(wldV F w).take 17 = wldV F w:=rfl
theorem w_cloned {F:Nat → Bool} {w:Wld} (hs:zC9 w ≤ 1048576):WC ctx.P 138 [.agg (wldV F w)] (fun X=>.agg (vN X w)) w:=WC.of (w_clonedA hs)
theorem w_asked {F:Nat → Bool} {w w':Wld} {b:Bool} {g:FuncId} {qs:List (Nat × List AV × List AV)} (hs:zC9 w ≤ 1048576) (hd:vG w = true → DoOk ctx.P g qs w w' b) :
 AC ctx.P 48 [.agg (wldV F w),.fn g (qs.map fun q=>.ptr q.1 0)] (fun h _ => ∀ q ∈ qs,h q.1 = some (.obj q.2.1))
 (AskQ qs w w' b):=by
 refine AC.ghostT ?_
 refine AC.o okC Tryz.func48 rfl fun h nx hfr hnx hpre => ?_
 have hqn:∀ q ∈ qs,q.1 < nx:=fun q hq=>hnx q.1 (by rw [hpre q hq];simp)
 by_cases hw:vG w = true
 ·try simp [-qt,-qd,-ql,rgs,hw,zA0,wldV_len,wldV_take]
  repeat' first | done | ((first | ((with_reducible show zG _ _ _ 137 _ _);refine zD (c_WorldOk (w:=w) (F:=F)) ?_)) <;> simp [-qt,-qd,-ql,rgs,hw,zA0,wldV_len,wldV_take]) | ((first | (with_reducible refine zE ?_ ?_) | (with_reducible refine zA ?_ ?_)) <;> intro qb <;> (have qp:=qb;try simp only [psq] at qp) <;> simp [-qt,-qd,-ql,rgs,hw,zA0,wldV_len,wldV_take,qb])
  refine zL4 (w_cloned (F:=F) hs) ?_
  intro X1 h1 n1 V1 hid1 hle1 hfr1
  dsimp only at hid1 hle1 hfr1
  have nX:∀ j,j < nx + 9 → j ∉ X1.ids:=fun j hj hm=>by have:=hid1 j hm;omega
  try simp [-qt,-qd,-ql,rgs,hw,zR X1 w,yI,yB]
  repeat' first | done | ((first | (with_reducible refine zE ?_ ?_) | (with_reducible refine zA ?_ ?_)) <;> intro qb <;> (have qp:=qb;try simp only [psq] at qp) <;> simp [-qt,-qd,-ql,rgs,hw,zR X1 w,yI,yB,qb])
  generalize hH:upd (upd h1 (nx + 8) _) (nx + 8) (some (Ent.obj (vN X1 w))) = H2
  have V2:WV H2 X1 w:=hH ▸ (V1.keep fun id hid=>by have:=hid1 id hid;repeat rw [zI _ _ _ _ (by omega)])
  have o2:H2 (nx + 8) = some (.obj (vN X1 w)):=by rw [← hH,zL]
  have a2:H2 nx = some (.obj (wldV F w)):=by
   rw [← hH]
   repeat rw [zI _ _ _ _ (by omega)]
   rw [hfr1 nx (nX _ (by omega))]
   repeat (first | exact zL .. | rw [zI _ _ _ _ (by omega)])
  have z2:H2 (nx + 1) = some (.obj [AV.int IntKind.i64 0,AV.nil,AV.nil,AV.nil,AV.nil,AV.nil,AV.nil,AV.nil,AV.int IntKind.i64 0,AV.nil,AV.nil,AV.nil,AV.nil,AV.nil,AV.nil,AV.nil,AV.nil]):=by
   rw [← hH]
   repeat rw [zI _ _ _ _ (by omega)]
   rw [hfr1 (nx + 1) (nX _ (by omega))]
   exact zL ..
  have K2:∀ j,j < nx → H2 j = h j:=fun j hj=>by
   rw [← hH]
   repeat rw [zI _ _ _ _ (by omega)]
   rw [hfr1 j (nX _ (by omega))]
   repeat rw [zI _ _ _ _ (by omega)]
  clear hH
  have qn:∀ j,nx ≤ j → ∀ q ∈ qs,j ≠ q.1:=fun j hj q hq=>by have:=hqn q hq;omega
  refine yX (hd hw (nx + 8) X1) ⟨o2,V2,fun q hq=>⟨by dsimp only;rw [K2 _ (hqn q hq)];exact hpre q hq,by have:=hqn q hq;omega⟩⟩ ?_
  rintro r h3 n3 ⟨rfl,hb,hq3,hf3⟩ hle3 hfr3
  dsimp only at hb hf3 hle3
  have a3:=hf3 nx (by omega) (by omega) (nX _ (by omega)) (qn _ (by omega))
  have z3:=hf3 (nx + 1) (by omega) (by omega) (nX _ (by omega)) (qn _ (by omega))
  rw [a2] at a3
  rw [z2] at z3
  have K3:∀ j,j < nx → (∀ q ∈ qs,j ≠ q.1) → h3 j = h j:=fun j hj hq=>by rw [hf3 j (by omega) (by omega) (nX _ (by omega)) hq,K2 j hj]
  cases b with
  | false =>
    try simp [-qt,-qd,-ql,rgs,a3,z3,zA0,wldV_len,wldV_take]
    repeat' first | done | ((first | (with_reducible refine zE ?_ ?_) | (with_reducible refine zA ?_ ?_)) <;> intro qb <;> (have qp:=qb;try simp only [psq] at qp) <;> simp [-qt,-qd,-ql,rgs,a3,z3,zA0,wldV_len,wldV_take,qb])
    refine zL4 (w_cloned (F:=F) hs) ?_
    intro X4 h4 n4 V4 hid4 hle4 hfr4
    dsimp only at hid4 hle4 hfr4
    have z4:=hfr4 (nx + 1) (fun hm=>by have:=hid4 _ hm;omega)
    rw [z3] at z4
    try simp [-qt,-qd,-ql,rgs,z4,zR X4 w,yI,yB]
    repeat' first | done | ((first | (with_reducible refine zE ?_ ?_) | (with_reducible refine zA ?_ ?_)) <;> intro qb <;> (have qp:=qb;try simp only [psq] at qp) <;> simp [-qt,-qd,-ql,rgs,z4,zR X4 w,yI,yB,qb])
    have e1:askW w w' false = w:=by simp [askW,hw]
    have e2:askB w w' false = false:=by simp [askB]
    refine .done ⟨⟨X4,by rw [e1,e2],by rw [e1];exact V4.keep fun id hid=>(by have:=hid4 id hid;repeat rw [zI _ _ _ _ (by omega)]),fun id hid=>by have:=hid4 id hid;omega⟩,fun q hq => ?_,fun j hj hq => ?_⟩
    ·have:=hqn q hq
     rw [if_pos hw,zI _ _ _ _ (by omega),hfr4 _ (fun hm=>by have:=hid4 _ hm;omega)]
     exact hq3 q hq
    ·rw [zI _ _ _ _ (by omega),hfr4 _ (fun hm=>by have:=hid4 _ hm;omega)]
     exact K3 j hj hq
  | true =>
    obtain ⟨X3,o3,V3,hid3⟩:=hb rfl
    try simp [-qt,-qd,-ql,rgs,a3,z3,o3,zR X3 w',yI,yB]
    repeat' first | done | ((first | (with_reducible refine zE ?_ ?_) | (with_reducible refine zA ?_ ?_)) <;> intro qb <;> (have qp:=qb;try simp only [psq] at qp) <;> simp [-qt,-qd,-ql,rgs,a3,z3,o3,zR X3 w',yI,yB,qb])
    refine yJ (c_WorldOk (w:=w') (F:=FF)) (.bool _) ?hb2 ?_
    case hb2=>exact .cons (.agg1 V3.bors) .nil
    by_cases hw2:vG w' = true
    ·try simp [-qt,-qd,-ql,rgs,a3,z3,o3,hw2,zR X3 w',yI,yB]
     repeat' first | done | ((first | (with_reducible refine zE ?_ ?_) | (with_reducible refine zA ?_ ?_)) <;> intro qb <;> (have qp:=qb;try simp only [psq] at qp) <;> simp [-qt,-qd,-ql,rgs,a3,z3,o3,hw2,zR X3 w',yI,yB,qb])
     have e1:askW w w' true = w':=by simp [askW,hw,hw2]
     have e2:askB w w' true = true:=by simp [askB,hw,hw2]
     have hb3:∀ id ∈ X3.ids,nx + 9 ≤ id ∧ id < n3:=fun id hid=>by
      rcases hid3 id hid with q | q
      ·have:=hid1 id q;omega
      ·omega
     refine .done ⟨⟨X3,by rw [e1,e2],by rw [e1];exact V3.keep fun id hid=>(by have:=hb3 id hid;rw [zI _ _ _ _ (by omega)]),fun id hid=>by have:=hb3 id hid;omega⟩,fun q hq => ?_,fun j hj hq => ?_⟩
     ·have:=hqn q hq
      rw [if_pos hw,zI _ _ _ _ (by omega)]
      exact hq3 q hq
     ·rw [zI _ _ _ _ (by omega)]
      exact K3 j hj hq
    ·try simp [-qt,-qd,-ql,rgs,a3,z3,o3,hw2,zA0,wldV_len,wldV_take]
     repeat' first | done | ((first | (with_reducible refine zE ?_ ?_) | (with_reducible refine zA ?_ ?_)) <;> intro qb <;> (have qp:=qb;try simp only [psq] at qp) <;> simp [-qt,-qd,-ql,rgs,a3,z3,o3,hw2,zA0,wldV_len,wldV_take,qb])
     refine zL4 (w_cloned (F:=F) hs) ?_
     intro X4 h4 n4 V4 hid4 hle4 hfr4
     dsimp only at hid4 hle4 hfr4
     have z4:=hfr4 (nx + 1) (fun hm=>by have:=hid4 _ hm;omega)
     rw [z3] at z4
     try simp [-qt,-qd,-ql,rgs,z4,zR X4 w,yI,yB]
     repeat' first | done | ((first | (with_reducible refine zE ?_ ?_) | (with_reducible refine zA ?_ ?_)) <;> intro qb <;> (have qp:=qb;try simp only [psq] at qp) <;> simp [-qt,-qd,-ql,rgs,z4,zR X4 w,yI,yB,qb])
     have e1:askW w w' true = w:=by simp [askW,hw,hw2]
     have e2:askB w w' true = false:=by simp [askB,hw2]
     refine .done ⟨⟨X4,by rw [e1,e2],by rw [e1];exact V4.keep fun id hid=>(by have:=hid4 id hid;repeat rw [zI _ _ _ _ (by omega)]),fun id hid=>by have:=hid4 id hid;omega⟩,fun q hq => ?_,fun j hj hq => ?_⟩
     ·have:=hqn q hq
      rw [if_pos hw,zI _ _ _ _ (by omega),hfr4 _ (fun hm=>by have:=hid4 _ hm;omega)]
      exact hq3 q hq
     ·rw [zI _ _ _ _ (by omega),hfr4 _ (fun hm=>by have:=hid4 _ hm;omega)]
      exact K3 j hj hq
 ·try simp [-qt,-qd,-ql,rgs,hw,zA0,wldV_len,wldV_take]
  repeat' first | done | ((first | ((with_reducible show zG _ _ _ 137 _ _);refine zD (c_WorldOk (w:=w) (F:=F)) ?_)) <;> simp [-qt,-qd,-ql,rgs,hw,zA0,wldV_len,wldV_take]) | ((first | (with_reducible refine zE ?_ ?_) | (with_reducible refine zA ?_ ?_)) <;> intro qb <;> (have qp:=qb;try simp only [psq] at qp) <;> simp [-qt,-qd,-ql,rgs,hw,zA0,wldV_len,wldV_take,qb])
  exact AskQ.bad hw hpre hqn (fun j hj=>by repeat rw [zI _ _ _ _ (by omega)]) (by omega)
end Go.AE.Tryz
end
section
/- Contracts of the reference's readers: slots, heaps, timers. -/
set_option maxRecDepth 8000
set_option maxHeartbeats 2000000
namespace Go.AE.Tryz
open Go.Proofs
open List renaming map_take → qt,map_drop → qd,map_tail → ql
theorem zA3 {x lo hi:Int}:PC ctx.P 199 [.int .i64 x,.int .i64 lo,.int .i64 hi] (.bool (inR x lo hi)):=by
 refine PC.o okC Tryz.func199 rfl (.bool _) fun h nx hnx => ?_
 try simp [-qt,-qd,-ql,rgs,inR]
 repeat' first | done | ((first | (with_reducible refine zE ?_ ?_)) <;> intro qb <;> (have qp:=qb;try simp only [psq] at qp) <;> simp [-qt,-qd,-ql,rgs,inR,qb])
theorem zM4 {F:Nat → Bool} {s:Slt}:PC ctx.P 277 [.agg (uJ F s)] (.bool (zH6 s)):=by
 refine PC.lim (n:=s.ages.length) (x:=.agg (uJ F s)) (by simp) (.agg (x:=.view (F 8) 1 (s.ages.map iv)) (by simp [uJ]) (.here (by simp))) ⟨_,Tryz.func277,by kernel_rfl,by kernel_rfl⟩ fun hlim => ?_
 refine PC.o okC Tryz.func277 rfl (.bool _) fun h nx hnx => ?_
 try simp [-qt,-qd,-ql,rgs,uJ]
 repeat' first | done | ((first | ((with_reducible show zU _ _ _ _ _ _);refine zB rfl fun _ => ?_) | ((with_reducible show zJ _ _ _ _ _ _ _);refine zC rfl omA omA ?_) | ((with_reducible show zG _ _ _ 199 _ _);refine zD (zA3) ?_)) <;> simp [-qt,-qd,-ql,rgs,uJ]) | ((first | (with_reducible refine zE ?_ ?_) | (with_reducible refine zA ?_ ?_)) <;> intro qb <;> (have qp:=qb;try simp only [psq] at qp) <;> simp [-qt,-qd,-ql,rgs,uJ,qb])
 all_goals first | (clear hnx;simp [zH6];grind) | skip
 refine zW [2,3,18,19,20,21,22,23,24,25,26,27,28,29,30,31] (s.ages.length) (fun (i:Nat) a=>[(3,.int .i64 i)]) (fun i_ a_ h_ _=>(fun i (_:Unit) _=>((s.ages.drop i).any fun a => !inR a 0 1000000) = s.ages.any fun a => !inR a 0 1000000) i_ a_ h_) (()) (by simp) ?_ zT (Nat.le_refl _) ?_
 ·simp
 ·intro i a tm h' n' hle hJ hE hn' next hnx
  try dsimp only at hJ
  have hK:KeepB nx h' h:=KeepB.sub hE zK (by omega)
  simp [-qt,-qd,-ql]
  have e1:h' (nx) = some (.obj (uJ F s)):=by have:=hE (nx) (by omega);simpa [uJ] using this
  have e1n:∀ k,((nx) = n' + k) = False:=fun k=>by simp only [eq_iff_iff,iff_false];omega
  have e1m:((nx) = n') = False:=by simp only [eq_iff_iff,iff_false];omega
  try simp [-qt,-qd,-ql,rgs,uJ,iv,e1,e1n,e1m]
  repeat' first | done | ((first | ((with_reducible show zU _ _ _ _ _ _);refine zB rfl fun _ => ?_) | ((with_reducible show zJ _ _ _ _ _ _ _);refine zC rfl omA omA ?_) | ((with_reducible show zG _ _ _ 199 _ _);refine zD (zA3) ?_)) <;> simp [-qt,-qd,-ql,rgs,uJ,iv,e1,e1n,e1m]) | ((first | (with_reducible refine zE ?_ ?_) | (with_reducible refine zA ?_ ?_)) <;> intro qb <;> (have qp:=qb;try simp only [psq] at qp) <;> simp [-qt,-qd,-ql,rgs,uJ,iv,e1,e1n,e1m,qb])
  all_goals
   first
   | (have hlt:i < s.ages.length:=(by first | omega | (simp at *; omega))
      rw [zV hlt] at hJ
      first
      | (refine hnx.go (()) ?_ ?_ ?_ ?_ ?_ ?_;omega;(simp [zM hlt hlim]);(simp);exact zK;(first | omega | (simp;omega));(try dsimp only);clear hnx;first | ((try simp only [List.drop_length,Int.toNat_natCast,List.any_cons,List.any_nil,zH6] at hJ ⊢);grind) | (simp_all [List.any_cons,List.any_nil,zH6];done) | (simp_all;omega))
      | (refine ⟨?_,zK⟩;clear hnx;first | ((try simp only [List.drop_length,Int.toNat_natCast,List.any_cons,List.any_nil,zH6] at hJ ⊢);grind) | (simp_all [List.any_cons,List.any_nil,zH6];done) | (simp_all;omega)))
   | (obtain rfl:i = s.ages.length:=(by first | omega | (simp at *; omega))
      refine ⟨?_,zK⟩;clear hnx;first | ((try simp only [List.drop_length,Int.toNat_natCast,List.any_cons,List.any_nil,zH6] at hJ ⊢);grind) | (simp_all [List.any_cons,List.any_nil,zH6];done) | (simp_all;omega))
theorem s_UsedIn {F:Nat → Bool} {s:Slt}:PC ctx.P 278 [.agg (uJ F s)] (.int .i64 (if zH6 s then cntB id s.used else -1)):=by
 refine PC.lim (n:=s.used.length) (x:=.agg (uJ F s)) (by simp) (.agg (x:=.view (F 9) 1 (s.used.map bv)) (by simp [uJ]) (.here (by simp))) ⟨_,Tryz.func278,by kernel_rfl,by kernel_rfl⟩ fun hlim => ?_
 refine PC.o okC Tryz.func278 rfl (.int _ _) fun h nx hnx => ?_
 try simp [-qt,-qd,-ql,rgs,uJ]
 repeat' first | done | ((first | ((with_reducible show zU _ _ _ _ _ _);refine zB rfl fun _ => ?_) | ((with_reducible show zJ _ _ _ _ _ _ _);refine zC rfl omA omA ?_) | ((with_reducible show zG _ _ _ 277 _ _);refine zD (zM4 (s:=s) (F:=F)) ?_)) <;> simp [-qt,-qd,-ql,rgs,uJ]) | ((first | (with_reducible refine zA ?_ ?_)) <;> intro qb <;> (have qp:=qb;try simp only [psq] at qp) <;> simp [-qt,-qd,-ql,rgs,uJ,qb])
 all_goals first | (clear hnx;simp_all;done) | skip
 refine zW [3,4,8,9,10,11,12,13,14,15,16,17,18,19,20,21] (s.used.length) (fun (i:Nat) a=>[(4,.int .i64 i),(3,.int .i64 a)]) (fun i_ a_ h_ _=>(fun i (a:Int) _=>a + cntB id (s.used.drop i) = cntB id s.used ∧ 0 ≤ a ∧ a ≤ i) i_ a_ h_) (0) (by simp) ?_ zT (Nat.le_refl _) ?_
 ·simp
 ·intro i a tm h' n' hle hJ hE hn' next hnx
  try dsimp only at hJ
  have hK:KeepB nx h' h:=KeepB.sub hE zK (by omega)
  simp [-qt,-qd,-ql]
  have e1:h' (nx) = some (.obj (uJ F s)):=by have:=hE (nx) (by omega);simpa [uJ] using this
  have e1n:∀ k,((nx) = n' + k) = False:=fun k=>by simp only [eq_iff_iff,iff_false];omega
  have e1m:((nx) = n') = False:=by simp only [eq_iff_iff,iff_false];omega
  try simp [-qt,-qd,-ql,rgs,uJ,bv,e1,e1n,e1m]
  repeat' first | done | ((first | ((with_reducible show zU _ _ _ _ _ _);refine zB rfl fun _ => ?_) | ((with_reducible show zJ _ _ _ _ _ _ _);refine zC rfl omA omA ?_)) <;> simp [-qt,-qd,-ql,rgs,uJ,bv,e1,e1n,e1m]) | ((first | (with_reducible refine zA ?_ ?_)) <;> intro qb <;> (have qp:=qb;try simp only [psq] at qp) <;> simp [-qt,-qd,-ql,rgs,uJ,bv,e1,e1n,e1m,qb])
  ·rw [zV (by omega)] at hJ
   refine hnx.go (a + 1) (by omega) (by simp [zM (i:=i) (n:=s.used.length) (by omega) hlim,zH (x:=a + 1) (by simp only [LIM] at hlim;omega)]) (by simp) zK (by first | omega | (simp;omega)) ?_
   try dsimp only
   simp [cntB,qb] at hJ ⊢
   omega
  ·rw [zV (by omega)] at hJ
   refine hnx.go (a) (by omega) (by simp [zM (i:=i) (n:=s.used.length) (by omega) hlim]) (by simp) zK (by first | omega | (simp;omega)) ?_
   try dsimp only
   simp [cntB,qb] at hJ ⊢
   omega
  ·refine ⟨?_,zK⟩
   rw [List.drop_eq_nil_of_le (by omega)] at hJ
   simp [cntB, *] at hJ ⊢
   omega
theorem s_Holds {F:Nat → Bool} {s:Slt} {x:Han}:PC ctx.P 279 [.agg (uJ F s),.agg (zG8 x)] (.bool (zH6 s && vT s x)):=by
 refine PC.lim (n:=s.ages.length) (x:=.agg (uJ F s)) (by simp) (.agg (x:=.view (F 8) 1 (s.ages.map iv)) (by simp [uJ]) (.here (by simp))) ⟨_,Tryz.func279,by kernel_rfl,by kernel_rfl⟩ fun hlim => ?_
 by_cases hs:zH6 s = true
 ·have hl:=sltOk_len hs
  refine PC.o okC Tryz.func279 rfl (.bool _) fun h nx hnx => ?_
  try simp [-qt,-qd,-ql,rgs,uJ,zG8,iv,bv,hs,yF hlim]
  repeat' first | done | ((first | ((with_reducible show zU _ _ _ _ _ _);refine zB rfl fun _ => ?_) | ((with_reducible show zJ _ _ _ _ _ _ _);refine zC rfl omA omA ?_) | ((with_reducible show zG _ _ _ 277 _ _);refine zD (zM4 (s:=s) (F:=F)) ?_) | ((with_reducible show zG _ _ _ 199 _ _);refine zD (zA3) ?_) | (with_reducible refine zF (i:=1) [(0,[],[]),(1,[],[]),(2,[],[]),(3,[],[]),(4,[],[]),(5,[],[]),(6,[],[]),(7,[],[]),(8,[],[]),(9,[],[]),(10,[],[]),(11,[],[]),(12,[],[]),(13,[],[]),(14,[],[]),(15,[],[]),(16,[],[]),(17,[],[]),(18,[],[]),(19,[],[]),(20,[],[]),(21,[],[]),(22,[],[]),(23,[],[]),(24,[],[]),(25,[],[]),(26,[],[]),(27,[],[]),(28,[],[]),(29,[],[]),(30,[],[])] (by kernel_rfl) ?_)) <;> simp [-qt,-qd,-ql,rgs,uJ,zG8,iv,bv,hs,yF hlim]) | ((first | (with_reducible refine zO ?_ ?_)) <;> intro qb <;> (have qp:=qb;try simp only [psq] at qp) <;> simp [-qt,-qd,-ql,rgs,uJ,zG8,iv,bv,hs,yF hlim,qb])
  all_goals (try clear hnx)
  all_goals first | (simp_all [vT,vY];done) | (simp_all [vT,vY];omega) | (rw [Bool.eq_iff_iff];simp_all [vT,vY];done) | (rw [Bool.eq_iff_iff];simp_all [vT,vY];omega) | omega | (simp only [vT,vY];grind) | grind
 ·refine PC.o okC Tryz.func279 rfl (.bool _) fun h nx hnx => ?_
  try simp [-qt,-qd,-ql,rgs,hs]
  repeat' first | done | ((first | ((with_reducible show zU _ _ _ _ _ _);refine zB rfl fun _ => ?_) | ((with_reducible show zJ _ _ _ _ _ _ _);refine zC rfl omA omA ?_) | ((with_reducible show zG _ _ _ 277 _ _);refine zD (zM4 (s:=s) (F:=F)) ?_) | (with_reducible refine zF (i:=1) [(0,[],[]),(1,[],[]),(2,[],[]),(3,[],[]),(4,[],[]),(5,[],[]),(6,[],[]),(7,[],[]),(8,[],[]),(9,[],[]),(10,[],[]),(11,[],[]),(12,[],[]),(13,[],[]),(14,[],[]),(15,[],[]),(16,[],[]),(17,[],[]),(18,[],[]),(19,[],[]),(20,[],[]),(21,[],[]),(22,[],[]),(23,[],[]),(24,[],[]),(25,[],[]),(26,[],[]),(27,[],[]),(28,[],[]),(29,[],[]),(30,[],[])] (by kernel_rfl) ?_)) <;> simp [-qt,-qd,-ql,rgs,hs]) | ((first | (with_reducible refine zO ?_ ?_)) <;> intro qb <;> (have qp:=qb;try simp only [psq] at qp) <;> simp [-qt,-qd,-ql,rgs,hs,qb])
  all_goals (try clear hnx)
  all_goals first | (simp_all [vT];done) | (simp_all [vT];omega) | (rw [Bool.eq_iff_iff];simp_all [vT];done) | (rw [Bool.eq_iff_iff];simp_all [vT];omega) | omega | (simp only [vT];grind) | grind
end Go.AE.Tryz
end
section
/- Contracts of the reference's readers: heaps, timers, trees, events. -/
set_option maxRecDepth 8000
set_option maxHeartbeats 4000000
namespace Go.AE.Tryz
open Go.Proofs
open List renaming map_take → qt,map_drop → qd,map_tail → ql
theorem s_l3Ahead {a b:Twg}:PC ctx.P 336 [.agg (yQ a),.agg (yQ b)] (.bool (decide (zA4 a b < 0))):=by
 rw [twgCmp_lt]
 refine PC.o okC Tryz.func336 rfl (.bool _) fun h nx hnx => ?_
 try simp [-qt,-qd,-ql,rgs,yQ]
 repeat' first | done | ((first | (with_reducible refine zE ?_ ?_)) <;> intro qb <;> (have qp:=qb;try simp only [psq] at qp) <;> simp [-qt,-qd,-ql,rgs,yQ,qb])
 all_goals (try clear hnx)
 all_goals first | (simp_all [];done) | (simp_all [];omega) | (rw [Bool.eq_iff_iff];simp_all [];done) | (rw [Bool.eq_iff_iff];simp_all [];omega) | omega | (simp only [];grind) | grind
theorem s_l3Parts {p:Bool} {l:List Twg} (hp:0 < l.length) (h0:0 ≤ (gt l 0).lefts) (h1:(gt l 0).lefts < l.length) :
 PC ctx.P 264 [.view p 3 (l.map yQ)] (.tup [.view p 3 ((l.tail.take (gt l 0).lefts.toNat).map yQ),.view p 3 ((l.drop ((gt l 0).lefts.toNat + 1)).map yQ),.bool true]):=by
 refine PC.lim (n:=l.length) (x:=.view p 3 (l.map yQ)) (by simp) (.here (by simp)) ⟨_,Tryz.func264,by kernel_rfl,by kernel_rfl⟩ fun hlim => ?_
 simp only [LIM] at hlim
 have q1:(1 + (gt l 0).lefts).toNat = (gt l 0).lefts.toNat + 1:=by omega
 have q2:inR (gt l 0).lefts 0 ((l.length:Int) - 1) = true:=by rw [zB4];omega
 refine PC.o okC Tryz.func264 rfl (.tup _ (by simp [-List.map_take,-List.map_drop];exact ⟨.vmap vK,.vmap vK⟩)) fun h nx hnx => ?_
 try simp [-qt,-qd,-ql,rgs,yQ,zH (x:=1 + (gt l 0).lefts) (by omega),zH (x:=(l.length:Int) - 1) (by omega),q1,q2]
 repeat' first | done | ((first | ((with_reducible show zU _ _ _ _ _ _);refine zB rfl fun _ => ?_) | ((with_reducible show zJ _ _ _ _ _ _ _);refine zC rfl omA omA ?_) | ((with_reducible show yT _ _ _ _ _ _ _ _);refine uY rfl omA omA ?_) | ((with_reducible show yT _ _ _ _ _ _ _ _);refine vM rfl omA omA ?_) | ((with_reducible show yT _ _ _ _ _ _ _ _);refine uA rfl omA omA omA ?_) | ((with_reducible show vE _ _ _ _ _ _ _ _ _ _ _);refine zA2 rfl omA omA ?_) | ((with_reducible show vE _ _ _ _ _ _ _ _ _ _ _);refine vQ rfl omA omA ?_) | ((with_reducible show vE _ _ _ _ _ _ _ _ _ _ _);refine uD rfl omA omA omA ?_) | ((with_reducible show zG _ _ _ 199 _ _);refine zD (zA3) ?_) | (with_reducible refine zF (i:=4) [(0,[],[]),(1,[],[]),(2,[],[]),(3,[],[]),(4,[],[]),(5,[],[]),(6,[],[]),(7,[],[]),(8,[],[]),(9,[],[]),(10,[],[])] (by kernel_rfl) ?_)) <;> simp [-qt,-qd,-ql,rgs,yQ,zH (x:=1 + (gt l 0).lefts) (by omega),zH (x:=(l.length:Int) - 1) (by omega),q1,q2]) | ((first | (with_reducible refine zA ?_ ?_)) <;> intro qb <;> (have qp:=qb;try simp only [psq] at qp) <;> simp [-qt,-qd,-ql,rgs,yQ,zH (x:=1 + (gt l 0).lefts) (by omega),zH (x:=(l.length:Int) - 1) (by omega),q1,q2,qb])
theorem s_l3PartsN {p:Bool} {l:List Twg} (hp:0 < l.length) (h0:¬ (0 ≤ (gt l 0).lefts ∧ (gt l 0).lefts < l.length)) :
 PC ctx.P 264 [.view p 3 (l.map yQ)] (.tup [.view true 3 [],.view true 3 [],.bool false]):=by
 refine PC.lim (n:=l.length) (x:=.view p 3 (l.map yQ)) (by simp) (.here (by simp)) ⟨_,Tryz.func264,by kernel_rfl,by kernel_rfl⟩ fun hlim => ?_
 simp only [LIM] at hlim
 have q2:inR (gt l 0).lefts 0 ((l.length:Int) - 1) = false:=by rw [zM5];omega
 refine PC.o okC Tryz.func264 rfl (.tup _ (by simp;exact .view' (by simp))) fun h nx hnx => ?_
 try simp [-qt,-qd,-ql,rgs,yQ,zH (x:=(l.length:Int) - 1) (by omega),q2]
 repeat' first | done | ((first | ((with_reducible show zU _ _ _ _ _ _);refine zB rfl fun _ => ?_) | ((with_reducible show zJ _ _ _ _ _ _ _);refine zC rfl omA omA ?_) | ((with_reducible show yT _ _ _ _ _ _ _ _);refine uY rfl omA omA ?_) | ((with_reducible show yT _ _ _ _ _ _ _ _);refine vM rfl omA omA ?_) | ((with_reducible show yT _ _ _ _ _ _ _ _);refine uA rfl omA omA omA ?_) | ((with_reducible show vE _ _ _ _ _ _ _ _ _ _ _);refine zA2 rfl omA omA ?_) | ((with_reducible show vE _ _ _ _ _ _ _ _ _ _ _);refine vQ rfl omA omA ?_) | ((with_reducible show vE _ _ _ _ _ _ _ _ _ _ _);refine uD rfl omA omA omA ?_) | ((with_reducible show zG _ _ _ 199 _ _);refine zD (zA3) ?_) | (with_reducible refine zF (i:=4) [(0,[],[]),(1,[],[]),(2,[],[]),(3,[],[]),(4,[],[]),(5,[],[]),(6,[],[]),(7,[],[]),(8,[],[]),(9,[],[]),(10,[],[])] (by kernel_rfl) ?_)) <;> simp [-qt,-qd,-ql,rgs,yQ,zH (x:=(l.length:Int) - 1) (by omega),q2]) | ((first | (with_reducible refine zA ?_ ?_)) <;> intro qb <;> (have qp:=qb;try simp only [psq] at qp) <;> simp [-qt,-qd,-ql,rgs,yQ,zH (x:=(l.length:Int) - 1) (by omega),q2,qb])
theorem s_l3RankN {p:Bool}:∀ (n:Nat) (l:List Twg),l.length ≤ n → PC ctx.P 281 [.view p 3 (l.map yQ)] (.int .i64 (rkI l)):=by
 intro n
 induction n with
 | zero =>
   intro l hl
   obtain rfl:l = []:=by simpa using hl
   refine PC.o okC Tryz.func281 rfl (.int _ _) fun h nx hnx => ?_
   try simp [-qt,-qd,-ql,rgs,rkI_nil]
   repeat' first | done | ((first | ((with_reducible show zU _ _ _ _ _ _);refine zB rfl fun _ => ?_) | ((with_reducible show zJ _ _ _ _ _ _ _);refine zC rfl omA omA ?_) | (with_reducible refine zF (i:=4) [(0,[],[]),(1,[],[]),(2,[],[]),(3,[],[]),(4,[],[]),(5,[],[]),(6,[],[]),(7,[],[]),(8,[],[]),(9,[],[]),(10,[],[]),(11,[],[]),(12,[],[]),(13,[],[]),(14,[],[]),(15,[],[]),(16,[],[]),(17,[],[]),(18,[],[]),(19,[],[]),(20,[],[]),(21,[],[]),(22,[],[]),(23,[],[]),(24,[],[]),(25,[],[]),(26,[],[]),(27,[],[]),(28,[],[]),(29,[],[]),(30,[],[]),(31,[],[])] (by kernel_rfl) ?_)) <;> simp [-qt,-qd,-ql,rgs,rkI_nil]) | ((first | (with_reducible refine zO ?_ ?_) | (with_reducible refine zE ?_ ?_) | (with_reducible refine zA ?_ ?_)) <;> intro qb <;> (have qp:=qb;try simp only [psq] at qp) <;> simp [-qt,-qd,-ql,rgs,rkI_nil,qb])
 | succ n ih =>
   intro l hl
   refine PC.lim (n:=l.length) (x:=.view p 3 (l.map yQ)) (by simp) (.here (by simp)) ⟨_,Tryz.func281,by kernel_rfl,by kernel_rfl⟩ fun hlim => ?_
   by_cases hp:0 < l.length
   ·by_cases hb:0 ≤ (gt l 0).lefts ∧ (gt l 0).lefts < l.length
    ·have i1:=ih (l.tail.take (gt l 0).lefts.toNat) (by simp;omega)
     have i2:=ih (l.drop ((gt l 0).lefts.toNat + 1)) (by simp;omega)
     have e:=rkI_step hp hb.1 hb.2
     have hr:=rkI_le (l.drop ((gt l 0).lefts.toNat + 1))
     simp only [LIM] at hlim
     simp only [List.length_drop] at hr
     refine PC.o okC Tryz.func281 rfl (.int _ _) fun h nx hnx => ?_
     try simp [-qt,-qd,-ql,rgs,yQ,zH (x:=rkI (l.drop ((gt l 0).lefts.toNat + 1)) + 1) (by omega)]
     repeat' first | done | ((first | ((with_reducible show zU _ _ _ _ _ _);refine zB rfl fun _ => ?_) | ((with_reducible show zJ _ _ _ _ _ _ _);refine zC rfl omA omA ?_) | ((with_reducible show zG _ _ _ 264 _ _);refine zD (s_l3Parts hp hb.1 hb.2) ?_) | ((with_reducible show zG _ _ _ 336 _ _);refine zD (s_l3Ahead (a:=gt l 0)) ?_) | (refine zD (i1) ?_) | (refine zD (i2) ?_) | (with_reducible refine zF (i:=4) [(0,[],[]),(1,[],[]),(2,[],[]),(3,[],[]),(4,[],[]),(5,[],[]),(6,[],[]),(7,[],[]),(8,[],[]),(9,[],[]),(10,[],[]),(11,[],[]),(12,[],[]),(13,[],[]),(14,[],[]),(15,[],[]),(16,[],[]),(17,[],[]),(18,[],[]),(19,[],[]),(20,[],[]),(21,[],[]),(22,[],[]),(23,[],[]),(24,[],[]),(25,[],[]),(26,[],[]),(27,[],[]),(28,[],[]),(29,[],[]),(30,[],[]),(31,[],[])] (by kernel_rfl) ?_)) <;> simp [-qt,-qd,-ql,rgs,yQ,zH (x:=rkI (l.drop ((gt l 0).lefts.toNat + 1)) + 1) (by omega)]) | ((first | (with_reducible refine zO ?_ ?_) | (with_reducible refine zE ?_ ?_) | (with_reducible refine zA ?_ ?_)) <;> intro qb <;> (have qp:=qb;try simp only [psq] at qp) <;> simp [-qt,-qd,-ql,rgs,yQ,zH (x:=rkI (l.drop ((gt l 0).lefts.toNat + 1)) + 1) (by omega),qb])
     all_goals (clear ih i1 i2 hnx;rw [e];grind)
    ·have e:=rkI_bad hp hb
     refine PC.o okC Tryz.func281 rfl (.int _ _) fun h nx hnx => ?_
     try simp [-qt,-qd,-ql,rgs,e]
     repeat' first | done | ((first | ((with_reducible show zU _ _ _ _ _ _);refine zB rfl fun _ => ?_) | ((with_reducible show zJ _ _ _ _ _ _ _);refine zC rfl omA omA ?_) | ((with_reducible show zG _ _ _ 264 _ _);refine zD (s_l3PartsN hp hb) ?_) | (with_reducible refine zF (i:=4) [(0,[],[]),(1,[],[]),(2,[],[]),(3,[],[]),(4,[],[]),(5,[],[]),(6,[],[]),(7,[],[]),(8,[],[]),(9,[],[]),(10,[],[]),(11,[],[]),(12,[],[]),(13,[],[]),(14,[],[]),(15,[],[]),(16,[],[]),(17,[],[]),(18,[],[]),(19,[],[]),(20,[],[]),(21,[],[]),(22,[],[]),(23,[],[]),(24,[],[]),(25,[],[]),(26,[],[]),(27,[],[]),(28,[],[]),(29,[],[]),(30,[],[]),(31,[],[])] (by kernel_rfl) ?_)) <;> simp [-qt,-qd,-ql,rgs,e]) | ((first | (with_reducible refine zO ?_ ?_) | (with_reducible refine zE ?_ ?_) | (with_reducible refine zA ?_ ?_)) <;> intro qb <;> (have qp:=qb;try simp only [psq] at qp) <;> simp [-qt,-qd,-ql,rgs,e,qb])
     all_goals omega
   ·obtain rfl:l = []:=by cases l <;> simp at hp ⊢
    refine PC.o okC Tryz.func281 rfl (.int _ _) fun h nx hnx => ?_
    try simp [-qt,-qd,-ql,rgs,rkI_nil]
    repeat' first | done | ((first | ((with_reducible show zU _ _ _ _ _ _);refine zB rfl fun _ => ?_) | ((with_reducible show zJ _ _ _ _ _ _ _);refine zC rfl omA omA ?_) | (with_reducible refine zF (i:=4) [(0,[],[]),(1,[],[]),(2,[],[]),(3,[],[]),(4,[],[]),(5,[],[]),(6,[],[]),(7,[],[]),(8,[],[]),(9,[],[]),(10,[],[]),(11,[],[]),(12,[],[]),(13,[],[]),(14,[],[]),(15,[],[]),(16,[],[]),(17,[],[]),(18,[],[]),(19,[],[]),(20,[],[]),(21,[],[]),(22,[],[]),(23,[],[]),(24,[],[]),(25,[],[]),(26,[],[]),(27,[],[]),(28,[],[]),(29,[],[]),(30,[],[]),(31,[],[])] (by kernel_rfl) ?_)) <;> simp [-qt,-qd,-ql,rgs,rkI_nil]) | ((first | (with_reducible refine zO ?_ ?_) | (with_reducible refine zE ?_ ?_) | (with_reducible refine zA ?_ ?_)) <;> intro qb <;> (have qp:=qb;try simp only [psq] at qp) <;> simp [-qt,-qd,-ql,rgs,rkI_nil,qb])
theorem s_l3Rank {p:Bool} {l:List Twg}:PC ctx.P 281 [.view p 3 (l.map yQ)] (.int .i64 (rkI l)):=s_l3RankN _ _ (Nat.le_refl _)
theorem s_l3Twice {p:Bool} {l:List Twg}:PC ctx.P 280 [.view p 3 (l.map yQ)] (.bool (!zK8 l)):=by
 refine PC.lim (n:=l.length) (x:=.view p 3 (l.map yQ)) (by simp) (.here (by simp)) ⟨_,Tryz.func280,by kernel_rfl,by kernel_rfl⟩ fun hlim => ?_
 refine PC.o okC Tryz.func280 rfl (.bool _) fun h nx hnx => ?_
 try simp [-qt,-qd,-ql,rgs]
 repeat' first | done | ((first | ((with_reducible show zU _ _ _ _ _ _);refine zB rfl fun _ => ?_) | ((with_reducible show zJ _ _ _ _ _ _ _);refine zC rfl omA omA ?_) | (with_reducible refine zF (i:=7) [(0,[],[]),(1,[],[]),(2,[],[]),(3,[],[]),(4,[],[]),(5,[],[]),(6,[],[]),(7,[],[]),(8,[],[]),(9,[],[]),(10,[],[])] (by kernel_rfl) ?_)) <;> simp [-qt,-qd,-ql,rgs]) | ((first | (with_reducible refine zA ?_ ?_)) <;> intro qb <;> (have qp:=qb;try simp only [psq] at qp) <;> simp [-qt,-qd,-ql,rgs,qb])
 refine zW [2,3,4,5,6,7,8,9,10,11,12,13,14,15,16,17,18,19,20,21,22,23,24,25,26] (l.length) (fun (i:Nat) a=>[(3,.int .i64 i)]) (fun i_ a_ h_ _=>(fun i (_:Unit) _=>uI (fun i x => !(decide (0 ≤ zL0 (l.take i.toNat) x.seq))) (l.drop i) i = zK8 l) i_ a_ h_) (()) (by simp) ?_ zT (Nat.le_refl _) ?_
 ·simp [zK8]
 ·intro i a tm h' n' hle hJ hE hn' next hnx
  try dsimp only at hJ
  have hK:KeepB nx h' h:=KeepB.sub hE zK (by omega)
  simp [-qt,-qd,-ql]
  try simp [-qt,-qd,-ql,rgs]
  repeat' first | done | ((first | ((with_reducible show zU _ _ _ _ _ _);refine zB rfl fun _ => ?_) | ((with_reducible show zJ _ _ _ _ _ _ _);refine zC rfl omA omA ?_) | (with_reducible refine zF (i:=7) [(0,[],[]),(1,[],[]),(2,[],[]),(3,[],[]),(4,[],[]),(5,[],[]),(6,[],[]),(7,[],[]),(8,[],[]),(9,[],[]),(10,[],[])] (by kernel_rfl) ?_)) <;> simp [-qt,-qd,-ql,rgs]) | ((first | (with_reducible refine zA ?_ ?_)) <;> intro qb <;> (have qp:=qb;try simp only [psq] at qp) <;> simp [-qt,-qd,-ql,rgs,qb])
  ·refine zW [2,4,11,12,13,14,15,16,17,18,19,20,21,22,23,24,25,26] (i) (fun (i:Nat) a=>[(4,.int .i64 i)]) (fun i_ a_ h_ _=>(fun j (_:Unit) _=>yW (fun y=>y.seq == (gt l (i:Int)).seq) ((l.take i).drop j) j = zL0 (l.take i) (gt l (i:Int)).seq) i_ a_ h_) (()) (by simp) ?_ zT (Nat.le_refl _) ?_
   ·simp [zL0]
   ·intro j b tm2 h2 n2 hle2 hJ2 hE2 hn2 next2 hnx2
    try dsimp only at hJ2
    have hK2:KeepB nx h2 h:=KeepB.sub hE2 zK (by omega)
    simp [-qt,-qd,-ql]
    try simp [-qt,-qd,-ql,rgs,yQ]
    repeat' first | done | ((first | ((with_reducible show zU _ _ _ _ _ _);refine zB rfl fun _ => ?_) | ((with_reducible show zJ _ _ _ _ _ _ _);refine zC rfl omA omA ?_) | (with_reducible refine zF (i:=7) [(0,[],[]),(1,[],[]),(2,[],[]),(3,[],[]),(4,[],[]),(5,[],[]),(6,[],[]),(7,[],[]),(8,[],[]),(9,[],[]),(10,[],[])] (by kernel_rfl) ?_)) <;> simp [-qt,-qd,-ql,rgs,yQ]) | ((first | (with_reducible refine zA ?_ ?_)) <;> intro qb <;> (have qp:=qb;try simp only [psq] at qp) <;> simp [-qt,-qd,-ql,rgs,yQ,qb])
    ·have r:=idx_here (by omega) (by omega) hJ2 (by simp;omega)
     exact ⟨seqs_false (by omega) hJ (by omega),zK⟩
    ·refine hnx2.go () (by omega) (by simp [zM (show j < l.length by omega) hlim]) (by simp) zK (by first | omega | (simp;omega)) ?_
     exact idx_on (by omega) (by omega) hJ2 (by simp;omega)
    ·have r:=idx_end (by omega) hJ2
     refine hnx.go () (by omega) (by simp [zM (show i < l.length by omega) hlim]) (by simp) zK (by first | omega | (simp;omega)) ?_
     exact seqs_next (by omega) hJ (by omega)
  ·refine ⟨?_,zK⟩
   rw [List.drop_eq_nil_of_le (by omega)] at hJ
   exact hJ.symm
theorem s_HeapOk {p:Bool} {l:List Twg}:PC ctx.P 208 [.view p 3 (l.map yQ)] (.bool (zF7 l)):=by
 rw [heapOk_eq]
 refine PC.o okC Tryz.func208 rfl (.bool _) fun h nx hnx => ?_
 try simp [-qt,-qd,-ql,rgs]
 repeat' first | done | ((first | ((with_reducible show zU _ _ _ _ _ _);refine zB rfl fun _ => ?_) | ((with_reducible show zG _ _ _ 280 _ _);refine zD (s_l3Twice) ?_) | ((with_reducible show zG _ _ _ 281 _ _);refine zD (s_l3Rank) ?_)) <;> simp [-qt,-qd,-ql,rgs]) | ((first | (with_reducible refine zE ?_ ?_)) <;> intro qb <;> (have qp:=qb;try simp only [psq] at qp) <;> simp [-qt,-qd,-ql,rgs,qb])
 all_goals (try clear hnx)
 all_goals first | (simp_all [];done) | (simp_all [];omega) | (rw [Bool.eq_iff_iff];simp_all [];done) | (rw [Bool.eq_iff_iff];simp_all [];omega) | omega | (simp only [];grind) | grind
theorem s_l4At {F:Nat → Bool} {t:Tms} {s:Int}:PC ctx.P 121 [.agg (zA8 F t),.int .i64 s] (.int .i64 (zF4 t.list s)):=by
 refine PC.lim (n:=t.list.length) (x:=.agg (zA8 F t)) (by simp) (.agg (x:=.view (F 7) 5 (t.list.map vJ)) (by simp [zA8]) (.here (by simp))) ⟨_,Tryz.func121,by kernel_rfl,by kernel_rfl⟩ fun hlim => ?_
 refine PC.o okC Tryz.func121 rfl (.int _ _) fun h nx hnx => ?_
 try simp [-qt,-qd,-ql,rgs,zA8]
 repeat' first | done | ((first | ((with_reducible show zU _ _ _ _ _ _);refine zB rfl fun _ => ?_) | ((with_reducible show zJ _ _ _ _ _ _ _);refine zC rfl omA omA ?_)) <;> simp [-qt,-qd,-ql,rgs,zA8]) | ((first | (with_reducible refine zA ?_ ?_)) <;> intro qb <;> (have qp:=qb;try simp only [psq] at qp) <;> simp [-qt,-qd,-ql,rgs,zA8,qb])
 refine zW [4,5,6,7,8,9,10,11,12,13,14,15,16,17,18,19,20,21] (t.list.length) (fun (i:Nat) a=>[(5,.int .i64 i)]) (fun i_ a_ h_ _=>(fun i (_:Unit) _=>yW (fun x=>x.seq == s) (t.list.drop i) i = zF4 t.list s) i_ a_ h_) (()) (by simp) ?_ zT (Nat.le_refl _) ?_
 ·simp [zF4]
 ·intro i a tm h' n' hle hJ hE hn' next hnx
  try dsimp only at hJ
  have hK:KeepB nx h' h:=KeepB.sub hE zK (by omega)
  simp [-qt,-qd,-ql]
  have e1:h' (nx) = some (.obj (zA8 F t)):=by have:=hE (nx) (by omega);simpa [zA8] using this
  have e1n:∀ k,((nx) = n' + k) = False:=fun k=>by simp only [eq_iff_iff,iff_false];omega
  have e1m:((nx) = n') = False:=by simp only [eq_iff_iff,iff_false];omega
  try simp [-qt,-qd,-ql,rgs,zA8,vJ,e1,e1n,e1m]
  repeat' first | done | ((first | ((with_reducible show zU _ _ _ _ _ _);refine zB rfl fun _ => ?_) | ((with_reducible show zJ _ _ _ _ _ _ _);refine zC rfl omA omA ?_)) <;> simp [-qt,-qd,-ql,rgs,zA8,vJ,e1,e1n,e1m]) | ((first | (with_reducible refine zA ?_ ?_)) <;> intro qb <;> (have qp:=qb;try simp only [psq] at qp) <;> simp [-qt,-qd,-ql,rgs,zA8,vJ,e1,e1n,e1m,qb])
  all_goals
   first
   | (have hlt:i < t.list.length:=(by first | omega | (simp at *; omega))
      rw [zV hlt] at hJ
      first
      | (refine hnx.go (()) ?_ ?_ ?_ ?_ ?_ ?_;omega;(simp [zM hlt hlim]);(simp);exact zK;(first | omega | (simp;omega));(try dsimp only);clear hnx;first | ((try simp only [List.drop_length,Int.toNat_natCast,yW] at hJ ⊢);grind) | (simp_all [yW];done) | (simp_all;omega))
      | (refine ⟨?_,zK⟩;clear hnx;first | ((try simp only [List.drop_length,Int.toNat_natCast,yW] at hJ ⊢);grind) | (simp_all [yW];done) | (simp_all;omega)))
   | (obtain rfl:i = t.list.length:=(by first | omega | (simp at *; omega))
      refine ⟨?_,zK⟩;clear hnx;first | ((try simp only [List.drop_length,Int.toNat_natCast,yW] at hJ ⊢);grind) | (simp_all [yW];done) | (simp_all;omega))
theorem s_l4Timer {x:Tmr} {n:Int} (h : -9223372036854775808 < n ∧ n < 9223372036854775808):PC ctx.P 209 [.agg (vJ x),.int .i64 n] (.bool (tmr1 x n)):=by
 refine PC.o okC Tryz.func209 rfl (.bool _) fun h nx hnx => ?_
 try simp [-qt,-qd,-ql,rgs,vJ,zH (x:=n - 1) (by omega)]
 repeat' first | done | ((first | ((with_reducible show zG _ _ _ 199 _ _);refine zD (zA3) ?_)) <;> simp [-qt,-qd,-ql,rgs,vJ,zH (x:=n - 1) (by omega)]) | ((first | (with_reducible refine zE ?_ ?_)) <;> intro qb <;> (have qp:=qb;try simp only [psq] at qp) <;> simp [-qt,-qd,-ql,rgs,vJ,zH (x:=n - 1) (by omega),qb])
 all_goals (try clear hnx)
 all_goals first | (simp_all [tmr1];done) | (simp_all [tmr1];omega) | (rw [Bool.eq_iff_iff];simp_all [tmr1];done) | (rw [Bool.eq_iff_iff];simp_all [tmr1];omega) | omega | (simp only [tmr1];grind) | grind
theorem s_TimersOk {F:Nat → Bool} {t:Tms}:PC ctx.P 122 [.agg (zA8 F t)] (.bool (uL t)):=by
 refine PC.lim (n:=t.list.length) (x:=.agg (zA8 F t)) (by simp) (.agg (x:=.view (F 7) 5 (t.list.map vJ)) (by simp [zA8]) (.here (by simp))) ⟨_,Tryz.func122,by kernel_rfl,by kernel_rfl⟩ fun hlim => ?_
 refine PC.lim (n:=t.heap.length) (x:=.agg (zA8 F t)) (by simp) (.agg (x:=.view (F 6) 3 (t.heap.map yQ)) (by simp [zA8]) (.here (by simp))) ⟨_,Tryz.func122,by kernel_rfl,by kernel_rfl⟩ fun hlim2 => ?_
 refine PC.o okC Tryz.func122 rfl (.bool _) fun h nx hnx => ?_
 try simp [-qt,-qd,-ql,rgs,zA8]
 repeat' first | done | ((first | ((with_reducible show zU _ _ _ _ _ _);refine zB rfl fun _ => ?_) | ((with_reducible show zJ _ _ _ _ _ _ _);refine zC rfl omA omA ?_) | ((with_reducible show zG _ _ _ 199 _ _);refine zD (zA3) ?_) | ((with_reducible show zG _ _ _ 208 _ _);refine zD (s_HeapOk) ?_) | (with_reducible refine zF (i:=7) [(0,[],[]),(1,[],[]),(2,[],[]),(3,[],[]),(4,[],[]),(5,[],[]),(6,[],[]),(7,[],[]),(8,[],[]),(9,[],[]),(10,[],[]),(11,[],[]),(12,[],[]),(13,[],[]),(14,[],[]),(15,[],[]),(16,[],[]),(17,[],[]),(18,[],[]),(19,[],[]),(20,[],[]),(21,[],[]),(22,[],[]),(23,[],[]),(24,[],[]),(25,[],[]),(26,[],[]),(27,[],[]),(28,[],[])] (by kernel_rfl) ?_) | (with_reducible refine zF (i:=14) [(0,[],[]),(1,[],[]),(2,[],[]),(3,[],[]),(4,[],[]),(5,[],[]),(6,[],[]),(7,[],[]),(8,[],[])] (by kernel_rfl) ?_) | (with_reducible refine zF (i:=15) [(0,[],[]),(1,[],[]),(2,[],[]),(3,[],[]),(4,[],[]),(5,[],[]),(6,[],[]),(7,[],[]),(8,[],[]),(9,[],[]),(10,[],[]),(11,[],[]),(12,[],[]),(13,[],[]),(14,[],[]),(15,[],[]),(16,[],[]),(17,[],[]),(18,[],[]),(19,[],[]),(20,[],[]),(21,[],[]),(22,[],[]),(23,[],[]),(24,[],[]),(25,[],[])] (by kernel_rfl) ?_)) <;> simp [-qt,-qd,-ql,rgs,zA8]) | ((first | (with_reducible refine zO ?_ ?_) | (with_reducible refine zE ?_ ?_) | (with_reducible refine zA ?_ ?_)) <;> intro qb <;> (have qp:=qb;try simp only [psq] at qp) <;> simp [-qt,-qd,-ql,rgs,zA8,qb])
 ·all_goals (try clear hnx)
  all_goals first | (simp_all [uL];done) | (simp_all [uL];omega) | (rw [Bool.eq_iff_iff];simp_all [uL];done) | (rw [Bool.eq_iff_iff];simp_all [uL];omega) | omega | (simp only [uL];grind) | grind
 ·simp [uL];omega
 ·all_goals (try clear hnx)
  all_goals first | (simp_all [uL];done) | (simp_all [uL];omega) | (rw [Bool.eq_iff_iff];simp_all [uL];done) | (rw [Bool.eq_iff_iff];simp_all [uL];omega) | omega | (simp only [uL];grind) | grind
 ·have hnl : -9223372036854775808 < t.next ∧ t.next < 9223372036854775808:=by omega
  refine zW [2,3,4,23,24,25,26,27,28,29,30,31,32,33,34,35,36,37,38,39,40,41,42,43,44,45,46,47,48,49,50,51,52,53,54,55,56,57,58,59,60,61,62,63,64,65,66] (t.list.length) (fun (i:Nat) a=>[(4,.int .i64 i),(3,.int .i64 a.2)]) (fun i_ a_ h_ _=>(fun (i:Nat) (a:Int × Int) _=>a.1 = (if i = 0 then -1 else (gt t.list ((i:Int) - 1)).seq) ∧ -1 ≤ a.1 ∧ zD3 t.next (t.list.drop i) a.1 = zD3 t.next t.list (-1) ∧ a.2 + cntB (·.armed) (t.list.drop i) = cntB (·.armed) t.list ∧ 0 ≤ a.2 ∧ a.2 ≤ i) i_ a_ h_) ((-1,0)) (by simp) ?_ zT (Nat.le_refl _) ?_
  ·simp
  ·intro i a tm h' n' hle hJ hE hn' next hnx
   try dsimp only at hJ
   have hK:KeepB nx h' h:=KeepB.sub hE zK (by omega)
   simp [-qt,-qd,-ql]
   have e1:h' (nx) = some (.obj (zA8 F t)):=by have:=hE (nx) (by omega);simpa [zA8] using this
   have e1n:∀ k,((nx) = n' + k) = False:=fun k=>by simp only [eq_iff_iff,iff_false];omega
   have e1m:((nx) = n') = False:=by simp only [eq_iff_iff,iff_false];omega
   simp only [LIM] at hlim
   try simp [-qt,-qd,-ql,rgs,zA8,vJ,e1,e1n,e1m,zH (x:=(i:Int) - 1) (by omega)]
   repeat' first | done | ((first | ((with_reducible show zU _ _ _ _ _ _);refine zB rfl fun _ => ?_) | ((with_reducible show zJ _ _ _ _ _ _ _);refine zC rfl omA omA ?_) | ((with_reducible show zG _ _ _ 209 _ _);refine zD (s_l4Timer hnl) ?_) | (with_reducible refine zF (i:=7) [(0,[],[]),(1,[],[]),(2,[],[]),(3,[],[]),(4,[],[]),(5,[],[]),(6,[],[]),(7,[],[]),(8,[],[]),(9,[],[]),(10,[],[]),(11,[],[]),(12,[],[]),(13,[],[]),(14,[],[]),(15,[],[]),(16,[],[]),(17,[],[]),(18,[],[]),(19,[],[]),(20,[],[]),(21,[],[]),(22,[],[]),(23,[],[]),(24,[],[]),(25,[],[]),(26,[],[]),(27,[],[]),(28,[],[])] (by kernel_rfl) ?_) | (with_reducible refine zF (i:=14) [(0,[],[]),(1,[],[]),(2,[],[]),(3,[],[]),(4,[],[]),(5,[],[]),(6,[],[]),(7,[],[]),(8,[],[])] (by kernel_rfl) ?_) | (with_reducible refine zF (i:=15) [(0,[],[]),(1,[],[]),(2,[],[]),(3,[],[]),(4,[],[]),(5,[],[]),(6,[],[]),(7,[],[]),(8,[],[]),(9,[],[]),(10,[],[]),(11,[],[]),(12,[],[]),(13,[],[]),(14,[],[]),(15,[],[]),(16,[],[]),(17,[],[]),(18,[],[]),(19,[],[]),(20,[],[]),(21,[],[]),(22,[],[]),(23,[],[]),(24,[],[]),(25,[],[])] (by kernel_rfl) ?_)) <;> simp [-qt,-qd,-ql,rgs,zA8,vJ,e1,e1n,e1m,zH (x:=(i:Int) - 1) (by omega)]) | ((first | (with_reducible refine zO ?_ ?_) | (with_reducible refine zE ?_ ?_) | (with_reducible refine zA ?_ ?_)) <;> intro qb <;> (have qp:=qb;try simp only [psq] at qp) <;> simp [-qt,-qd,-ql,rgs,zA8,vJ,e1,e1n,e1m,zH (x:=(i:Int) - 1) (by omega),qb])
   all_goals
    first
    | (have hlt:i < t.list.length:=(by omega)
       obtain ⟨j0,j1,j2,j3,j4,j5⟩:=hJ
       rw [zV hlt] at j2 j3
       simp only [zD3,zQ8] at j2 j3
       first
       | (refine ⟨?_,zK⟩;clear hnx;simp only [uL,tmr1,inR] at *; grind)
       | (refine hnx.go ((gt t.list (i:Int)).seq,a.2 + 1) ?_ ?_ ?_ ?_ ?_ ?_;omega;(simp [zH (x:=(i:Int) + 1) (by omega),zH (x:=a.2 + 1) (by omega)]);simp;exact zK;(first | omega | (simp;omega));(clear hnx;dsimp only;simp only [tmr1,inR] at *; grind))
       | (refine hnx.go ((gt t.list (i:Int)).seq,a.2) ?_ ?_ ?_ ?_ ?_ ?_;omega;(simp [zH (x:=(i:Int) + 1) (by omega)]);simp;exact zK;(first | omega | (simp;omega));(clear hnx;dsimp only;simp only [tmr1,inR] at *; grind)))
    | skip
   ·have hfin:zD3 t.next t.list (-1) = true ∧ a.2 = cntB (·.armed) t.list:=by
     obtain ⟨j0,j1,j2,j3,j4,j5⟩:=hJ
     rw [List.drop_eq_nil_of_le (by omega)] at j2 j3
     simp only [zD3,cntB_nil] at j2 j3
     exact ⟨j2.symm,by omega⟩
    refine zW [2,5,6,67,68,69,70,71,72,73,74,75,76,77,78,79,80,81,82,83,84,85,86,87,88,89,90,91,92,93,94,95,96,97,98,99,100,101,102,103,104,105,106,107] (t.heap.length) (fun (i:Nat) a=>[(5,.int .i64 i)]) (fun i_ a_ h_ _=>(fun j (_:Unit) _=>(t.heap.drop j).any (fun h=>decide (zF4 t.list h.seq < 0) || (!(gt t.list (zF4 t.list h.seq)).armed || (gt t.list (zF4 t.list h.seq)).due != h.due)) = t.heap.any (fun h=>decide (zF4 t.list h.seq < 0) || (!(gt t.list (zF4 t.list h.seq)).armed || (gt t.list (zF4 t.list h.seq)).due != h.due))) i_ a_ h_) (()) (by simp) ?_ zT (Nat.le_refl _) ?_
    ·simp
    ·intro j b tm2 h2 n2 hle2 hJ2 hE2 hn2 next2 hnx2
     try dsimp only at hJ2
     have hK2:KeepB nx h2 h:=KeepB.sub hE2 zK (by omega)
     simp [-qt,-qd,-ql]
     have hat:=tmsAt_lt t.list (gt t.heap (j:Int)).seq
     have e2:=(hE2 (nx) (by omega)).trans e1
     have e2n:∀ k,((nx) = n2 + k) = False:=fun k=>by simp only [eq_iff_iff,iff_false];omega
     have e2m:((nx) = n2) = False:=by simp only [eq_iff_iff,iff_false];omega
     try simp [-qt,-qd,-ql,rgs,zA8,vJ,yQ,e2,e2n,e2m]
     repeat' first | done | ((first | ((with_reducible show zU _ _ _ _ _ _);refine zB rfl fun _ => ?_) | ((with_reducible show zJ _ _ _ _ _ _ _);refine zC rfl omA omA ?_) | ((with_reducible show zG _ _ _ 121 _ _);refine zD (s_l4At (t:=t) (F:=F)) ?_) | (with_reducible refine zF (i:=7) [(0,[],[]),(1,[],[]),(2,[],[]),(3,[],[]),(4,[],[]),(5,[],[]),(6,[],[]),(7,[],[]),(8,[],[]),(9,[],[]),(10,[],[]),(11,[],[]),(12,[],[]),(13,[],[]),(14,[],[]),(15,[],[]),(16,[],[]),(17,[],[]),(18,[],[]),(19,[],[]),(20,[],[]),(21,[],[]),(22,[],[]),(23,[],[]),(24,[],[]),(25,[],[]),(26,[],[]),(27,[],[]),(28,[],[])] (by kernel_rfl) ?_) | (with_reducible refine zF (i:=14) [(0,[],[]),(1,[],[]),(2,[],[]),(3,[],[]),(4,[],[]),(5,[],[]),(6,[],[]),(7,[],[]),(8,[],[])] (by kernel_rfl) ?_) | (with_reducible refine zF (i:=15) [(0,[],[]),(1,[],[]),(2,[],[]),(3,[],[]),(4,[],[]),(5,[],[]),(6,[],[]),(7,[],[]),(8,[],[]),(9,[],[]),(10,[],[]),(11,[],[]),(12,[],[]),(13,[],[]),(14,[],[]),(15,[],[]),(16,[],[]),(17,[],[]),(18,[],[]),(19,[],[]),(20,[],[]),(21,[],[]),(22,[],[]),(23,[],[]),(24,[],[]),(25,[],[])] (by kernel_rfl) ?_)) <;> simp [-qt,-qd,-ql,rgs,zA8,vJ,yQ,e2,e2n,e2m]) | ((first | (with_reducible refine zO ?_ ?_) | (with_reducible refine zE ?_ ?_) | (with_reducible refine zA ?_ ?_)) <;> intro qb <;> (have qp:=qb;try simp only [psq] at qp) <;> simp [-qt,-qd,-ql,rgs,zA8,vJ,yQ,e2,e2n,e2m,qb])
     all_goals clear hJ hnx
     all_goals
      first
      | (have hlt:j < t.heap.length:=(by first | omega | (simp at *; omega))
         rw [zV hlt] at hJ2
         first
         | (refine hnx2.go (()) ?_ ?_ ?_ ?_ ?_ ?_;omega;(simp [zM hlt hlim2]);(simp);exact zK;(first | omega | (simp;omega));(try dsimp only);clear hnx2;first | ((try simp only [List.drop_length,Int.toNat_natCast,List.any_cons,List.any_nil,uL] at hJ2 ⊢);grind) | (simp_all [List.any_cons,List.any_nil,uL];done) | (simp_all;omega))
         | (refine ⟨?_,zK⟩;clear hnx2;first | ((try simp only [List.drop_length,Int.toNat_natCast,List.any_cons,List.any_nil,uL] at hJ2 ⊢);grind) | (simp_all [List.any_cons,List.any_nil,uL];done) | (simp_all;omega)))
      | (obtain rfl:j = t.heap.length:=(by first | omega | (simp at *; omega))
         refine ⟨?_,zK⟩;clear hnx2;first | ((try simp only [List.drop_length,Int.toNat_natCast,List.any_cons,List.any_nil,uL] at hJ2 ⊢);grind) | (simp_all [List.any_cons,List.any_nil,uL];done) | (simp_all;omega))
theorem s_l5Node {n:Nod}:PC ctx.P 276 [.agg (yC n)] (.bool (nod1 n)):=by
 refine PC.o okC Tryz.func276 rfl (.bool _) fun h nx hnx => ?_
 try simp [-qt,-qd,-ql,rgs,yC]
 repeat' first | done | ((first | ((with_reducible show zG _ _ _ 199 _ _);refine zD (zA3) ?_)) <;> simp [-qt,-qd,-ql,rgs,yC]) | ((first | (with_reducible refine zE ?_ ?_) | (with_reducible refine zA ?_ ?_)) <;> intro qb <;> (have qp:=qb;try simp only [psq] at qp) <;> simp [-qt,-qd,-ql,rgs,yC,qb])
 all_goals (try clear hnx)
 all_goals first | (simp_all [nod1,vX];done) | (simp_all [nod1,vX];omega) | (rw [Bool.eq_iff_iff];simp_all [nod1,vX];done) | (rw [Bool.eq_iff_iff];simp_all [nod1,vX];omega) | omega | (simp only [nod1,vX];grind) | grind
theorem zG1 {p:Bool} {t:List Nod}:PC ctx.P 198 [.view p 5 (t.map yC)] (.bool (vV t)):=by
 rw [treeOk_eq]
 refine PC.lim (n:=t.length) (x:=.view p 5 (t.map yC)) (by simp) (.here (by simp)) ⟨_,Tryz.func198,by kernel_rfl,by kernel_rfl⟩ fun hlim => ?_
 have hlim2:=hlim
 simp only [LIM] at hlim2
 refine PC.o okC Tryz.func198 rfl (.bool _) fun h nx hnx => ?_
 try simp [-qt,-qd,-ql,rgs]
 repeat' first | done | ((first | ((with_reducible show zU _ _ _ _ _ _);refine zB rfl fun _ => ?_) | ((with_reducible show zJ _ _ _ _ _ _ _);refine zC rfl omA omA ?_)) <;> simp [-qt,-qd,-ql,rgs]) | ((first | (with_reducible refine zA ?_ ?_)) <;> intro qb <;> (have qp:=qb;try simp only [psq] at qp) <;> simp [-qt,-qd,-ql,rgs,qb])
 ·simp_all;omega
 ·refine zW [2,3,7,8,9,10,11,12,13,14,15,16,17,18,19,20,21,22,23,24,25,26,27,28,29,30,31,32,33,34,35,36,37,38,39] (t.length) (fun (i:Nat) a=>[(3,.int .i64 i)]) (fun i_ a_ h_ _=>(fun i (_:Unit) _=>uI (fun i n=>zD6 n i) (t.drop i) i = uI (fun i n=>zD6 n i) t 0) i_ a_ h_) (()) (by simp) ?_ zT (Nat.le_refl _) ?_
  ·simp
  ·intro i a tm h' n' hle hJ hE hn' next hnx
   try dsimp only at hJ
   have hK:KeepB nx h' h:=KeepB.sub hE zK (by omega)
   simp [-qt,-qd,-ql]
   try simp [-qt,-qd,-ql,rgs,yC,zH (x:=(i:Int)) (by omega),zH (x:=(i:Int) - 1) (by omega)]
   repeat' first | done | ((first | ((with_reducible show zU _ _ _ _ _ _);refine zB rfl fun _ => ?_) | ((with_reducible show zJ _ _ _ _ _ _ _);refine zC rfl omA omA ?_) | ((with_reducible show zG _ _ _ 276 _ _);refine zD (s_l5Node) ?_) | ((with_reducible show zG _ _ _ 199 _ _);refine zD (zA3) ?_)) <;> simp [-qt,-qd,-ql,rgs,yC,zH (x:=(i:Int)) (by omega),zH (x:=(i:Int) - 1) (by omega)]) | ((first | (with_reducible refine zA ?_ ?_)) <;> intro qb <;> (have qp:=qb;try simp only [psq] at qp) <;> simp [-qt,-qd,-ql,rgs,yC,zH (x:=(i:Int)) (by omega),zH (x:=(i:Int) - 1) (by omega),qb])
   all_goals
    first
    | (have hlt:i < t.length:=(by first | omega | (simp at *; omega))
       rw [zV hlt] at hJ
       first
       | (refine hnx.go (()) ?_ ?_ ?_ ?_ ?_ ?_;omega;(simp [zM hlt hlim]);(simp);exact zK;(first | omega | (simp;omega));(try dsimp only);clear hnx;first | ((try simp only [List.drop_length,Int.toNat_natCast,uI,zJ0] at hJ ⊢);grind) | (simp_all [uI,zJ0];done) | (simp_all;omega))
       | (refine ⟨?_,zK⟩;clear hnx;first | ((try simp only [List.drop_length,Int.toNat_natCast,uI,zJ0] at hJ ⊢);grind) | (simp_all [uI,zJ0];done) | (simp_all;omega)))
    | (obtain rfl:i = t.length:=(by first | omega | (simp at *; omega))
       refine ⟨?_,zK⟩;clear hnx;first | ((try simp only [List.drop_length,Int.toNat_natCast,uI,zJ0] at hJ ⊢);grind) | (simp_all [uI,zJ0];done) | (simp_all;omega))
theorem s_l5Has {p:Bool} {t:List Nod} {n:Int}:PC ctx.P 332 [.view p 5 (t.map yC),.int .i64 n] (.bool (vV t && vY n t)):=by
 refine PC.lim (n:=t.length) (x:=.view p 5 (t.map yC)) (by simp) (.here (by simp)) ⟨_,Tryz.func332,by kernel_rfl,by kernel_rfl⟩ fun hlim => ?_
 refine PC.o okC Tryz.func332 rfl (.bool _) fun h nx hnx => ?_
 try simp [-qt,-qd,-ql,rgs,yF hlim]
 repeat' first | done | ((first | ((with_reducible show zU _ _ _ _ _ _);refine zB rfl fun _ => ?_) | ((with_reducible show zG _ _ _ 198 _ _);refine zD (zG1) ?_) | ((with_reducible show zG _ _ _ 199 _ _);refine zD (zA3) ?_)) <;> simp [-qt,-qd,-ql,rgs,yF hlim]) | ((first | (with_reducible refine zE ?_ ?_)) <;> intro qb <;> (have qp:=qb;try simp only [psq] at qp) <;> simp [-qt,-qd,-ql,rgs,yF hlim,qb])
 all_goals (try clear hnx)
 all_goals first | (simp_all [vY];done) | (simp_all [vY];omega) | (rw [Bool.eq_iff_iff];simp_all [vY];done) | (rw [Bool.eq_iff_iff];simp_all [vY];omega) | omega | (simp only [vY];grind) | grind
theorem s_l6In {p:Bool} {xs:List Int} {n:Int}:PC ctx.P 259 [.view p 1 (xs.map iv),.int .i64 n] (.bool (xs.contains n)):=by
 refine PC.lim (n:=xs.length) (x:=.view p 1 (xs.map iv)) (by simp) (.here (by simp)) ⟨_,Tryz.func259,by kernel_rfl,by kernel_rfl⟩ fun hlim => ?_
 refine PC.o okC Tryz.func259 rfl (.bool _) fun h nx hnx => ?_
 try simp [-qt,-qd,-ql,rgs]
 repeat' first | done | ((first | ((with_reducible show zU _ _ _ _ _ _);refine zB rfl fun _ => ?_) | ((with_reducible show zJ _ _ _ _ _ _ _);refine zC rfl omA omA ?_)) <;> simp [-qt,-qd,-ql,rgs]) | ((first | (with_reducible refine zA ?_ ?_)) <;> intro qb <;> (have qp:=qb;try simp only [psq] at qp) <;> simp [-qt,-qd,-ql,rgs,qb])
 refine zW [4,5,6,7,8,9,10,11,12,13,14,15,16,17] (xs.length) (fun (i:Nat) a=>[(5,.int .i64 i)]) (fun i_ a_ h_ _=>(fun i (_:Unit) _=>((xs.drop i).any fun x=>x == n) = xs.contains n) i_ a_ h_) (()) (by simp) ?_ zT (Nat.le_refl _) ?_
 ·simp [any_contains']
 ·intro i a tm h' n' hle hJ hE hn' next hnx
  try dsimp only at hJ
  have hK:KeepB nx h' h:=KeepB.sub hE zK (by omega)
  simp [-qt,-qd,-ql]
  try simp [-qt,-qd,-ql,rgs,iv]
  repeat' first | done | ((first | ((with_reducible show zU _ _ _ _ _ _);refine zB rfl fun _ => ?_) | ((with_reducible show zJ _ _ _ _ _ _ _);refine zC rfl omA omA ?_)) <;> simp [-qt,-qd,-ql,rgs,iv]) | ((first | (with_reducible refine zA ?_ ?_)) <;> intro qb <;> (have qp:=qb;try simp only [psq] at qp) <;> simp [-qt,-qd,-ql,rgs,iv,qb])
  all_goals
   first
   | (have hlt:i < xs.length:=(by first | omega | (simp at *; omega))
      rw [zV hlt] at hJ
      first
      | (refine hnx.go (()) ?_ ?_ ?_ ?_ ?_ ?_;omega;(simp [zM hlt hlim]);(simp);exact zK;(first | omega | (simp;omega));(try dsimp only);clear hnx;first | ((try simp only [List.drop_length,Int.toNat_natCast,List.any_cons,List.any_nil] at hJ ⊢);grind) | (simp_all [List.any_cons,List.any_nil];done) | (simp_all;omega))
      | (refine ⟨?_,zK⟩;clear hnx;first | ((try simp only [List.drop_length,Int.toNat_natCast,List.any_cons,List.any_nil] at hJ ⊢);grind) | (simp_all [List.any_cons,List.any_nil];done) | (simp_all;omega)))
   | (obtain rfl:i = xs.length:=(by first | omega | (simp at *; omega))
      refine ⟨?_,zK⟩;clear hnx;first | ((try simp only [List.drop_length,Int.toNat_natCast,List.any_cons,List.any_nil] at hJ ⊢);grind) | (simp_all [List.any_cons,List.any_nil];done) | (simp_all;omega))
end Go.AE.Tryz
end
section
/- Contracts of the reference's readers: chains, events, functions, tasks, groups. -/
set_option maxRecDepth 8000
set_option maxHeartbeats 4000000
namespace Go.AE.Tryz
open Go.Proofs
open List renaming map_take → qt,map_drop → qd,map_tail → ql
theorem s_ChainOf {p:Bool} {t:List Nod} {n:Int} (ht:vV t = true) (h0:0 ≤ n) (h1:n < t.length):PC ctx.P 258 [.view p 5 (t.map yC),.int .i64 n] (.view true 1 ((zI2 t n).map iv)):=by
 have hl60:=zB9 ht
 have hin:vY n t = true:=by rw [zM0];omega
 refine PC.o okC Tryz.func258 rfl (.vmap zE6) fun h nx hnx => ?_
 try simp [-qt,-qd,-ql,rgs,ht,hin]
 repeat' first | done | ((first | ((with_reducible show zJ _ _ _ _ _ _ _);refine zC rfl omA omA ?_) | ((with_reducible show zG _ _ _ 332 _ _);refine zD (s_l5Has) ?_) | ((with_reducible show vZ _ _ _ _ _ _ _ _);refine zQ rfl rfl (by decide) (by decide) (by first | (simp [-qt,-qd,-ql,rgs,ht,hin];done) | (simp [-qt,-qd,-ql,rgs,ht,hin];rfl)) (by first | (simp [-qt,-qd,-ql,rgs,ht,hin];done) | (simp [-qt,-qd,-ql,rgs,ht,hin];rfl)) (by first | (simp;done) | (simp;omega)) (by first | (simp only [zY,LIM] at *; simp;omega) | (simp only [zY];simp;omega)) (by simp [iv,bv]) ?_)) <;> simp [-qt,-qd,-ql,rgs,ht,hin]) | ((first | (with_reducible refine zE ?_ ?_) | (with_reducible refine zA ?_ ?_)) <;> intro qb <;> (have qp:=qb;try simp only [psq] at qp) <;> simp [-qt,-qd,-ql,rgs,ht,hin,qb])
 refine go_dnP (h0:=h) (nx0:=nx) [4,5,6,14,15,16,17,18,19,20,21,22,23,24,25,26,27,28,29,30,31,32,33,34,35,36,37] (fun a=>[(6,.int .i64 a.1),(5,.ref a.2.2 1 0 a.2.1.length)]) (fun a=>a.1.toNat) (fun (a:Int × List Int × Nat) h' n'=>0 ≤ a.1 ∧ a.1 < t.length ∧ nx ≤ a.2.2 ∧ h' a.2.2 = some (.row 1 (a.2.1.map iv)) ∧ a.2.1 ++ zI2 t a.1 = zI2 t n ∧ (a.2.1.length:Int) + a.1 ≤ n ∧ a.2.2 < n') ((n,[],nx + 1)) (by simp) ?_ zK (by omega) ?_
 ·simp [h0,h1,iv]
 ·intro a tm h' n' hJ hE hn' next hnx
  try dsimp only at hJ
  have hK:KeepB nx h' h:=KeepB.sub hE zK (by omega)
  obtain ⟨m,pre,id⟩:=a
  obtain ⟨g0,g1,g2,g3,g4,g5,g6⟩:=hJ
  dsimp only at g0 g1 g2 g3 g4 g5 g6 ⊢
  have hs:=chain_step ht g0 g1
  have hu:=zJ1 ht g0 g1
  have k1:∀ k,(id = n' + k) = False:=fun k=>by simp only [eq_iff_iff,iff_false];omega
  try simp [-qt,-qd,-ql,rgs,yC,g3,k1,iv]
  repeat' first | done | ((first | ((with_reducible show zJ _ _ _ _ _ _ _);refine zC rfl omA omA ?_) | ((with_reducible show vZ _ _ _ _ _ _ _ _);refine zQ rfl rfl (by decide) (by decide) (by first | (simp [-qt,-qd,-ql,rgs,yC,g3,k1,iv];done) | (simp [-qt,-qd,-ql,rgs,yC,g3,k1,iv];rfl)) (by first | (simp [-qt,-qd,-ql,rgs,yC,g3,k1,iv];done) | (simp [-qt,-qd,-ql,rgs,yC,g3,k1,iv];rfl)) (by first | (simp;done) | (simp;omega)) (by first | (simp only [zY,LIM] at *; simp;omega) | (simp only [zY];simp;omega)) (by simp [iv,bv]) ?_)) <;> simp [-qt,-qd,-ql,rgs,yC,g3,k1,iv]) | ((first | (with_reducible refine zE ?_ ?_) | (with_reducible refine zA ?_ ?_)) <;> intro qb <;> (have qp:=qb;try simp only [psq] at qp) <;> simp [-qt,-qd,-ql,rgs,yC,g3,k1,iv,qb])
  all_goals first
   | (refine ⟨?_,zK⟩;rw [if_pos (by simp;omega)] at hs;rw [← g4,hs];first | (rw [List.take_of_length_le (by simp)];simp [iv]) | (simp [iv]))
   | (have hu':=hu (by omega)
      refine hnx.go ((gt t m).up,pre ++ [m],n' + 3) (by simp;omega) (by simp) (by simp) zK (by first | omega | (simp;omega)) ?_
      dsimp only
      refine ⟨by omega,by omega,by omega,by simp [iv],?_,by simp;omega,by simp⟩
      rw [if_neg (by simp;omega)] at hs
      rw [← g4,hs];simp)
theorem s_IsDue {a b:Int}:PC ctx.P 168 [.int .i64 a,.int .i64 b] (.bool (zM3 a b)):=by
 refine PC.o okC Tryz.func168 rfl (.bool _) fun h nx hnx => ?_
 try simp [-qt,-qd,-ql,rgs,zM3,vX]
 repeat' first | done | ((first | (with_reducible refine zE ?_ ?_)) <;> intro qb <;> (have qp:=qb;try simp only [psq] at qp) <;> simp [-qt,-qd,-ql,rgs,zM3,vX,qb])
theorem s_l6Event {p:Bool} {t:List Nod} {e:Evt}:PC ctx.P 275 [.view p 5 (t.map yC),.agg (yS e)] (.bool (uM t e)):=by
 refine PC.lim (n:=t.length) (x:=.view p 5 (t.map yC)) (by simp) (.here (by simp)) ⟨_,Tryz.func275,by kernel_rfl,by kernel_rfl⟩ fun hlim => ?_
 refine PC.o okC Tryz.func275 rfl (.bool _) fun h nx hnx => ?_
 try simp [-qt,-qd,-ql,rgs,yS,yC,yF hlim]
 repeat' first | done | ((first | ((with_reducible show zU _ _ _ _ _ _);refine zB rfl fun _ => ?_) | ((with_reducible show zJ _ _ _ _ _ _ _);refine zC rfl omA omA ?_) | ((with_reducible show zG _ _ _ 199 _ _);refine zD (zA3) ?_) | ((with_reducible show zG _ _ _ 168 _ _);refine zD (s_IsDue) ?_)) <;> simp [-qt,-qd,-ql,rgs,yS,yC,yF hlim]) | ((first | (with_reducible refine zE ?_ ?_) | (with_reducible refine zA ?_ ?_)) <;> intro qb <;> (have qp:=qb;try simp only [psq] at qp) <;> simp [-qt,-qd,-ql,rgs,yS,yC,yF hlim,qb])
 all_goals (try clear hnx)
 all_goals first | (simp_all [uM,vY];done) | (simp_all [uM,vY];omega) | (rw [Bool.eq_iff_iff];simp_all [uM,vY];done) | (rw [Bool.eq_iff_iff];simp_all [uM,vY];omega) | omega | (simp only [uM,vY];grind) | grind
theorem s_l6First {p q:Bool} {t:List Nod} {l:List Evt} {n:Int} (ht:vV t = true) (h0:0 ≤ n) (h1:n < t.length) :
 PC ctx.P 166 [.view p 5 (t.map yC),.view q 4 (l.map yS),.int .i64 n] (.int .i64 (yW (fun e=>(zI2 t n).contains e.node) l 0)):=by
 refine PC.lim (n:=l.length) (x:=.view q 4 (l.map yS)) (by simp) (.here (by simp)) ⟨_,Tryz.func166,by kernel_rfl,by kernel_rfl⟩ fun hlim => ?_
 refine PC.o okC Tryz.func166 rfl (.int _ _) fun h nx hnx => ?_
 try simp [-qt,-qd,-ql,rgs]
 repeat' first | done | ((first | ((with_reducible show zU _ _ _ _ _ _);refine zB rfl fun _ => ?_) | ((with_reducible show zJ _ _ _ _ _ _ _);refine zC rfl omA omA ?_) | ((with_reducible show zG _ _ _ 258 _ _);refine zD (s_ChainOf ht h0 h1) ?_)) <;> simp [-qt,-qd,-ql,rgs]) | ((first | (with_reducible refine zA ?_ ?_)) <;> intro qb <;> (have qp:=qb;try simp only [psq] at qp) <;> simp [-qt,-qd,-ql,rgs,qb])
 refine zW [6,8,12,13,14,15,16,17,18,19,20,21,22,23,24,25] (l.length) (fun (i:Nat) a=>[(8,.int .i64 i)]) (fun i_ a_ h_ _=>(fun i (_:Unit) _=>yW (fun e=>(zI2 t n).contains e.node) (l.drop i) i = yW (fun e=>(zI2 t n).contains e.node) l 0) i_ a_ h_) (()) (by simp) ?_ zT (Nat.le_refl _) ?_
 ·simp
 ·intro i a tm h' n' hle hJ hE hn' next hnx
  try dsimp only at hJ
  have hK:KeepB nx h' h:=KeepB.sub hE zK (by omega)
  simp [-qt,-qd,-ql]
  try simp [-qt,-qd,-ql,rgs,yS]
  repeat' first | done | ((first | ((with_reducible show zU _ _ _ _ _ _);refine zB rfl fun _ => ?_) | ((with_reducible show zJ _ _ _ _ _ _ _);refine zC rfl omA omA ?_) | ((with_reducible show zG _ _ _ 259 _ _);refine zD (s_l6In) ?_)) <;> simp [-qt,-qd,-ql,rgs,yS]) | ((first | (with_reducible refine zA ?_ ?_)) <;> intro qb <;> (have qp:=qb;try simp only [psq] at qp) <;> simp [-qt,-qd,-ql,rgs,yS,qb])
  all_goals
   first
   | (have hlt:i < l.length:=(by first | omega | (simp at *; omega))
      rw [zV hlt] at hJ
      first
      | (refine hnx.go (()) ?_ ?_ ?_ ?_ ?_ ?_;omega;(simp [zM hlt hlim]);(simp);exact zK;(first | omega | (simp;omega));(try dsimp only);clear hnx;first | ((try simp only [List.drop_length,Int.toNat_natCast,yW] at hJ ⊢);grind) | (simp_all [yW];done) | (simp_all;omega))
      | (refine ⟨?_,zK⟩;clear hnx;first | ((try simp only [List.drop_length,Int.toNat_natCast,yW] at hJ ⊢);grind) | (simp_all [yW];done) | (simp_all;omega)))
   | (obtain rfl:i = l.length:=(by first | omega | (simp at *; omega))
      refine ⟨?_,zK⟩;clear hnx;first | ((try simp only [List.drop_length,Int.toNat_natCast,yW] at hJ ⊢);grind) | (simp_all [yW];done) | (simp_all;omega))
theorem s_EventsOk {p q:Bool} {t:List Nod} {l:List Evt}:PC ctx.P 197 [.view p 5 (t.map yC),.view q 4 (l.map yS)] (.bool (yM t l)):=by
 refine PC.lim (n:=l.length) (x:=.view q 4 (l.map yS)) (by simp) (.here (by simp)) ⟨_,Tryz.func197,by kernel_rfl,by kernel_rfl⟩ fun hlim => ?_
 by_cases ht:vV t = true
 ·refine PC.o okC Tryz.func197 rfl (.bool _) fun h nx hnx => ?_
  try simp [-qt,-qd,-ql,rgs,ht]
  repeat' first | done | ((first | ((with_reducible show zU _ _ _ _ _ _);refine zB rfl fun _ => ?_) | ((with_reducible show zJ _ _ _ _ _ _ _);refine zC rfl omA omA ?_) | ((with_reducible show yT _ _ _ _ _ _ _ _);refine uY rfl omA omA ?_) | ((with_reducible show yT _ _ _ _ _ _ _ _);refine vM rfl omA omA ?_) | ((with_reducible show yT _ _ _ _ _ _ _ _);refine uA rfl omA omA omA ?_) | ((with_reducible show vE _ _ _ _ _ _ _ _ _ _ _);refine zA2 rfl omA omA ?_) | ((with_reducible show vE _ _ _ _ _ _ _ _ _ _ _);refine vQ rfl omA omA ?_) | ((with_reducible show vE _ _ _ _ _ _ _ _ _ _ _);refine uD rfl omA omA omA ?_) | ((with_reducible show zG _ _ _ 198 _ _);refine zD (zG1) ?_) | (with_reducible refine zF (i:=6) [(0,[],[]),(1,[],[]),(2,[],[]),(3,[],[]),(4,[],[]),(5,[],[]),(6,[],[]),(7,[],[]),(8,[],[]),(9,[],[]),(10,[],[]),(11,[],[]),(12,[],[]),(13,[],[]),(14,[],[]),(15,[],[]),(16,[],[]),(17,[],[]),(18,[],[]),(19,[],[]),(20,[],[]),(21,[],[]),(22,[],[]),(23,[],[]),(24,[],[]),(25,[],[]),(26,[],[]),(27,[],[]),(28,[],[]),(29,[],[]),(30,[],[]),(31,[],[]),(32,[],[]),(33,[],[]),(34,[],[]),(35,[],[]),(36,[],[]),(37,[],[])] (by kernel_rfl) ?_)) <;> simp [-qt,-qd,-ql,rgs,ht]) | ((first | (with_reducible refine zO ?_ ?_) | (with_reducible refine zA ?_ ?_)) <;> intro qb <;> (have qp:=qb;try simp only [psq] at qp) <;> simp [-qt,-qd,-ql,rgs,ht,qb])
  refine zW [4,5,9,10,11,12,13,14,15,16,17,18,19,20,21,22,23,24,25,26,27,28,29,30,31,32,33,34,35,36,37,38,39,40,41,42,43,44,45,46,47,48,49,50,51,52] (l.length) (fun (i:Nat) a=>[(5,.int .i64 i)]) (fun i_ a_ h_ _=>(fun i (_:Unit) _=>uI (fun i e=>fits t (l.take i.toNat) e) (l.drop i) i = uI (fun i e=>fits t (l.take i.toNat) e) l 0) i_ a_ h_) (()) (by simp) ?_ zT (Nat.le_refl _) ?_
  ·simp
  ·intro i a tm h' n' hle hJ hE hn' next hnx
   try dsimp only at hJ
   have hK:KeepB nx h' h:=KeepB.sub hE zK (by omega)
   simp [-qt,-qd,-ql]
   have hlim':=hlim
   simp only [LIM] at hlim'
   have hnode:uM t (gt l (i:Int)) = true → 0 ≤ (gt l (i:Int)).node ∧ (gt l (i:Int)).node < t.length:=isEvent_in
   try simp [-qt,-qd,-ql,rgs,yS,zH (x:=(i:Int) - 1) (by omega)]
   repeat' first | done | ((first | ((with_reducible show zU _ _ _ _ _ _);refine zB rfl fun _ => ?_) | ((with_reducible show zJ _ _ _ _ _ _ _);refine zC rfl omA omA ?_) | ((with_reducible show yT _ _ _ _ _ _ _ _);refine uY rfl omA omA ?_) | ((with_reducible show yT _ _ _ _ _ _ _ _);refine vM rfl omA omA ?_) | ((with_reducible show yT _ _ _ _ _ _ _ _);refine uA rfl omA omA omA ?_) | ((with_reducible show vE _ _ _ _ _ _ _ _ _ _ _);refine zA2 rfl omA omA ?_) | ((with_reducible show vE _ _ _ _ _ _ _ _ _ _ _);refine vQ rfl omA omA ?_) | ((with_reducible show vE _ _ _ _ _ _ _ _ _ _ _);refine uD rfl omA omA omA ?_) | ((with_reducible show zG _ _ _ 275 _ _);refine zD (s_l6Event (e:=gt l (i:Int))) ?_) | ((with_reducible show zG _ _ _ 166 _ _);refine zD (s_l6First ht (hnode (by assumption)).1 (hnode (by assumption)).2) ?_) | (with_reducible refine zF (i:=6) [(0,[],[]),(1,[],[]),(2,[],[]),(3,[],[]),(4,[],[]),(5,[],[]),(6,[],[]),(7,[],[]),(8,[],[]),(9,[],[]),(10,[],[]),(11,[],[]),(12,[],[]),(13,[],[]),(14,[],[]),(15,[],[]),(16,[],[]),(17,[],[]),(18,[],[]),(19,[],[]),(20,[],[]),(21,[],[]),(22,[],[]),(23,[],[]),(24,[],[]),(25,[],[]),(26,[],[]),(27,[],[]),(28,[],[]),(29,[],[]),(30,[],[]),(31,[],[]),(32,[],[]),(33,[],[]),(34,[],[]),(35,[],[]),(36,[],[]),(37,[],[])] (by kernel_rfl) ?_)) <;> simp [-qt,-qd,-ql,rgs,yS,zH (x:=(i:Int) - 1) (by omega)]) | ((first | (with_reducible refine zO ?_ ?_) | (with_reducible refine zA ?_ ?_)) <;> intro qb <;> (have qp:=qb;try simp only [psq] at qp) <;> simp [-qt,-qd,-ql,rgs,yS,zH (x:=(i:Int) - 1) (by omega),qb])
   all_goals first
    | (have hlt:i < l.length:=(by omega)
       rw [zV hlt] at hJ
       simp only [uI,Int.toNat_natCast,fits_eq hlt] at hJ
       first
       | (refine hnx.go () (by omega) (by simp [zM hlt hlim]) (by simp) zK (by first | omega | (simp;omega)) ?_;clear hnx;grind)
       | (refine ⟨?_,zK⟩;clear hnx;simp only [yM];grind))
    | (refine ⟨?_,zK⟩;rw [List.drop_eq_nil_of_le (by omega)] at hJ;clear hnx;simp only [uI,yM] at hJ ⊢; grind)
 ·refine PC.o okC Tryz.func197 rfl (.bool _) fun h nx hnx => ?_
  try simp [-qt,-qd,-ql,rgs,ht]
  repeat' first | done | ((first | ((with_reducible show zU _ _ _ _ _ _);refine zB rfl fun _ => ?_) | ((with_reducible show zJ _ _ _ _ _ _ _);refine zC rfl omA omA ?_) | ((with_reducible show yT _ _ _ _ _ _ _ _);refine uY rfl omA omA ?_) | ((with_reducible show yT _ _ _ _ _ _ _ _);refine vM rfl omA omA ?_) | ((with_reducible show yT _ _ _ _ _ _ _ _);refine uA rfl omA omA omA ?_) | ((with_reducible show vE _ _ _ _ _ _ _ _ _ _ _);refine zA2 rfl omA omA ?_) | ((with_reducible show vE _ _ _ _ _ _ _ _ _ _ _);refine vQ rfl omA omA ?_) | ((with_reducible show vE _ _ _ _ _ _ _ _ _ _ _);refine uD rfl omA omA omA ?_) | ((with_reducible show zG _ _ _ 198 _ _);refine zD (zG1) ?_) | (with_reducible refine zF (i:=6) [(0,[],[]),(1,[],[]),(2,[],[]),(3,[],[]),(4,[],[]),(5,[],[]),(6,[],[]),(7,[],[]),(8,[],[]),(9,[],[]),(10,[],[]),(11,[],[]),(12,[],[]),(13,[],[]),(14,[],[]),(15,[],[]),(16,[],[]),(17,[],[]),(18,[],[]),(19,[],[]),(20,[],[]),(21,[],[]),(22,[],[]),(23,[],[]),(24,[],[]),(25,[],[]),(26,[],[]),(27,[],[]),(28,[],[]),(29,[],[]),(30,[],[]),(31,[],[]),(32,[],[]),(33,[],[]),(34,[],[]),(35,[],[]),(36,[],[]),(37,[],[])] (by kernel_rfl) ?_)) <;> simp [-qt,-qd,-ql,rgs,ht]) | ((first | (with_reducible refine zO ?_ ?_) | (with_reducible refine zA ?_ ?_)) <;> intro qb <;> (have qp:=qb;try simp only [psq] at qp) <;> simp [-qt,-qd,-ql,rgs,ht,qb])
  all_goals (try clear hnx)
  all_goals first | (simp_all [yM];done) | (simp_all [yM];omega) | (rw [Bool.eq_iff_iff];simp_all [yM];done) | (rw [Bool.eq_iff_iff];simp_all [yM];omega) | omega | (simp only [yM];grind) | grind
end Go.AE.Tryz
end
section
/- Contracts of the reference's readers: chains, events, functions, tasks, groups. -/
set_option maxRecDepth 8000
set_option maxHeartbeats 4000000
namespace Go.AE.Tryz
open Go.Proofs
open List renaming map_take → qt,map_drop → qd,map_tail → ql
theorem s_l9Leash {n:Int}:PC ctx.P 339 [.int .i64 n] (.bool (inR n (-1) 59)):=by
 refine PC.o okC Tryz.func339 rfl (.bool _) fun h nx hnx => ?_
 try simp [-qt,-qd,-ql,rgs]
 repeat' first | done | ((first | ((with_reducible show zG _ _ _ 199 _ _);refine zD (zA3) ?_)) <;> simp [-qt,-qd,-ql,rgs])
theorem s_InsOk {x:Inn}:PC ctx.P 274 [.agg (uC x)] (.bool (zL8 x)):=by
 refine PC.o okC Tryz.func274 rfl (.bool _) fun h nx hnx => ?_
 try simp [-qt,-qd,-ql,rgs,uC]
 repeat' first | done | ((first | ((with_reducible show zG _ _ _ 339 _ _);refine zD (s_l9Leash) ?_) | ((with_reducible show zG _ _ _ 199 _ _);refine zD (zA3) ?_)) <;> simp [-qt,-qd,-ql,rgs,uC]) | ((first | (with_reducible refine zE ?_ ?_) | (with_reducible refine zA ?_ ?_)) <;> intro qb <;> (have qp:=qb;try simp only [psq] at qp) <;> simp [-qt,-qd,-ql,rgs,uC,qb])
 all_goals (try clear hnx)
 all_goals first | (simp_all [zL8,zG6,hasB,inR];done) | (simp_all [zL8,zG6,hasB,inR];omega) | (rw [Bool.eq_iff_iff];simp_all [zL8,zG6,hasB,inR];done) | (rw [Bool.eq_iff_iff];simp_all [zL8,zG6,hasB,inR];omega) | omega | (simp only [zL8,zG6,hasB,inR];grind) | grind
theorem s_ProgOk {p:Bool} {l:List Inn}:PC ctx.P 196 [.view p 3 (l.map uC)] (.bool (zE4 l)):=by
 refine PC.lim (n:=l.length) (x:=.view p 3 (l.map uC)) (by simp) (.here (by simp)) ⟨_,Tryz.func196,by kernel_rfl,by kernel_rfl⟩ fun hlim => ?_
 refine PC.o okC Tryz.func196 rfl (.bool _) fun h nx hnx => ?_
 try simp [-qt,-qd,-ql,rgs]
 repeat' first | done | ((first | ((with_reducible show zU _ _ _ _ _ _);refine zB rfl fun _ => ?_) | ((with_reducible show zJ _ _ _ _ _ _ _);refine zC rfl omA omA ?_)) <;> simp [-qt,-qd,-ql,rgs]) | ((first | (with_reducible refine zA ?_ ?_)) <;> intro qb <;> (have qp:=qb;try simp only [psq] at qp) <;> simp [-qt,-qd,-ql,rgs,qb])
 refine zW [2,3,4,5,6,7,8,9,10,11,12,13,14,15] (l.length) (fun (i:Nat) a=>[(3,.int .i64 i)]) (fun i_ a_ h_ _=>(fun i (_:Unit) _=>((l.drop i).any fun x => !zL8 x) = l.any fun x => !zL8 x) i_ a_ h_) (()) (by simp) ?_ zT (Nat.le_refl _) ?_
 ·simp
 ·intro i a tm h' n' hle hJ hE hn' next hnx
  try dsimp only at hJ
  have hK:KeepB nx h' h:=KeepB.sub hE zK (by omega)
  simp [-qt,-qd,-ql]
  try simp [-qt,-qd,-ql,rgs]
  repeat' first | done | ((first | ((with_reducible show zU _ _ _ _ _ _);refine zB rfl fun _ => ?_) | ((with_reducible show zJ _ _ _ _ _ _ _);refine zC rfl omA omA ?_) | ((with_reducible show zG _ _ _ 274 _ _);refine zD (s_InsOk) ?_)) <;> simp [-qt,-qd,-ql,rgs]) | ((first | (with_reducible refine zA ?_ ?_)) <;> intro qb <;> (have qp:=qb;try simp only [psq] at qp) <;> simp [-qt,-qd,-ql,rgs,qb])
  all_goals
   first
   | (have hlt:i < l.length:=(by first | omega | (simp at *; omega))
      rw [zV hlt] at hJ
      first
      | (refine hnx.go (()) ?_ ?_ ?_ ?_ ?_ ?_;omega;(simp [zM hlt hlim]);(simp);exact zK;(first | omega | (simp;omega));(try dsimp only);clear hnx;first | ((try simp only [List.drop_length,Int.toNat_natCast,List.any_cons,List.any_nil,zE4] at hJ ⊢);grind) | (simp_all [List.any_cons,List.any_nil,zE4];done) | (simp_all;omega))
      | (refine ⟨?_,zK⟩;clear hnx;first | ((try simp only [List.drop_length,Int.toNat_natCast,List.any_cons,List.any_nil,zE4] at hJ ⊢);grind) | (simp_all [List.any_cons,List.any_nil,zE4];done) | (simp_all;omega)))
   | (obtain rfl:i = l.length:=(by first | omega | (simp at *; omega))
      refine ⟨?_,zK⟩;clear hnx;first | ((try simp only [List.drop_length,Int.toNat_natCast,List.any_cons,List.any_nil,zE4] at hJ ⊢);grind) | (simp_all [List.any_cons,List.any_nil,zE4];done) | (simp_all;omega))
theorem s_l10Waits {t:Tsk}:PC ctx.P 266 [.agg (vU t)] (.bool (tsk1 t)):=by
 refine PC.o okC Tryz.func266 rfl (.bool _) fun h nx hnx => ?_
 try simp [-qt,-qd,-ql,rgs,vU]
 repeat' first | done | ((first | ((with_reducible show zG _ _ _ 199 _ _);refine zD (zA3) ?_)) <;> simp [-qt,-qd,-ql,rgs,vU]) | ((first | (with_reducible refine zE ?_ ?_) | (with_reducible refine zA ?_ ?_)) <;> intro qb <;> (have qp:=qb;try simp only [psq] at qp) <;> simp [-qt,-qd,-ql,rgs,vU,qb])
 all_goals (try clear hnx)
 all_goals first | (simp_all [tsk1,inR];done) | (simp_all [tsk1,inR];omega) | (rw [Bool.eq_iff_iff];simp_all [tsk1,inR];done) | (rw [Bool.eq_iff_iff];simp_all [tsk1,inR];omega) | omega | (simp only [tsk1,inR];grind) | grind
theorem s_TaskOk {t:Tsk}:PC ctx.P 180 [.agg (vU t)] (.bool (zN5 t)):=by
 rw [tskOk_eq]
 refine PC.o okC Tryz.func180 rfl (.bool _) fun h nx hnx => ?_
 try simp [-qt,-qd,-ql,rgs,vU]
 repeat' first | done | ((first | ((with_reducible show zG _ _ _ 199 _ _);refine zD (zA3) ?_) | ((with_reducible show zG _ _ _ 266 _ _);refine zD (s_l10Waits (t:=t)) ?_)) <;> simp [-qt,-qd,-ql,rgs,vU]) | ((first | (with_reducible refine zE ?_ ?_) | (with_reducible refine zA ?_ ?_)) <;> intro qb <;> (have qp:=qb;try simp only [psq] at qp) <;> simp [-qt,-qd,-ql,rgs,vU,qb])
 all_goals (try clear hnx)
 all_goals first | (simp_all [tskS];done) | (simp_all [tskS];omega) | (rw [Bool.eq_iff_iff];simp_all [tskS];done) | (rw [Bool.eq_iff_iff];simp_all [tskS];omega) | omega | (simp only [tskS];grind) | grind
theorem s_TasksOk {p:Bool} {l:List Tsk}:PC ctx.P 203 [.view p 9 (l.map vU)] (.bool (uZ l)):=by
 refine PC.lim (n:=l.length) (x:=.view p 9 (l.map vU)) (by simp) (.here (by simp)) ⟨_,Tryz.func203,by kernel_rfl,by kernel_rfl⟩ fun hlim => ?_
 refine PC.o okC Tryz.func203 rfl (.bool _) fun h nx hnx => ?_
 try simp [-qt,-qd,-ql,rgs]
 repeat' first | done | ((first | ((with_reducible show zU _ _ _ _ _ _);refine zB rfl fun _ => ?_) | ((with_reducible show zJ _ _ _ _ _ _ _);refine zC rfl omA omA ?_)) <;> simp [-qt,-qd,-ql,rgs]) | ((first | (with_reducible refine zA ?_ ?_)) <;> intro qb <;> (have qp:=qb;try simp only [psq] at qp) <;> simp [-qt,-qd,-ql,rgs,qb])
 refine zW [2,3,4,5,6,7,8,9,10,11,12,13,14,15] (l.length) (fun (i:Nat) a=>[(3,.int .i64 i)]) (fun i_ a_ h_ _=>(fun i (_:Unit) _=>((l.drop i).any fun x => !zN5 x) = l.any fun x => !zN5 x) i_ a_ h_) (()) (by simp) ?_ zT (Nat.le_refl _) ?_
 ·simp
 ·intro i a tm h' n' hle hJ hE hn' next hnx
  try dsimp only at hJ
  have hK:KeepB nx h' h:=KeepB.sub hE zK (by omega)
  simp [-qt,-qd,-ql]
  try simp [-qt,-qd,-ql,rgs]
  repeat' first | done | ((first | ((with_reducible show zU _ _ _ _ _ _);refine zB rfl fun _ => ?_) | ((with_reducible show zJ _ _ _ _ _ _ _);refine zC rfl omA omA ?_) | ((with_reducible show zG _ _ _ 180 _ _);refine zD (s_TaskOk) ?_)) <;> simp [-qt,-qd,-ql,rgs]) | ((first | (with_reducible refine zA ?_ ?_)) <;> intro qb <;> (have qp:=qb;try simp only [psq] at qp) <;> simp [-qt,-qd,-ql,rgs,qb])
  all_goals
   first
   | (have hlt:i < l.length:=(by first | omega | (simp at *; omega))
      rw [zV hlt] at hJ
      first
      | (refine hnx.go (()) ?_ ?_ ?_ ?_ ?_ ?_;omega;(simp [zM hlt hlim]);(simp);exact zK;(first | omega | (simp;omega));(try dsimp only);clear hnx;first | ((try simp only [List.drop_length,Int.toNat_natCast,List.any_cons,List.any_nil,uZ] at hJ ⊢);grind) | (simp_all [List.any_cons,List.any_nil,uZ];done) | (simp_all;omega))
      | (refine ⟨?_,zK⟩;clear hnx;first | ((try simp only [List.drop_length,Int.toNat_natCast,List.any_cons,List.any_nil,uZ] at hJ ⊢);grind) | (simp_all [List.any_cons,List.any_nil,uZ];done) | (simp_all;omega)))
   | (obtain rfl:i = l.length:=(by first | omega | (simp at *; omega))
      refine ⟨?_,zK⟩;clear hnx;first | ((try simp only [List.drop_length,Int.toNat_natCast,List.any_cons,List.any_nil,uZ] at hJ ⊢);grind) | (simp_all [List.any_cons,List.any_nil,uZ];done) | (simp_all;omega))
theorem s_GroupOk {p:Bool} {g:Grp}:PC ctx.P 205 [.agg (vD p g)] (.bool (zJ6 g)):=by
 refine PC.lim (n:=g.waits.length) (x:=.agg (vD p g)) (by simp) (.agg (x:=.view p 1 (g.waits.map iv)) (by simp [vD]) (.here (by simp))) ⟨_,Tryz.func205,by kernel_rfl,by kernel_rfl⟩ fun hlim => ?_
 refine PC.o okC Tryz.func205 rfl (.bool _) fun h nx hnx => ?_
 try simp [-qt,-qd,-ql,rgs,vD]
 repeat' first | done | ((first | ((with_reducible show zU _ _ _ _ _ _);refine zB rfl fun _ => ?_) | ((with_reducible show zJ _ _ _ _ _ _ _);refine zC rfl omA omA ?_) | ((with_reducible show yT _ _ _ _ _ _ _ _);refine uY rfl omA omA ?_) | ((with_reducible show yT _ _ _ _ _ _ _ _);refine vM rfl omA omA ?_) | ((with_reducible show yT _ _ _ _ _ _ _ _);refine uA rfl omA omA omA ?_) | ((with_reducible show vE _ _ _ _ _ _ _ _ _ _ _);refine zA2 rfl omA omA ?_) | ((with_reducible show vE _ _ _ _ _ _ _ _ _ _ _);refine vQ rfl omA omA ?_) | ((with_reducible show vE _ _ _ _ _ _ _ _ _ _ _);refine uD rfl omA omA omA ?_) | ((with_reducible show zG _ _ _ 199 _ _);refine zD (zA3) ?_) | (with_reducible refine zF (i:=6) [(0,[],[]),(1,[],[]),(2,[],[]),(3,[],[]),(4,[],[]),(5,[],[]),(6,[],[]),(7,[],[]),(8,[],[]),(9,[],[]),(10,[],[]),(11,[],[]),(12,[],[]),(13,[],[]),(14,[],[]),(15,[],[]),(16,[],[]),(17,[],[]),(18,[],[])] (by kernel_rfl) ?_)) <;> simp [-qt,-qd,-ql,rgs,vD]) | ((first | (with_reducible refine zO ?_ ?_) | (with_reducible refine zE ?_ ?_) | (with_reducible refine zA ?_ ?_)) <;> intro qb <;> (have qp:=qb;try simp only [psq] at qp) <;> simp [-qt,-qd,-ql,rgs,vD,qb])
 all_goals first | (clear hnx;simp only [zJ6];grind) | skip
 all_goals
  refine zW [2,3,38,39,40,41,42,43,44,45,46,47,48,49,50,51,52,53,54,55,56,57,58,59,60,61,62,63] (g.waits.length) (fun (i:Nat) a=>[(3,.int .i64 i)]) (fun i_ a_ h_ _=>(fun i (_:Unit) _=>uI (fun i n=>inR n 0 59 && !(g.waits.take i.toNat).contains n) (g.waits.drop i) i = uI (fun i n=>inR n 0 59 && !(g.waits.take i.toNat).contains n) g.waits 0) i_ a_ h_) (()) (by simp) ?_ zT (Nat.le_refl _) ?_
  ·simp
  ·intro i a tm h' n' hle hJ hE hn' next hnx
   try dsimp only at hJ
   have hK:KeepB nx h' h:=KeepB.sub hE zK (by omega)
   simp [-qt,-qd,-ql]
   have e1:h' (nx) = some (.obj (vD p g)):=by have:=hE (nx) (by omega);simpa [vD] using this
   have e1n:∀ k,((nx) = n' + k) = False:=fun k=>by simp only [eq_iff_iff,iff_false];omega
   have e1m:((nx) = n') = False:=by simp only [eq_iff_iff,iff_false];omega
   try simp [-qt,-qd,-ql,rgs,vD,iv,e1,e1n,e1m]
   repeat' first | done | ((first | ((with_reducible show zU _ _ _ _ _ _);refine zB rfl fun _ => ?_) | ((with_reducible show zJ _ _ _ _ _ _ _);refine zC rfl omA omA ?_) | ((with_reducible show yT _ _ _ _ _ _ _ _);refine uY rfl omA omA ?_) | ((with_reducible show yT _ _ _ _ _ _ _ _);refine vM rfl omA omA ?_) | ((with_reducible show yT _ _ _ _ _ _ _ _);refine uA rfl omA omA omA ?_) | ((with_reducible show vE _ _ _ _ _ _ _ _ _ _ _);refine zA2 rfl omA omA ?_) | ((with_reducible show vE _ _ _ _ _ _ _ _ _ _ _);refine vQ rfl omA omA ?_) | ((with_reducible show vE _ _ _ _ _ _ _ _ _ _ _);refine uD rfl omA omA omA ?_) | ((with_reducible show zG _ _ _ 199 _ _);refine zD (zA3) ?_) | ((with_reducible show zG _ _ _ 259 _ _);refine zD (s_l6In) ?_) | (with_reducible refine zF (i:=6) [(0,[],[]),(1,[],[]),(2,[],[]),(3,[],[]),(4,[],[]),(5,[],[]),(6,[],[]),(7,[],[]),(8,[],[]),(9,[],[]),(10,[],[]),(11,[],[]),(12,[],[]),(13,[],[]),(14,[],[]),(15,[],[]),(16,[],[]),(17,[],[]),(18,[],[])] (by kernel_rfl) ?_)) <;> simp [-qt,-qd,-ql,rgs,vD,iv,e1,e1n,e1m]) | ((first | (with_reducible refine zO ?_ ?_) | (with_reducible refine zE ?_ ?_) | (with_reducible refine zA ?_ ?_)) <;> intro qb <;> (have qp:=qb;try simp only [psq] at qp) <;> simp [-qt,-qd,-ql,rgs,vD,iv,e1,e1n,e1m,qb])
   all_goals
    first
    | (have hlt:i < g.waits.length:=(by first | omega | (simp at *; omega))
       rw [zV hlt] at hJ
       first
       | (refine hnx.go (()) ?_ ?_ ?_ ?_ ?_ ?_;omega;(simp [zM hlt hlim]);(simp);exact zK;(first | omega | (simp;omega));(try dsimp only);clear hnx;first | ((try simp only [List.drop_length,Int.toNat_natCast,uI,zJ6] at hJ ⊢);grind) | (simp_all [uI,zJ6];done) | (simp_all;omega))
       | (refine ⟨?_,zK⟩;clear hnx;first | ((try simp only [List.drop_length,Int.toNat_natCast,uI,zJ6] at hJ ⊢);grind) | (simp_all [uI,zJ6];done) | (simp_all;omega)))
    | (obtain rfl:i = g.waits.length:=(by first | omega | (simp at *; omega))
       refine ⟨?_,zK⟩;clear hnx;first | ((try simp only [List.drop_length,Int.toNat_natCast,uI,zJ6] at hJ ⊢);grind) | (simp_all [uI,zJ6];done) | (simp_all;omega))
end Go.AE.Tryz
end
section
/- Contracts of the reference's readers: chains, events, functions, tasks, groups. -/
set_option maxRecDepth 8000
set_option maxHeartbeats 4000000
namespace Go.AE.Tryz
open Go.Proofs
open List renaming map_take → qt,map_drop → qd,map_tail → ql
theorem zM9 {F:Nat → Bool} {p:Bool} {t:List Nod} {s:Spr}:PC ctx.P 106 [.view p 5 (t.map yC),.agg (zC2 F s)] (.bool (vV t && vC s t)):=by
 refine PC.lim (n:=s.work.length) (x:=.agg (zC2 F s)) (by simp) (.agg (x:=.view (F 5) 1 (s.work.map iv)) (by simp [zC2]) (.here (by simp))) ⟨_,Tryz.func106,by kernel_rfl,by kernel_rfl⟩ fun hlim => ?_
 refine PC.lim (n:=t.length) (x:=.view p 5 (t.map yC)) (by simp) (.here (by simp)) ⟨_,Tryz.func106,by kernel_rfl,by kernel_rfl⟩ fun hlim2 => ?_
 refine PC.o okC Tryz.func106 rfl (.bool _) fun h nx hnx => ?_
 try simp [-qt,-qd,-ql,rgs,zC2]
 repeat' first | done | ((first | ((with_reducible show zU _ _ _ _ _ _);refine zB rfl fun _ => ?_) | ((with_reducible show zJ _ _ _ _ _ _ _);refine zC rfl omA omA ?_) | ((with_reducible show zG _ _ _ 198 _ _);refine zD (zG1) ?_)) <;> simp [-qt,-qd,-ql,rgs,zC2]) | ((first | (with_reducible refine zE ?_ ?_) | (with_reducible refine zA ?_ ?_)) <;> intro qb <;> (have qp:=qb;try simp only [psq] at qp) <;> simp [-qt,-qd,-ql,rgs,zC2,qb])
 all_goals first | (clear hnx;simp [vC];grind) | skip
 refine zW [4,5,23,24,25,26,27,28,29,30,31,32,33,34,35,36,37,38,39] (s.work.length) (fun (i:Nat) a=>[(5,.int .i64 i)]) (fun i_ a_ h_ _=>(fun i (_:Unit) _=>((s.work.drop i).any fun n => !vY n t) = s.work.any fun n => !vY n t) i_ a_ h_) (()) (by simp) ?_ zT (Nat.le_refl _) ?_
 ·simp
 ·intro i a tm h' n' hle hJ hE hn' next hnx
  try dsimp only at hJ
  have hK:KeepB nx h' h:=KeepB.sub hE zK (by omega)
  simp [-qt,-qd,-ql]
  have e1:h' (nx) = some (.obj (zC2 F s)):=by have:=hE (nx) (by omega);simpa [zC2] using this
  have e1n:∀ k,((nx) = n' + k) = False:=fun k=>by simp only [eq_iff_iff,iff_false];omega
  have e1m:((nx) = n') = False:=by simp only [eq_iff_iff,iff_false];omega
  try simp [-qt,-qd,-ql,rgs,zC2,iv,yF hlim2,e1,e1n,e1m]
  repeat' first | done | ((first | ((with_reducible show zU _ _ _ _ _ _);refine zB rfl fun _ => ?_) | ((with_reducible show zJ _ _ _ _ _ _ _);refine zC rfl omA omA ?_) | ((with_reducible show zG _ _ _ 199 _ _);refine zD (zA3) ?_)) <;> simp [-qt,-qd,-ql,rgs,zC2,iv,yF hlim2,e1,e1n,e1m]) | ((first | (with_reducible refine zE ?_ ?_) | (with_reducible refine zA ?_ ?_)) <;> intro qb <;> (have qp:=qb;try simp only [psq] at qp) <;> simp [-qt,-qd,-ql,rgs,zC2,iv,yF hlim2,e1,e1n,e1m,qb])
  all_goals
   first
   | (have hlt:i < s.work.length:=(by first | omega | (simp at *; omega))
      rw [zV hlt] at hJ
      first
      | (refine hnx.go (()) ?_ ?_ ?_ ?_ ?_ ?_;omega;(simp [zM hlt hlim]);(simp);exact zK;(first | omega | (simp;omega));(try dsimp only);clear hnx;first | ((try simp only [List.drop_length,Int.toNat_natCast,List.any_cons,List.any_nil,vC,vY] at hJ ⊢);grind) | (simp_all [List.any_cons,List.any_nil,vC,vY];done) | (simp_all;omega))
      | (refine ⟨?_,zK⟩;clear hnx;first | ((try simp only [List.drop_length,Int.toNat_natCast,List.any_cons,List.any_nil,vC,vY] at hJ ⊢);grind) | (simp_all [List.any_cons,List.any_nil,vC,vY];done) | (simp_all;omega)))
   | (obtain rfl:i = s.work.length:=(by first | omega | (simp at *; omega))
      refine ⟨?_,zK⟩;clear hnx;first | ((try simp only [List.drop_length,Int.toNat_natCast,List.any_cons,List.any_nil,vC,vY] at hJ ⊢);grind) | (simp_all [List.any_cons,List.any_nil,vC,vY];done) | (simp_all;omega))
theorem s_AftersOk {F:Nat → Bool} {x:Afs}:PC ctx.P 202 [.agg (zC3 F x)] (.bool (zE0 x)):=by
 refine PC.lim (n:=x.list.length) (x:=.agg (zC3 F x)) (by simp) (.agg (x:=.view (F 10) 5 (x.list.map vO)) (by simp [zC3]) (.here (by simp))) ⟨_,Tryz.func202,by kernel_rfl,by kernel_rfl⟩ fun hlim => ?_
 by_cases hs:zH6 x.slots = true
 ·refine PC.o okC Tryz.func202 rfl (.bool _) fun h nx hnx => ?_
  try simp [-qt,-qd,-ql,rgs,zC3,hs]
  repeat' first | done | ((first | ((with_reducible show zU _ _ _ _ _ _);refine zB rfl fun _ => ?_) | ((with_reducible show zJ _ _ _ _ _ _ _);refine zC rfl omA omA ?_) | ((with_reducible show zG _ _ _ 277 _ _);refine zD (zM4 (s:=x.slots) (F:=F)) ?_) | ((with_reducible show zG _ _ _ 278 _ _);refine zD (s_UsedIn (s:=x.slots) (F:=F)) ?_) | (with_reducible refine zF (i:=1) [(0,[],[]),(1,[],[]),(2,[],[]),(3,[],[]),(4,[],[]),(5,[],[]),(6,[],[]),(7,[],[]),(8,[],[]),(9,[],[]),(10,[.tmp 11],[]),(11,[],[]),(12,[],[])] (by kernel_rfl) ?_) | (with_reducible refine zF (i:=12) [(0,[],[]),(1,[],[]),(2,[],[]),(3,[],[]),(4,[],[]),(5,[],[]),(6,[],[]),(7,[],[]),(8,[],[])] (by kernel_rfl) ?_)) <;> simp [-qt,-qd,-ql,rgs,zC3,hs]) | ((first | (with_reducible refine zO ?_ ?_) | (with_reducible refine zE ?_ ?_) | (with_reducible refine zA ?_ ?_)) <;> intro qb <;> (have qp:=qb;try simp only [psq] at qp) <;> simp [-qt,-qd,-ql,rgs,zC3,hs,qb])
  ·simp only [zE0];grind
  refine zW [2,3,4,5,19,20,21,22,23,24,25,26,27,28,29,30,31,32,33,34,35,36,37,38,39,40,41,42,43,44,45,46,47,48,49,50,51,52,53,54,55,56,57,58,59,60,61,62] (x.list.length) (fun (i:Nat) a=>[(3,.int .i64 i)]) (fun i_ a_ h_ _=>(fun (i:Nat) (_:Unit) _=>uI (fun i y=>zB1 y.node y.fn && (vT x.slots y.han && afsAt x.list y.han == i)) (x.list.drop i) i = uI (fun i y=>zB1 y.node y.fn && (vT x.slots y.han && afsAt x.list y.han == i)) x.list 0) i_ a_ h_) (()) (by simp) ?_ zT (Nat.le_refl _) ?_
  ·simp
  ·intro i a tm h' n' hle hJ hE hn' next hnx
   try dsimp only at hJ
   have hK:KeepB nx h' h:=KeepB.sub hE zK (by omega)
   simp [-qt,-qd,-ql]
   have e1:h' (nx) = some (.obj (zC3 F x)):=by have:=hE (nx) (by omega);simpa [zC3] using this
   have e1n:∀ k,((nx) = n' + k) = False:=fun k=>by simp only [eq_iff_iff,iff_false];omega
   have e1m:((nx) = n') = False:=by simp only [eq_iff_iff,iff_false];omega
   try simp [-qt,-qd,-ql,rgs,zC3,vO,e1,e1n,e1m,hs]
   repeat' first | done | ((first | ((with_reducible show zU _ _ _ _ _ _);refine zB rfl fun _ => ?_) | ((with_reducible show zJ _ _ _ _ _ _ _);refine zC rfl omA omA ?_) | ((with_reducible show zG _ _ _ 279 _ _);refine zD (s_Holds (s:=x.slots) (F:=F) (x:=(gt x.list (i:Int)).han)) ?_) | ((with_reducible show zG _ _ _ 199 _ _);refine zD (zA3) ?_) | (with_reducible refine zF (i:=1) [(0,[],[]),(1,[],[]),(2,[],[]),(3,[],[]),(4,[],[]),(5,[],[]),(6,[],[]),(7,[],[]),(8,[],[]),(9,[],[]),(10,[.tmp 11],[]),(11,[],[]),(12,[],[])] (by kernel_rfl) ?_) | (with_reducible refine zF (i:=12) [(0,[],[]),(1,[],[]),(2,[],[]),(3,[],[]),(4,[],[]),(5,[],[]),(6,[],[]),(7,[],[]),(8,[],[])] (by kernel_rfl) ?_)) <;> simp [-qt,-qd,-ql,rgs,zC3,vO,e1,e1n,e1m,hs]) | ((first | (with_reducible refine zO ?_ ?_) | (with_reducible refine zE ?_ ?_) | (with_reducible refine zA ?_ ?_)) <;> intro qb <;> (have qp:=qb;try simp only [psq] at qp) <;> simp [-qt,-qd,-ql,rgs,zC3,vO,e1,e1n,e1m,hs,qb])
   ·have hlt:i < x.list.length:=(by omega)
    rw [zV hlt] at hJ
    refine ⟨?_,zK⟩;clear hnx;simp only [uI] at hJ;simp only [zE0];grind
   ·have hlt:i < x.list.length:=(by omega)
    rw [zV hlt] at hJ
    refine ⟨?_,zK⟩;clear hnx;simp only [uI,zB1] at hJ;simp only [zE0,zB1];grind
   ·have hlt:i < x.list.length:=(by omega)
    rw [zV hlt] at hJ
    refine ⟨?_,zK⟩;clear hnx;simp only [uI,zB1] at hJ;simp only [zE0,zB1];grind
   ·have hlt:i < x.list.length:=(by omega)
    rw [zV hlt] at hJ
    refine zW [2,5,49,50,51,52,53,54,55,56,57,58,59,60,61,62] (i) (fun (i:Nat) a=>[(5,.int .i64 i)]) (fun i_ a_ h_ _=>(fun (j:Nat) (_:Unit) _=>yW (fun y=>y.han == (gt x.list (i:Int)).han) ((x.list.take i).drop j) j = yW (fun y=>y.han == (gt x.list (i:Int)).han) (x.list.take i) 0) i_ a_ h_) (()) (by simp) ?_ zT (Nat.le_refl _) ?_
    ·simp
    ·intro j b tm2 h2 n2 hle2 hJ2 hE2 hn2 next2 hnx2
     try dsimp only at hJ2
     have hK2:KeepB nx h2 h:=KeepB.sub hE2 zK (by omega)
     simp [-qt,-qd,-ql]
     have e2:h2 (nx) = some (.obj (zC3 F x)):=by have:=hE2 (nx) (by omega);simpa [e1,e1n,e1m,zC3] using this
     have e2n:∀ k,((nx) = n2 + k) = False:=fun k=>by simp only [eq_iff_iff,iff_false];omega
     have e2m:((nx) = n2) = False:=by simp only [eq_iff_iff,iff_false];omega
     have e3:h2 (n' + 10) = some (.obj (vO (gt x.list (i:Int)))):=by have:=hE2 (n' + 10) (by omega);simpa [vO] using this
     have e3n:∀ k,((n' + 10) = n2 + k) = False:=fun k=>by simp only [eq_iff_iff,iff_false];omega
     have e3m:((n' + 10) = n2) = False:=by simp only [eq_iff_iff,iff_false];omega
     try simp [-qt,-qd,-ql,rgs,zC3,vO,e2,e2n,e2m,e3,e3n,e3m,zG8,lfOf,uT,cellEq]
     repeat' first | done | ((first | ((with_reducible show zU _ _ _ _ _ _);refine zB rfl fun _ => ?_) | ((with_reducible show zJ _ _ _ _ _ _ _);refine zC rfl omA omA ?_) | (with_reducible refine zF (i:=1) [(0,[],[]),(1,[],[]),(2,[],[]),(3,[],[]),(4,[],[]),(5,[],[]),(6,[],[]),(7,[],[]),(8,[],[]),(9,[],[]),(10,[.tmp 11],[]),(11,[],[]),(12,[],[])] (by kernel_rfl) ?_) | (with_reducible refine zF (i:=12) [(0,[],[]),(1,[],[]),(2,[],[]),(3,[],[]),(4,[],[]),(5,[],[]),(6,[],[]),(7,[],[]),(8,[],[])] (by kernel_rfl) ?_)) <;> simp [-qt,-qd,-ql,rgs,zC3,vO,e2,e2n,e2m,e3,e3n,e3m,zG8,lfOf,uT,cellEq]) | ((first | (with_reducible refine zO ?_ ?_) | (with_reducible refine zE ?_ ?_) | (with_reducible refine zA ?_ ?_)) <;> intro qb <;> (have qp:=qb;try simp only [psq] at qp) <;> simp [-qt,-qd,-ql,rgs,zC3,vO,e2,e2n,e2m,e3,e3n,e3m,zG8,lfOf,uT,cellEq,qb])
     ·rw [han_eq] at qb
      have r:=idx_here (by omega) (by omega) hJ2 qb
      have hh:=afsAt_here hlt
      rw [r] at hh
      refine ⟨?_,zK⟩;clear hnx hnx2;simp only [uI,zB1] at hJ;simp only [zE0,zB1];grind
     ·rw [han_eq] at qb
      refine hnx2.go () (by omega) (by simp [zM (show j < x.list.length by omega) hlim]) (by simp) zK (by first | omega | (simp;omega)) ?_
      exact idx_on (by omega) (by omega) hJ2 qb
     ·have r:=idx_end (by omega) hJ2
      have hh:=afsAt_here hlt
      rw [r] at hh
      refine hnx.go () (by omega) (by simp [zM hlt hlim]) (by simp) zK (by first | omega | (simp;omega)) ?_
      clear hnx hnx2;dsimp only;simp only [uI,zB1] at hJ ⊢; grind
   ·refine ⟨?_,zK⟩;rw [List.drop_eq_nil_of_le (by omega)] at hJ;clear hnx;simp only [uI] at hJ;simp only [zE0];grind
 ·refine PC.o okC Tryz.func202 rfl (.bool _) fun h nx hnx => ?_
  try simp [-qt,-qd,-ql,rgs,zC3,hs]
  repeat' first | done | ((first | ((with_reducible show zU _ _ _ _ _ _);refine zB rfl fun _ => ?_) | ((with_reducible show zJ _ _ _ _ _ _ _);refine zC rfl omA omA ?_) | ((with_reducible show zG _ _ _ 277 _ _);refine zD (zM4 (s:=x.slots) (F:=F)) ?_) | (with_reducible refine zF (i:=1) [(0,[],[]),(1,[],[]),(2,[],[]),(3,[],[]),(4,[],[]),(5,[],[]),(6,[],[]),(7,[],[]),(8,[],[]),(9,[],[]),(10,[.tmp 11],[]),(11,[],[]),(12,[],[])] (by kernel_rfl) ?_) | (with_reducible refine zF (i:=12) [(0,[],[]),(1,[],[]),(2,[],[]),(3,[],[]),(4,[],[]),(5,[],[]),(6,[],[]),(7,[],[]),(8,[],[])] (by kernel_rfl) ?_)) <;> simp [-qt,-qd,-ql,rgs,zC3,hs]) | ((first | (with_reducible refine zO ?_ ?_) | (with_reducible refine zE ?_ ?_) | (with_reducible refine zA ?_ ?_)) <;> intro qb <;> (have qp:=qb;try simp only [psq] at qp) <;> simp [-qt,-qd,-ql,rgs,zC3,hs,qb])
  all_goals (try clear hnx)
  all_goals first | (simp_all [zE0];done) | (simp_all [zE0];omega) | (rw [Bool.eq_iff_iff];simp_all [zE0];done) | (rw [Bool.eq_iff_iff];simp_all [zE0];omega) | omega | (simp only [zE0];grind) | grind
end Go.AE.Tryz
end
section
/- Contracts of the reference's readers: worlds. -/
set_option maxRecDepth 8000
set_option maxHeartbeats 4000000
namespace Go.AE.Tryz
open Go.Proofs
open List renaming map_take → qt,map_drop → qd,map_tail → ql
theorem s_Numbers {p:Bool} {l:List Int} {m:Int}:PC ctx.P 112 [.view p 1 (l.map iv),.int .i64 m] (.bool (zP7 (fun n=>inR n 0 m) l && decide (l.length ≤ 2000))):=by
 refine PC.lim (n:=l.length) (x:=.view p 1 (l.map iv)) (by simp) (.here (by simp)) ⟨_,Tryz.func112,by kernel_rfl,by kernel_rfl⟩ fun hlim => ?_
 refine PC.o okC Tryz.func112 rfl (.bool _) fun h nx hnx => ?_
 try simp [-qt,-qd,-ql,rgs]
 repeat' first | done | ((first | ((with_reducible show zU _ _ _ _ _ _);refine zB rfl fun _ => ?_) | ((with_reducible show zJ _ _ _ _ _ _ _);refine zC rfl omA omA ?_)) <;> simp [-qt,-qd,-ql,rgs]) | ((first | (with_reducible refine zA ?_ ?_)) <;> intro qb <;> (have qp:=qb;try simp only [psq] at qp) <;> simp [-qt,-qd,-ql,rgs,qb])
 refine zW [4,5,6,7,8,9,10,11,12,13,14,15,16,17,18] (l.length) (fun (i:Nat) a=>[(5,.int .i64 i)]) (fun i_ a_ h_ _=>(fun i (_:Unit) _=>zP7 (fun n=>inR n 0 m) (l.drop i) = zP7 (fun n=>inR n 0 m) l) i_ a_ h_) (()) (by simp) ?_ zT (Nat.le_refl _) ?_
 ·simp
 ·intro i a tm h' n' hle hJ hE hn' next hnx
  try dsimp only at hJ
  have hK:KeepB nx h' h:=KeepB.sub hE zK (by omega)
  simp [-qt,-qd,-ql]
  try simp [-qt,-qd,-ql,rgs,iv]
  repeat' first | done | ((first | ((with_reducible show zU _ _ _ _ _ _);refine zB rfl fun _ => ?_) | ((with_reducible show zJ _ _ _ _ _ _ _);refine zC rfl omA omA ?_) | ((with_reducible show zG _ _ _ 199 _ _);refine zD (zA3) ?_)) <;> simp [-qt,-qd,-ql,rgs,iv]) | ((first | (with_reducible refine zA ?_ ?_)) <;> intro qb <;> (have qp:=qb;try simp only [psq] at qp) <;> simp [-qt,-qd,-ql,rgs,iv,qb])
  all_goals
   first
   | (have hlt:i < l.length:=(by first | omega | (simp at *; omega))
      rw [zV hlt] at hJ
      first
      | (refine hnx.go (()) ?_ ?_ ?_ ?_ ?_ ?_;omega;(simp [zM hlt hlim]);(simp);exact zK;(first | omega | (simp;omega));(try dsimp only);clear hnx;first | ((try simp only [List.drop_length,Int.toNat_natCast,zX,yH] at hJ ⊢);grind) | (simp_all [zX,yH];done) | (simp_all;omega))
      | (refine ⟨?_,zK⟩;clear hnx;first | ((try simp only [List.drop_length,Int.toNat_natCast,zX,yH] at hJ ⊢);grind) | (simp_all [zX,yH];done) | (simp_all;omega)))
   | (obtain rfl:i = l.length:=(by first | omega | (simp at *; omega))
      refine ⟨?_,zK⟩;clear hnx;first | ((try simp only [List.drop_length,Int.toNat_natCast,zX,yH] at hJ ⊢);grind) | (simp_all [zX,yH];done) | (simp_all;omega))
theorem s_Progs {p r:Bool} {l:List (List Inn)}:PC ctx.P 104 [.view p 1 (l.map (zD2 r))] (.bool (zP7 zE4 l && decide (l.length ≤ 8))):=by
 refine PC.lim (n:=l.length) (x:=.view p 1 (l.map (zD2 r))) (by simp) (.here (by simp)) ⟨_,Tryz.func104,by kernel_rfl,by kernel_rfl⟩ fun hlim => ?_
 refine PC.o okC Tryz.func104 rfl (.bool _) fun h nx hnx => ?_
 try simp [-qt,-qd,-ql,rgs]
 repeat' first | done | ((first | ((with_reducible show zU _ _ _ _ _ _);refine zB rfl fun _ => ?_) | ((with_reducible show zJ _ _ _ _ _ _ _);refine zC rfl omA omA ?_)) <;> simp [-qt,-qd,-ql,rgs]) | ((first | (with_reducible refine zA ?_ ?_)) <;> intro qb <;> (have qp:=qb;try simp only [psq] at qp) <;> simp [-qt,-qd,-ql,rgs,qb])
 refine zW [2,3,4,5,6,7,8,9,10,11,12,13,14,15] (l.length) (fun (i:Nat) a=>[(3,.int .i64 i)]) (fun i_ a_ h_ _=>(fun i (_:Unit) _=>zP7 zE4 (l.drop i) = zP7 zE4 l) i_ a_ h_) (()) (by simp) ?_ zT (Nat.le_refl _) ?_
 ·simp
 ·intro i a tm h' n' hle hJ hE hn' next hnx
  try dsimp only at hJ
  have hK:KeepB nx h' h:=KeepB.sub hE zK (by omega)
  simp [-qt,-qd,-ql]
  try simp [-qt,-qd,-ql,rgs,zD2]
  repeat' first | done | ((first | ((with_reducible show zU _ _ _ _ _ _);refine zB rfl fun _ => ?_) | ((with_reducible show zJ _ _ _ _ _ _ _);refine zC rfl omA omA ?_) | ((with_reducible show zG _ _ _ 196 _ _);refine zD (s_ProgOk) ?_)) <;> simp [-qt,-qd,-ql,rgs,zD2]) | ((first | (with_reducible refine zA ?_ ?_)) <;> intro qb <;> (have qp:=qb;try simp only [psq] at qp) <;> simp [-qt,-qd,-ql,rgs,zD2,qb])
  all_goals
   first
   | (have hlt:i < l.length:=(by first | omega | (simp at *; omega))
      rw [zV hlt] at hJ
      first
      | (refine hnx.go (()) ?_ ?_ ?_ ?_ ?_ ?_;omega;(simp [zM hlt hlim]);(simp);exact zK;(first | omega | (simp;omega));(try dsimp only);clear hnx;first | ((try simp only [List.drop_length,Int.toNat_natCast,zX,yH] at hJ ⊢);grind) | (simp_all [zX,yH];done) | (simp_all;omega))
      | (refine ⟨?_,zK⟩;clear hnx;first | ((try simp only [List.drop_length,Int.toNat_natCast,zX,yH] at hJ ⊢);grind) | (simp_all [zX,yH];done) | (simp_all;omega)))
   | (obtain rfl:i = l.length:=(by first | omega | (simp at *; omega))
      refine ⟨?_,zK⟩;clear hnx;first | ((try simp only [List.drop_length,Int.toNat_natCast,zX,yH] at hJ ⊢);grind) | (simp_all [zX,yH];done) | (simp_all;omega))
theorem s_Node {F:Nat → Bool} {w:Wld} {n:Int}:PC ctx.P 200 [.agg (wldV F w),.int .i64 n] (.bool (vY n w.tree)):=by
 refine PC.lim (n:=w.tree.length) (x:=.agg (wldV F w)) (by simp) (.agg (x:=.view (F 2) 5 (w.tree.map yC)) (by simp [wldV]) (.here (by simp))) ⟨_,Tryz.func200,by kernel_rfl,by kernel_rfl⟩ fun hlim => ?_
 refine PC.o okC Tryz.func200 rfl (.bool _) fun h nx hnx => ?_
 try simp [-qt,-qd,-ql,rgs,wldV,yF hlim,vY]
 repeat' first | done | ((first | ((with_reducible show zU _ _ _ _ _ _);refine zB rfl fun _ => ?_) | ((with_reducible show zG _ _ _ 199 _ _);refine zD (zA3) ?_)) <;> simp [-qt,-qd,-ql,rgs,wldV,yF hlim,vY])
theorem s_Task {F:Nat → Bool} {w:Wld} {n:Int}:PC ctx.P 201 [.agg (wldV F w),.int .i64 n] (.bool (vY n w.tasks)):=by
 refine PC.lim (n:=w.tasks.length) (x:=.agg (wldV F w)) (by simp) (.agg (x:=.view (F 11) 9 (w.tasks.map vU)) (by simp [wldV]) (.here (by simp))) ⟨_,Tryz.func201,by kernel_rfl,by kernel_rfl⟩ fun hlim => ?_
 refine PC.o okC Tryz.func201 rfl (.bool _) fun h nx hnx => ?_
 try simp [-qt,-qd,-ql,rgs,wldV,yF hlim,vY]
 repeat' first | done | ((first | ((with_reducible show zU _ _ _ _ _ _);refine zB rfl fun _ => ?_) | ((with_reducible show zG _ _ _ 199 _ _);refine zD (zA3) ?_)) <;> simp [-qt,-qd,-ql,rgs,wldV,yF hlim,vY])
theorem s_Group {F:Nat → Bool} {w:Wld} {n:Int}:PC ctx.P 204 [.agg (wldV F w),.int .i64 n] (.bool (vY n w.groups)):=by
 refine PC.lim (n:=w.groups.length) (x:=.agg (wldV F w)) (by simp) (.agg (x:=.view (F 12) 5 (w.groups.map (vD (F 13)))) (by simp [wldV]) (.here (by simp))) ⟨_,Tryz.func204,by kernel_rfl,by kernel_rfl⟩ fun hlim => ?_
 refine PC.o okC Tryz.func204 rfl (.bool _) fun h nx hnx => ?_
 try simp [-qt,-qd,-ql,rgs,wldV,yF hlim,vY]
 repeat' first | done | ((first | ((with_reducible show zU _ _ _ _ _ _);refine zB rfl fun _ => ?_) | ((with_reducible show zG _ _ _ 199 _ _);refine zD (zA3) ?_)) <;> simp [-qt,-qd,-ql,rgs,wldV,yF hlim,vY])
theorem s_Events {F:Nat → Bool} {w:Wld}:PC ctx.P 105 [.agg (wldV F w)] (.bool (yM w.tree w.events && w.events.all (fun e=>inR e.time 0 w.now))):=by
 refine PC.lim (n:=w.events.length) (x:=.agg (wldV F w)) (by simp) (.agg (x:=.view (F 3) 4 (w.events.map yS)) (by simp [wldV]) (.here (by simp))) ⟨_,Tryz.func105,by kernel_rfl,by kernel_rfl⟩ fun hlim => ?_
 rw [evTimes_eq]
 refine PC.o okC Tryz.func105 rfl (.bool _) fun h nx hnx => ?_
 try simp [-qt,-qd,-ql,rgs,wldV,yS,yF hlim]
 repeat' first | done | ((first | ((with_reducible show zU _ _ _ _ _ _);refine zB rfl fun _ => ?_) | ((with_reducible show zJ _ _ _ _ _ _ _);refine zC rfl omA omA ?_) | ((with_reducible show zG _ _ _ 197 _ _);refine zD (s_EventsOk) ?_) | (with_reducible refine zF (i:=2) [(0,[],[]),(1,[],[]),(2,[],[]),(3,[],[]),(4,[],[]),(5,[],[]),(6,[],[]),(7,[],[]),(8,[],[]),(9,[],[]),(10,[],[]),(11,[],[]),(12,[],[]),(13,[],[]),(14,[],[]),(15,[],[]),(16,[],[]),(17,[],[]),(18,[],[]),(19,[],[]),(20,[],[]),(21,[],[]),(22,[],[]),(23,[],[]),(24,[],[]),(25,[],[]),(26,[],[]),(27,[],[]),(28,[],[]),(29,[],[])] (by kernel_rfl) ?_)) <;> simp [-qt,-qd,-ql,rgs,wldV,yS,yF hlim]) | ((first | (with_reducible refine zO ?_ ?_)) <;> intro qb <;> (have qp:=qb;try simp only [psq] at qp) <;> simp [-qt,-qd,-ql,rgs,wldV,yS,yF hlim,qb])
 all_goals (try clear hnx)
 all_goals first | (simp_all [];done) | (simp_all [];omega) | (rw [Bool.eq_iff_iff];simp_all [];done) | (rw [Bool.eq_iff_iff];simp_all [];omega) | omega | (simp only [];grind) | grind
theorem s_Timers {F:Nat → Bool} {w:Wld}:PC ctx.P 107 [.agg (wldV F w)] (.bool (uL w.timers && zP7 (zB3 w) w.timers.list)):=by
 refine PC.lim (n:=w.timers.list.length) (x:=.agg (wldV F w)) (by simp) (.agg (x:=.view (F 7) 5 (w.timers.list.map vJ)) (by simp [wldV]) (.here (by simp))) ⟨_,Tryz.func107,by kernel_rfl,by kernel_rfl⟩ fun hlim => ?_
 refine PC.o okC Tryz.func107 rfl (.bool _) fun h nx hnx => ?_
 try simp [-qt,-qd,-ql,rgs,wldV]
 repeat' first | done | ((first | ((with_reducible show zU _ _ _ _ _ _);refine zB rfl fun _ => ?_) | ((with_reducible show zJ _ _ _ _ _ _ _);refine zC rfl omA omA ?_) | ((with_reducible show zG _ _ _ 122 _ _);refine zD (s_TimersOk (t:=w.timers) (F:=F)) ?_)) <;> simp [-qt,-qd,-ql,rgs,wldV]) | ((first | (with_reducible refine zE ?_ ?_) | (with_reducible refine zA ?_ ?_)) <;> intro qb <;> (have qp:=qb;try simp only [psq] at qp) <;> simp [-qt,-qd,-ql,rgs,wldV,qb])
 all_goals first | (clear hnx;simp_all;done) | skip
 refine zW [2,3,4,9,10,11,12,13,14,15,16,17,18,19,20,21,22,23,24,25,26,27,28,29,30,31,32,33,34,35,36,37,38,39,40,41,42,43,44] (w.timers.list.length) (fun (i:Nat) a=>[(3,.int .i64 i)]) (fun i_ a_ h_ _=>(fun i (_:Unit) _=>zP7 (zB3 w) (w.timers.list.drop i) = zP7 (zB3 w) w.timers.list) i_ a_ h_) (()) (by simp) ?_ zT (Nat.le_refl _) ?_
 ·simp
 ·intro i a tm h' n' hle hJ hE hn' next hnx
  try dsimp only at hJ
  have hK:KeepB nx h' h:=KeepB.sub hE zK (by omega)
  simp [-qt,-qd,-ql]
  have e1:h' (nx) = some (.obj (wldV F w)):=by have:=hE (nx) (by omega);simpa [wldV] using this
  have e1n:∀ k,((nx) = n' + k) = False:=fun k=>by simp only [eq_iff_iff,iff_false];omega
  have e1m:((nx) = n') = False:=by simp only [eq_iff_iff,iff_false];omega
  try simp [-qt,-qd,-ql,rgs,wldV,vJ,e1,e1n,e1m]
  repeat' first | done | ((first | ((with_reducible show zU _ _ _ _ _ _);refine zB rfl fun _ => ?_) | ((with_reducible show zJ _ _ _ _ _ _ _);refine zC rfl omA omA ?_) | ((with_reducible show zG _ _ _ 200 _ _);refine zD (s_Node (w:=w) (F:=F)) ?_) | ((with_reducible show zG _ _ _ 201 _ _);refine zD (s_Task (w:=w) (F:=F)) ?_)) <;> simp [-qt,-qd,-ql,rgs,wldV,vJ,e1,e1n,e1m]) | ((first | (with_reducible refine zE ?_ ?_) | (with_reducible refine zA ?_ ?_)) <;> intro qb <;> (have qp:=qb;try simp only [psq] at qp) <;> simp [-qt,-qd,-ql,rgs,wldV,vJ,e1,e1n,e1m,qb])
  all_goals
   first
   | (have hlt:i < w.timers.list.length:=(by first | omega | (simp at *; omega))
      rw [zV hlt] at hJ
      first
      | (refine hnx.go (()) ?_ ?_ ?_ ?_ ?_ ?_;omega;(simp [zM hlt hlim]);(simp);exact zK;(first | omega | (simp;omega));(try dsimp only);clear hnx;first | ((try simp only [List.drop_length,Int.toNat_natCast,zX,yH,zB3] at hJ ⊢);grind) | (simp_all [zX,yH,zB3];done) | (simp_all;omega))
      | (refine ⟨?_,zK⟩;clear hnx;first | ((try simp only [List.drop_length,Int.toNat_natCast,zX,yH,zB3] at hJ ⊢);grind) | (simp_all [zX,yH,zB3];done) | (simp_all;omega)))
   | (obtain rfl:i = w.timers.list.length:=(by first | omega | (simp at *; omega))
      refine ⟨?_,zK⟩;clear hnx;first | ((try simp only [List.drop_length,Int.toNat_natCast,zX,yH,zB3] at hJ ⊢);grind) | (simp_all [zX,yH,zB3];done) | (simp_all;omega))
theorem s_Afters {F:Nat → Bool} {w:Wld}:PC ctx.P 108 [.agg (wldV F w)] (.bool (zP7 (fun a=>vY a.node w.tree) w.afters.list && zE0 w.afters)):=by
 refine PC.lim (n:=w.afters.list.length) (x:=.agg (wldV F w)) (by simp) (.agg (x:=.view (F 10) 5 (w.afters.list.map vO)) (by simp [wldV]) (.here (by simp))) ⟨_,Tryz.func108,by kernel_rfl,by kernel_rfl⟩ fun hlim => ?_
 refine PC.o okC Tryz.func108 rfl (.bool _) fun h nx hnx => ?_
 try simp [-qt,-qd,-ql,rgs,wldV]
 repeat' first | done | ((first | ((with_reducible show zU _ _ _ _ _ _);refine zB rfl fun _ => ?_) | ((with_reducible show zJ _ _ _ _ _ _ _);refine zC rfl omA omA ?_) | (with_reducible refine zF (i:=4) [(0,[],[]),(1,[],[]),(2,[],[]),(3,[],[]),(4,[],[]),(5,[],[]),(6,[],[]),(7,[],[]),(8,[],[]),(9,[],[])] (by kernel_rfl) ?_)) <;> simp [-qt,-qd,-ql,rgs,wldV]) | ((first | (with_reducible refine zA ?_ ?_)) <;> intro qb <;> (have qp:=qb;try simp only [psq] at qp) <;> simp [-qt,-qd,-ql,rgs,wldV,qb])
 refine zW [2,3,4,5,6,7,8,9,10,11,12,13,14,15,16,17,18,19,20,21] (w.afters.list.length) (fun (i:Nat) a=>[(3,.int .i64 i)]) (fun i_ a_ h_ _=>(fun i (_:Unit) _=>zP7 (fun a=>vY a.node w.tree) (w.afters.list.drop i) = zP7 (fun a=>vY a.node w.tree) w.afters.list) i_ a_ h_) (()) (by simp) ?_ zT (Nat.le_refl _) ?_
 ·simp
 ·intro i a tm h' n' hle hJ hE hn' next hnx
  try dsimp only at hJ
  have hK:KeepB nx h' h:=KeepB.sub hE zK (by omega)
  simp [-qt,-qd,-ql]
  have e1:h' (nx) = some (.obj (wldV F w)):=by have:=hE (nx) (by omega);simpa [wldV] using this
  have e1n:∀ k,((nx) = n' + k) = False:=fun k=>by simp only [eq_iff_iff,iff_false];omega
  have e1m:((nx) = n') = False:=by simp only [eq_iff_iff,iff_false];omega
  try simp [-qt,-qd,-ql,rgs,wldV,vO,e1,e1n,e1m]
  repeat' first | done | ((first | ((with_reducible show zU _ _ _ _ _ _);refine zB rfl fun _ => ?_) | ((with_reducible show zJ _ _ _ _ _ _ _);refine zC rfl omA omA ?_) | ((with_reducible show zG _ _ _ 200 _ _);refine zD (s_Node (w:=w) (F:=F)) ?_) | ((with_reducible show zG _ _ _ 202 _ _);refine zD (s_AftersOk (x:=w.afters) (F:=F)) ?_) | (with_reducible refine zF (i:=4) [(0,[],[]),(1,[],[]),(2,[],[]),(3,[],[]),(4,[],[]),(5,[],[]),(6,[],[]),(7,[],[]),(8,[],[]),(9,[],[])] (by kernel_rfl) ?_)) <;> simp [-qt,-qd,-ql,rgs,wldV,vO,e1,e1n,e1m]) | ((first | (with_reducible refine zA ?_ ?_)) <;> intro qb <;> (have qp:=qb;try simp only [psq] at qp) <;> simp [-qt,-qd,-ql,rgs,wldV,vO,e1,e1n,e1m,qb])
  all_goals
   first
   | (have hlt:i < w.afters.list.length:=(by first | omega | (simp at *; omega))
      rw [zV hlt] at hJ
      first
      | (refine hnx.go (()) ?_ ?_ ?_ ?_ ?_ ?_;omega;(simp [zM hlt hlim]);(simp);exact zK;(first | omega | (simp;omega));(try dsimp only);clear hnx;first | ((try simp only [List.drop_length,Int.toNat_natCast,zX,yH] at hJ ⊢);grind) | (simp_all [zX,yH];done) | (simp_all;omega))
      | (refine ⟨?_,zK⟩;clear hnx;first | ((try simp only [List.drop_length,Int.toNat_natCast,zX,yH] at hJ ⊢);grind) | (simp_all [zX,yH];done) | (simp_all;omega)))
   | (obtain rfl:i = w.afters.list.length:=(by first | omega | (simp at *; omega))
      refine ⟨?_,zK⟩;clear hnx;first | ((try simp only [List.drop_length,Int.toNat_natCast,zX,yH] at hJ ⊢);grind) | (simp_all [zX,yH];done) | (simp_all;omega))
end Go.AE.Tryz
end
section
/- Contracts of the reference's readers: worlds. -/
set_option maxRecDepth 8000
set_option maxHeartbeats 4000000
namespace Go.AE.Tryz
open Go.Proofs
open List renaming map_take → qt,map_drop → qd,map_tail → ql
theorem s_Tasks {F:Nat → Bool} {w:Wld}:PC ctx.P 109 [.agg (wldV F w)] (.bool (uZ w.tasks && zP7 (zD7 w) w.tasks)):=by
 refine PC.lim (n:=w.tasks.length) (x:=.agg (wldV F w)) (by simp) (.agg (x:=.view (F 11) 9 (w.tasks.map vU)) (by simp [wldV]) (.here (by simp))) ⟨_,Tryz.func109,by kernel_rfl,by kernel_rfl⟩ fun hlim => ?_
 by_cases ht:uZ w.tasks = true
 ·refine PC.o okC Tryz.func109 rfl (.bool _) fun h nx hnx => ?_
  try simp [-qt,-qd,-ql,rgs,wldV,ht]
  repeat' first | done | ((first | ((with_reducible show zU _ _ _ _ _ _);refine zB rfl fun _ => ?_) | ((with_reducible show zJ _ _ _ _ _ _ _);refine zC rfl omA omA ?_) | ((with_reducible show zG _ _ _ 203 _ _);refine zD (s_TasksOk) ?_) | (with_reducible refine zF (i:=7) [(0,[],[]),(1,[],[]),(2,[],[]),(3,[],[]),(4,[],[]),(5,[],[]),(6,[],[]),(7,[],[]),(8,[],[]),(9,[],[]),(10,[],[]),(11,[],[]),(12,[],[]),(13,[],[]),(14,[],[]),(15,[],[]),(16,[],[]),(17,[],[]),(18,[],[]),(19,[],[]),(20,[],[]),(21,[],[]),(22,[],[]),(23,[],[]),(24,[],[]),(25,[],[])] (by kernel_rfl) ?_)) <;> simp [-qt,-qd,-ql,rgs,wldV,ht]) | ((first | (with_reducible refine zO ?_ ?_) | (with_reducible refine zE ?_ ?_) | (with_reducible refine zA ?_ ?_)) <;> intro qb <;> (have qp:=qb;try simp only [psq] at qp) <;> simp [-qt,-qd,-ql,rgs,wldV,ht,qb])
  refine zW [2,3,4,9,10,11,12,13,14,15,16,17,18,19,20,21,22,23,24,25,26,27,28,29,30,31,32,33,34,35,36,37,38,39,40,41,42,43,44,45,46,47,48,49,50,51,52,53,54,55,56,57,58,59,60,61,62,63,64,65,66,67,68,69,70,71,72,73,74,75,76,77,78] (w.tasks.length) (fun (i:Nat) a=>[(3,.int .i64 i)]) (fun i_ a_ h_ _=>(fun i (_:Unit) _=>zP7 (zD7 w) (w.tasks.drop i) = zP7 (zD7 w) w.tasks) i_ a_ h_) (()) (by simp) ?_ zT (Nat.le_refl _) ?_
  ·simp
  ·intro i a tm h' n' hle hJ hE hn' next hnx
   try dsimp only at hJ
   have hK:KeepB nx h' h:=KeepB.sub hE zK (by omega)
   simp [-qt,-qd,-ql]
   have e1:h' (nx) = some (.obj (wldV F w)):=by have:=hE (nx) (by omega);simpa [wldV] using this
   have e1n:∀ k,((nx) = n' + k) = False:=fun k=>by simp only [eq_iff_iff,iff_false];omega
   have e1m:((nx) = n') = False:=by simp only [eq_iff_iff,iff_false];omega
   by_cases hi:i < w.tasks.length
   ·have hf:=tskOk_facts (tasksOk_at ht (show (0:Int) ≤ (i:Int) by omega) (by omega))
    try simp [-qt,-qd,-ql,rgs,wldV,vU,zD2,e1,e1n,e1m]
    repeat' first | done | ((first | ((with_reducible show zU _ _ _ _ _ _);refine zB rfl fun _ => ?_) | ((with_reducible show zJ _ _ _ _ _ _ _);refine zC rfl omA omA ?_) | ((with_reducible show zG _ _ _ 200 _ _);refine zD (s_Node (w:=w) (F:=F)) ?_) | ((with_reducible show zG _ _ _ 204 _ _);refine zD (s_Group (w:=w) (F:=F)) ?_) | (with_reducible refine zF (i:=7) [(0,[],[]),(1,[],[]),(2,[],[]),(3,[],[]),(4,[],[]),(5,[],[]),(6,[],[]),(7,[],[]),(8,[],[]),(9,[],[]),(10,[],[]),(11,[],[]),(12,[],[]),(13,[],[]),(14,[],[]),(15,[],[]),(16,[],[]),(17,[],[]),(18,[],[]),(19,[],[]),(20,[],[]),(21,[],[]),(22,[],[]),(23,[],[]),(24,[],[]),(25,[],[])] (by kernel_rfl) ?_)) <;> simp [-qt,-qd,-ql,rgs,wldV,vU,zD2,e1,e1n,e1m]) | ((first | (with_reducible refine zO ?_ ?_) | (with_reducible refine zE ?_ ?_) | (with_reducible refine zA ?_ ?_)) <;> intro qb <;> (have qp:=qb;try simp only [psq] at qp) <;> simp [-qt,-qd,-ql,rgs,wldV,vU,zD2,e1,e1n,e1m,qb])
    all_goals
     first
     | (have hlt:i < w.tasks.length:=(by first | omega | (simp at *; omega))
        rw [zV hlt] at hJ
        first
        | (refine hnx.go (()) ?_ ?_ ?_ ?_ ?_ ?_;omega;(simp [zM hlt hlim]);(simp);exact zK;(first | omega | (simp;omega));(try dsimp only);clear hnx;first | ((try simp only [List.drop_length,Int.toNat_natCast,zX,yH,zD7,vY,inR] at hJ ⊢);grind) | (simp_all [zX,yH,zD7,vY,inR];done) | (simp_all;omega))
        | (refine ⟨?_,zK⟩;clear hnx;first | ((try simp only [List.drop_length,Int.toNat_natCast,zX,yH,zD7,vY,inR] at hJ ⊢);grind) | (simp_all [zX,yH,zD7,vY,inR];done) | (simp_all;omega)))
     | (obtain rfl:i = w.tasks.length:=(by first | omega | (simp at *; omega))
        refine ⟨?_,zK⟩;clear hnx;first | ((try simp only [List.drop_length,Int.toNat_natCast,zX,yH,zD7,vY,inR] at hJ ⊢);grind) | (simp_all [zX,yH,zD7,vY,inR];done) | (simp_all;omega))
   ·try simp [-qt,-qd,-ql,rgs,wldV,vU,zD2,e1,e1n,e1m]
    repeat' first | done | ((first | ((with_reducible show zU _ _ _ _ _ _);refine zB rfl fun _ => ?_) | ((with_reducible show zJ _ _ _ _ _ _ _);refine zC rfl omA omA ?_) | ((with_reducible show zG _ _ _ 200 _ _);refine zD (s_Node (w:=w) (F:=F)) ?_) | ((with_reducible show zG _ _ _ 204 _ _);refine zD (s_Group (w:=w) (F:=F)) ?_) | (with_reducible refine zF (i:=7) [(0,[],[]),(1,[],[]),(2,[],[]),(3,[],[]),(4,[],[]),(5,[],[]),(6,[],[]),(7,[],[]),(8,[],[]),(9,[],[]),(10,[],[]),(11,[],[]),(12,[],[]),(13,[],[]),(14,[],[]),(15,[],[]),(16,[],[]),(17,[],[]),(18,[],[]),(19,[],[]),(20,[],[]),(21,[],[]),(22,[],[]),(23,[],[]),(24,[],[]),(25,[],[])] (by kernel_rfl) ?_)) <;> simp [-qt,-qd,-ql,rgs,wldV,vU,zD2,e1,e1n,e1m]) | ((first | (with_reducible refine zO ?_ ?_) | (with_reducible refine zE ?_ ?_) | (with_reducible refine zA ?_ ?_)) <;> intro qb <;> (have qp:=qb;try simp only [psq] at qp) <;> simp [-qt,-qd,-ql,rgs,wldV,vU,zD2,e1,e1n,e1m,qb])
    all_goals
     first
     | (have hlt:i < w.tasks.length:=(by first | omega | (simp at *; omega))
        rw [zV hlt] at hJ
        first
        | (refine hnx.go (()) ?_ ?_ ?_ ?_ ?_ ?_;omega;(simp [zM hlt hlim]);(simp);exact zK;(first | omega | (simp;omega));(try dsimp only);clear hnx;first | ((try simp only [List.drop_length,Int.toNat_natCast,zX,yH] at hJ ⊢);grind) | (simp_all [zX,yH];done) | (simp_all;omega))
        | (refine ⟨?_,zK⟩;clear hnx;first | ((try simp only [List.drop_length,Int.toNat_natCast,zX,yH] at hJ ⊢);grind) | (simp_all [zX,yH];done) | (simp_all;omega)))
     | (obtain rfl:i = w.tasks.length:=(by first | omega | (simp at *; omega))
        refine ⟨?_,zK⟩;clear hnx;first | ((try simp only [List.drop_length,Int.toNat_natCast,zX,yH] at hJ ⊢);grind) | (simp_all [zX,yH];done) | (simp_all;omega))
 ·refine PC.o okC Tryz.func109 rfl (.bool _) fun h nx hnx => ?_
  try simp [-qt,-qd,-ql,rgs,wldV,ht]
  repeat' first | done | ((first | ((with_reducible show zU _ _ _ _ _ _);refine zB rfl fun _ => ?_) | ((with_reducible show zJ _ _ _ _ _ _ _);refine zC rfl omA omA ?_) | ((with_reducible show zG _ _ _ 203 _ _);refine zD (s_TasksOk) ?_) | (with_reducible refine zF (i:=7) [(0,[],[]),(1,[],[]),(2,[],[]),(3,[],[]),(4,[],[]),(5,[],[]),(6,[],[]),(7,[],[]),(8,[],[]),(9,[],[]),(10,[],[]),(11,[],[]),(12,[],[]),(13,[],[]),(14,[],[]),(15,[],[]),(16,[],[]),(17,[],[]),(18,[],[]),(19,[],[]),(20,[],[]),(21,[],[]),(22,[],[]),(23,[],[]),(24,[],[]),(25,[],[])] (by kernel_rfl) ?_)) <;> simp [-qt,-qd,-ql,rgs,wldV,ht]) | ((first | (with_reducible refine zO ?_ ?_) | (with_reducible refine zE ?_ ?_) | (with_reducible refine zA ?_ ?_)) <;> intro qb <;> (have qp:=qb;try simp only [psq] at qp) <;> simp [-qt,-qd,-ql,rgs,wldV,ht,qb])
  all_goals (try clear hnx)
  all_goals first | (simp_all [];done) | (simp_all [];omega) | (rw [Bool.eq_iff_iff];simp_all [];done) | (rw [Bool.eq_iff_iff];simp_all [];omega) | omega | (simp only [];grind) | grind
end Go.AE.Tryz
end
section
/- Contracts of the reference's copies. -/
set_option maxRecDepth 8000
set_option maxHeartbeats 4000000
namespace Go.AE.Tryz
open Go.Proofs
open List renaming map_take → qt,map_drop → qd,map_tail → ql
end Go.AE.Tryz
end
section
/- Contracts of the reference's copies as new rows. -/
set_option maxRecDepth 8000
set_option maxHeartbeats 4000000
namespace Go.AE.Tryz
open Go.Proofs
open List renaming map_take → qt,map_drop → qd,map_tail → ql
theorem f_l1Copy {p:Bool} {xs:List Int} (hm:xs.length ≤ 1048576):FC ctx.P 119 [.view p 1 (xs.map iv)] (.ref 0 1 0 (xs.map iv).length) [.row 1 (xs.map iv)]:=by
 refine FC.o1 okC Tryz.func119 rfl (zS zE6 xs) fun h nx hnx => ?_
 try simp [-qt,-qd,-ql,rgs,iv]
 repeat' first | done | ((first | ((with_reducible show vZ _ _ _ _ _ _ _ _);refine zQ rfl rfl (by decide) (by decide) (by first | (simp [-qt,-qd,-ql,rgs,iv];done) | (simp [-qt,-qd,-ql,rgs,iv];rfl)) (by first | (simp [-qt,-qd,-ql,rgs,iv];done) | (simp [-qt,-qd,-ql,rgs,iv];rfl)) (by first | (simp;done) | (simp;omega)) (by first | (simp only [zY,LIM] at *; simp;omega) | (simp only [zY];simp;omega)) (by simp [iv,bv]) ?_)) <;> simp [-qt,-qd,-ql,rgs,iv])
 exact yU zK (by first | omega | (simp;done) | (simp;omega)) (by omega) (by simp) rfl (by simp)
theorem f_l3Copy {p:Bool} {xs:List Twg} (hm:xs.length ≤ 1048576):FC ctx.P 206 [.view p 3 (xs.map yQ)] (.ref 0 3 0 (xs.map yQ).length) [.row 3 (xs.map yQ)]:=by
 refine FC.o1 okC Tryz.func206 rfl (zS vK xs) fun h nx hnx => ?_
 try simp [-qt,-qd,-ql,rgs,yQ]
 repeat' first | done | ((first | ((with_reducible show vZ _ _ _ _ _ _ _ _);refine zQ rfl rfl (by decide) (by decide) (by first | (simp [-qt,-qd,-ql,rgs,yQ];done) | (simp [-qt,-qd,-ql,rgs,yQ];rfl)) (by first | (simp [-qt,-qd,-ql,rgs,yQ];done) | (simp [-qt,-qd,-ql,rgs,yQ];rfl)) (by first | (simp;done) | (simp;omega)) (by first | (simp only [zY,LIM] at *; simp;omega) | (simp only [zY];simp;omega)) (by simp [iv,bv]) ?_)) <;> simp [-qt,-qd,-ql,rgs,yQ])
 exact yU zK (by first | omega | (simp;done) | (simp;omega)) (by omega) (by simp) rfl (by simp)
theorem zQ3 {p:Bool} {xs:List Nod} (hm:xs.length ≤ 1048576):FC ctx.P 114 [.view p 5 (xs.map yC)] (.ref 0 5 0 (xs.map yC).length) [.row 5 (xs.map yC)]:=by
 refine FC.o1 okC Tryz.func114 rfl (zS zI7 xs) fun h nx hnx => ?_
 try simp [-qt,-qd,-ql,rgs,yC]
 repeat' first | done | ((first | ((with_reducible show vZ _ _ _ _ _ _ _ _);refine zQ rfl rfl (by decide) (by decide) (by first | (simp [-qt,-qd,-ql,rgs,yC];done) | (simp [-qt,-qd,-ql,rgs,yC];rfl)) (by first | (simp [-qt,-qd,-ql,rgs,yC];done) | (simp [-qt,-qd,-ql,rgs,yC];rfl)) (by first | (simp;done) | (simp;omega)) (by first | (simp only [zY,LIM] at *; simp;omega) | (simp only [zY];simp;omega)) (by simp [iv,bv]) ?_)) <;> simp [-qt,-qd,-ql,rgs,yC])
 exact yU zK (by first | omega | (simp;done) | (simp;omega)) (by omega) (by simp) rfl (by simp)
theorem f_l6Copy {p:Bool} {xs:List Evt} (hm:xs.length ≤ 1048576):FC ctx.P 115 [.view p 4 (xs.map yS)] (.ref 0 4 0 (xs.map yS).length) [.row 4 (xs.map yS)]:=by
 refine FC.o1 okC Tryz.func115 rfl (zS zO7 xs) fun h nx hnx => ?_
 try simp [-qt,-qd,-ql,rgs,yS]
 repeat' first | done | ((first | ((with_reducible show vZ _ _ _ _ _ _ _ _);refine zQ rfl rfl (by decide) (by decide) (by first | (simp [-qt,-qd,-ql,rgs,yS];done) | (simp [-qt,-qd,-ql,rgs,yS];rfl)) (by first | (simp [-qt,-qd,-ql,rgs,yS];done) | (simp [-qt,-qd,-ql,rgs,yS];rfl)) (by first | (simp;done) | (simp;omega)) (by first | (simp only [zY,LIM] at *; simp;omega) | (simp only [zY];simp;omega)) (by simp [iv,bv]) ?_)) <;> simp [-qt,-qd,-ql,rgs,yS])
 exact yU zK (by first | omega | (simp;done) | (simp;omega)) (by omega) (by simp) rfl (by simp)
theorem f_l1CopySlots {F:Nat → Bool} {s:Slt} (h1:s.ages.length ≤ 1048576) (h2:s.used.length ≤ 1048576):FC ctx.P 207 [.agg (uJ F s)] (.agg [.ref 0 1 0 s.ages.length,.ref 1 1 0 s.used.length]) [.row 1 (s.ages.map iv),.row 1 (s.used.map bv)]:=by
 refine FC.o okC Tryz.func207 rfl ((.one _ (.agg _ fun c hc=>by simp at hc;rcases hc with rfl | rfl <;> first | exact .ref _ _ _ _ (by simp) | exact .fz _ (.int _ _)))) ((fun e he=>by simp at he;rcases he with rfl | rfl <;> first | exact zS zE6 _ | exact zS zK1 _ | exact zS vK _ | exact zS zC7 _ | exact zS zC6 _)) fun h nx hnx => ?_
 try simp [-qt,-qd,-ql,rgs,zP hnx,uJ,iv,bv]
 repeat' first | done | ((first | ((with_reducible show vZ _ _ _ _ _ _ _ _);refine zQ rfl rfl (by decide) (by decide) (by first | (simp [-qt,-qd,-ql,rgs,zP hnx,uJ,iv,bv];done) | (simp [-qt,-qd,-ql,rgs,zP hnx,uJ,iv,bv];rfl)) (by first | (simp [-qt,-qd,-ql,rgs,zP hnx,uJ,iv,bv];done) | (simp [-qt,-qd,-ql,rgs,zP hnx,uJ,iv,bv];rfl)) (by first | (simp;done) | (simp;omega)) (by first | (simp only [zY,LIM] at *; simp;omega) | (simp only [zY];simp;omega)) (by simp [iv,bv]) ?_) | (with_reducible refine zF (i:=1) [(1,[],[]),(2,[],[0,4]),(5,[],[]),(6,[],[0,4]),(0,[],[]),(3,[.tmp 8],[4]),(4,[],[]),(7,[],[]),(8,[],[]),(9,[],[])] (by kernel_rfl) ?_)) <;> simp [-qt,-qd,-ql,rgs,zP hnx,uJ,iv,bv])
 exact finF2 (i:=nx + 5) (j:=nx + 9) zK (by omega) (by omega) (by omega) (by simp) (by simp) (by simp)
theorem f_l7Copy {F:Nat → Bool} {s:Spr} (h1:s.told.length ≤ 1048576) (h2:s.work.length ≤ 1048576):FC ctx.P 116 [.agg (zC2 F s)] (.agg [.ref 0 1 0 s.told.length,.ref 1 1 0 s.work.length]) [.row 1 (s.told.map bv),.row 1 (s.work.map iv)]:=by
 refine FC.o okC Tryz.func116 rfl ((.one _ (.agg _ fun c hc=>by simp at hc;rcases hc with rfl | rfl <;> first | exact .ref _ _ _ _ (by simp) | exact .fz _ (.int _ _)))) ((fun e he=>by simp at he;rcases he with rfl | rfl <;> first | exact zS zE6 _ | exact zS zK1 _ | exact zS vK _ | exact zS zC7 _ | exact zS zC6 _)) fun h nx hnx => ?_
 try simp [-qt,-qd,-ql,rgs,zP hnx,zC2,iv,bv]
 repeat' first | done | ((first | ((with_reducible show vZ _ _ _ _ _ _ _ _);refine zQ rfl rfl (by decide) (by decide) (by first | (simp [-qt,-qd,-ql,rgs,zP hnx,zC2,iv,bv];done) | (simp [-qt,-qd,-ql,rgs,zP hnx,zC2,iv,bv];rfl)) (by first | (simp [-qt,-qd,-ql,rgs,zP hnx,zC2,iv,bv];done) | (simp [-qt,-qd,-ql,rgs,zP hnx,zC2,iv,bv];rfl)) (by first | (simp;done) | (simp;omega)) (by first | (simp only [zY,LIM] at *; simp;omega) | (simp only [zY];simp;omega)) (by simp [iv,bv]) ?_) | (with_reducible refine zF (i:=1) [(1,[],[]),(2,[],[0,4]),(5,[],[]),(6,[],[0,4]),(0,[],[]),(3,[.tmp 8],[4]),(4,[],[]),(7,[],[]),(8,[],[]),(9,[],[])] (by kernel_rfl) ?_)) <;> simp [-qt,-qd,-ql,rgs,zP hnx,zC2,iv,bv])
 exact finF2 (i:=nx + 5) (j:=nx + 9) zK (by omega) (by omega) (by omega) (by simp) (by simp) (by simp)
theorem f_l4Copy {F:Nat → Bool} {s:Tms} (h1:s.heap.length ≤ 1048576) (h2:s.list.length ≤ 1048576):FC ctx.P 117 [.agg (zA8 F s)] (.agg [.ref 0 3 0 s.heap.length,.ref 1 5 0 s.list.length,.int .i64 s.next]) [.row 3 (s.heap.map yQ),.row 5 (s.list.map vJ)]:=by
 refine FC.o okC Tryz.func117 rfl ((.one _ (.agg _ fun c hc=>by simp at hc;rcases hc with rfl | rfl | rfl <;> first | exact .ref _ _ _ _ (by simp) | exact .fz _ (.int _ _)))) ((fun e he=>by simp at he;rcases he with rfl | rfl <;> first | exact zS zE6 _ | exact zS zK1 _ | exact zS vK _ | exact zS zC7 _ | exact zS zC6 _)) fun h nx hnx => ?_
 try simp [-qt,-qd,-ql,rgs,zP hnx,zA8,vJ]
 repeat' first | done | ((first | ((with_reducible show zG _ _ _ 206 _ _);refine yD (f_l3Copy h1) ?_) | ((with_reducible show vZ _ _ _ _ _ _ _ _);refine zQ rfl rfl (by decide) (by decide) (by first | (simp [-qt,-qd,-ql,rgs,zP hnx,zA8,vJ];done) | (simp [-qt,-qd,-ql,rgs,zP hnx,zA8,vJ];rfl)) (by first | (simp [-qt,-qd,-ql,rgs,zP hnx,zA8,vJ];done) | (simp [-qt,-qd,-ql,rgs,zP hnx,zA8,vJ];rfl)) (by first | (simp;done) | (simp;omega)) (by first | (simp only [zY,LIM] at *; simp;omega) | (simp only [zY];simp;omega)) (by simp [iv,bv]) ?_) | (with_reducible refine zF (i:=1) [(0,[],[]),(1,[],[3]),(4,[],[]),(5,[],[3]),(7,[],[]),(8,[],[3]),(2,[.tmp 7,.tmp 10],[3]),(3,[],[]),(6,[.tmp 10],[]),(9,[],[]),(10,[],[])] (by kernel_rfl) ?_)) <;> simp [-qt,-qd,-ql,rgs,zP hnx,zA8,vJ])
 exact finF2 (i:=nx + 13) (j:=nx + 8) zK (by omega) (by omega) (by omega) (by simp) (by simp) (by simp)
theorem f_l8Copy {F:Nat → Bool} {s:Afs} (h1:s.slots.ages.length ≤ 1048576) (h2:s.slots.used.length ≤ 1048576) (h3:s.list.length ≤ 1048576):FC ctx.P 118 [.agg (zC3 F s)] (.agg [.ref 0 1 0 s.slots.ages.length,.ref 1 1 0 s.slots.used.length,.ref 2 5 0 s.list.length]) [.row 1 (s.slots.ages.map iv),.row 1 (s.slots.used.map bv),.row 5 (s.list.map vO)]:=by
 refine FC.o okC Tryz.func118 rfl ((.one _ (.agg _ fun c hc=>by simp at hc;rcases hc with rfl | rfl | rfl <;> first | exact .ref _ _ _ _ (by simp) | exact .fz _ (.int _ _)))) ((fun e he=>by simp at he;rcases he with rfl | rfl | rfl <;> first | exact zS zE6 _ | exact zS zK1 _ | exact zS vK _ | exact zS zC7 _ | exact zS zC6 _)) fun h nx hnx => ?_
 try simp [-qt,-qd,-ql,rgs,zP hnx,zC3,vO,uJ]
 repeat' first | done | ((first | ((with_reducible show zG _ _ _ 207 _ _);refine yD (f_l1CopySlots (s:=s.slots) (F:=F) h1 h2) ?_) | ((with_reducible show vZ _ _ _ _ _ _ _ _);refine zQ rfl rfl (by decide) (by decide) (by first | (simp [-qt,-qd,-ql,rgs,zP hnx,zC3,vO,uJ];done) | (simp [-qt,-qd,-ql,rgs,zP hnx,zC3,vO,uJ];rfl)) (by first | (simp [-qt,-qd,-ql,rgs,zP hnx,zC3,vO,uJ];done) | (simp [-qt,-qd,-ql,rgs,zP hnx,zC3,vO,uJ];rfl)) (by first | (simp;done) | (simp;omega)) (by first | (simp only [zY,LIM] at *; simp;omega) | (simp only [zY];simp;omega)) (by simp [iv,bv]) ?_) | (with_reducible refine zF (i:=1) [(0,[],[]),(1,[],[3]),(4,[],[]),(5,[],[3]),(2,[.tmp 7],[3]),(3,[],[]),(6,[],[]),(7,[],[]),(8,[],[])] (by kernel_rfl) ?_)) <;> simp [-qt,-qd,-ql,rgs,zP hnx,zC3,vO,uJ])
 exact finF3 (i:=nx + 11) (j:=nx + 12) (l:=nx + 8) zK (by omega) (by omega) (by omega) (by omega) (by omega) (by omega) (by simp) (by simp) (by simp) (by simp)
theorem f_l12Copy {r:Bool} {g:Grp} (h1:g.waits.length ≤ 1048576):FC ctx.P 120 [.agg (vD r g)] (.agg (uB g 0)) [.row 1 (g.waits.map iv)]:=by
 refine FC.o okC Tryz.func120 rfl ((by simp only [uB];exact .one _ (.agg _ fun c hc=>by simp at hc;rcases hc with rfl | rfl | rfl | rfl | rfl <;> first | exact .ref _ _ _ _ (by simp) | exact .fz _ (.int _ _)))) ((fun e he=>by simp at he;subst he;exact zS zE6 _)) fun h nx hnx => ?_
 try simp [-qt,-qd,-ql,rgs,vD,iv]
 repeat' first | done | ((first | ((with_reducible show vZ _ _ _ _ _ _ _ _);refine zQ rfl rfl (by decide) (by decide) (by first | (simp [-qt,-qd,-ql,rgs,vD,iv];done) | (simp [-qt,-qd,-ql,rgs,vD,iv];rfl)) (by first | (simp [-qt,-qd,-ql,rgs,vD,iv];done) | (simp [-qt,-qd,-ql,rgs,vD,iv];rfl)) (by first | (simp;done) | (simp;omega)) (by first | (simp only [zY,LIM] at *; simp;omega) | (simp only [zY];simp;omega)) (by simp [iv,bv]) ?_)) <;> simp [-qt,-qd,-ql,rgs,vD,iv])
 exact finF1 (i:=nx + 5) zK (by omega) (by simp) (by simp [uB])
theorem w_l13CopyProgs {p r:Bool} {xs:List (List Inn)} (hm:xs.length ≤ 1048576) (hi:∀ x ∈ xs,x.length ≤ 1048576):AC ctx.P 113 [.view p 1 (xs.map (zD2 r))] (fun _ _=>True)
 (fun h nx v h' nx'=>KeepB nx h' h ∧ ∃ id is,v = .ref id 1 0 xs.length ∧ h' id = some (.row 1 (List.zipWith prgR xs is)) ∧ is.length = xs.length ∧ nx ≤ id ∧ id < nx' ∧ id ∉ is ∧ Subs h' 3 (fun x:List Inn=>x.map uC) xs is nx nx'):=by
 have hlim:xs.length ≤ LIM:=by simp only [LIM] at *; omega
 refine AC.o okC Tryz.func113 rfl fun h nx hfr hnx hpre => ?_
 try simp [-qt,-qd,-ql,rgs]
 repeat' first | done | ((first | ((with_reducible show zU _ _ _ _ _ _);refine zB rfl fun _ => ?_) | ((with_reducible show zJ _ _ _ _ _ _ _);refine zC rfl omA omA ?_) | ((with_reducible show vZ _ _ _ _ _ _ _ _);refine zQ rfl rfl (by decide) (by decide) (by first | (simp [-qt,-qd,-ql,rgs];done) | (simp [-qt,-qd,-ql,rgs];rfl)) (by first | (simp [-qt,-qd,-ql,rgs];done) | (simp [-qt,-qd,-ql,rgs];rfl)) (by first | (simp;done) | (simp;omega)) (by first | (simp only [zY,LIM] at *; simp;omega) | (simp only [zY];simp;omega)) (by simp [iv,bv]) ?_)) <;> simp [-qt,-qd,-ql,rgs]) | ((first | (with_reducible refine zA ?_ ?_)) <;> intro qb <;> (have qp:=qb;try simp only [psq] at qp) <;> simp [-qt,-qd,-ql,rgs,qb])
 refine zW (h0:=h) (nx0:=nx) [3,4,6,7,8,9,10,11,12,13,14,15,16,17,18,19,20] (xs.length) (fun (i:Nat) a=>[(4,.int .i64 i),(3,.ref a.1 1 0 i)]) (fun i (a:Nat × List Nat) h' n'=>a.2.length = i ∧ h' a.1 = some (.row 1 (List.zipWith prgR xs a.2)) ∧ Subs h' 3 (fun x:List Inn=>x.map uC) xs a.2 nx n' ∧ nx ≤ a.1 ∧ a.1 < n' ∧ a.1 ∉ a.2) ((nx + 1,[])) (by simp) ?_ zK (by omega) ?_
 ·simp [Subs.nil]
 ·intro i a tm h' n' hle hJ hE hn' next hnx
  try dsimp only at hJ
  have hK:KeepB nx h' h:=KeepB.sub hE zK (by omega)
  simp [-qt,-qd,-ql]
  obtain ⟨g2,hJ,hS,g0,g1,g3⟩:=hJ
  obtain ⟨id,is⟩:=a
  dsimp only at g2 hJ hS g0 g1 g3 ⊢
  subst g2
  have k1:∀ k,(id = n' + k) = False:=fun k=>by simp only [eq_iff_iff,iff_false];omega
  by_cases hlt:is.length < xs.length
  ·have hg:(gt xs (is.length:Int)).length ≤ 1048576:=hi _ (zE3 (by omega) (by omega))
   try simp [-qt,-qd,-ql,rgs,zD2,k1,hJ,hlt,uC]
   repeat' first | done | ((first | ((with_reducible show zU _ _ _ _ _ _);refine zB rfl fun _ => ?_) | ((with_reducible show zJ _ _ _ _ _ _ _);refine zC rfl omA omA ?_) | ((with_reducible show vZ _ _ _ _ _ _ _ _);refine zQ rfl rfl (by decide) (by decide) (by first | (simp [-qt,-qd,-ql,rgs,zD2,k1,hJ,hlt,uC];done) | (simp [-qt,-qd,-ql,rgs,zD2,k1,hJ,hlt,uC];rfl)) (by first | (simp [-qt,-qd,-ql,rgs,zD2,k1,hJ,hlt,uC];done) | (simp [-qt,-qd,-ql,rgs,zD2,k1,hJ,hlt,uC];rfl)) (by first | (simp;done) | (simp;omega)) (by first | (simp only [zY,LIM] at *; simp;omega) | (simp only [zY];simp;omega)) (by simp [iv,bv]) ?_)) <;> simp [-qt,-qd,-ql,rgs,zD2,k1,hJ,hlt,uC]) | ((first | (with_reducible refine zA ?_ ?_)) <;> intro qb <;> (have qp:=qb;try simp only [psq] at qp) <;> simp [-qt,-qd,-ql,rgs,zD2,k1,hJ,hlt,uC,qb])
   refine hnx.go (n' + 12,is ++ [n' + 10]) (by omega) (by simp [zM hlt hlim]) (by simp) zK (by first | omega | (simp;omega)) ?_
   dsimp only
   refine ⟨by simp,?_,hS.snoc (fun k hk => ?_) ?_ (by omega) (by omega) (by omega),by omega,by omega,?_⟩
   ·rw [zM8 hlt,zL];rfl
   ·have:=hS.hi k hk
    have hne:k ≠ id:=fun e=>g3 (e ▸ hk)
    repeat (first | rw [zI _ _ _ _ (by omega)] | rw [zI _ _ _ _ hne])
   ·repeat (first | exact zL .. | rw [zI _ _ _ _ (by omega)])
   ·intro hm
    rcases List.mem_append.1 hm with hm | hm
    ·have:=hS.hi _ hm;omega
    ·simp at hm
  ·try simp [-qt,-qd,-ql,rgs,k1,hJ,hlt]
   repeat' first | done | ((first | ((with_reducible show zU _ _ _ _ _ _);refine zB rfl fun _ => ?_) | ((with_reducible show zJ _ _ _ _ _ _ _);refine zC rfl omA omA ?_) | ((with_reducible show vZ _ _ _ _ _ _ _ _);refine zQ rfl rfl (by decide) (by decide) (by first | (simp [-qt,-qd,-ql,rgs,k1,hJ,hlt];done) | (simp [-qt,-qd,-ql,rgs,k1,hJ,hlt];rfl)) (by first | (simp [-qt,-qd,-ql,rgs,k1,hJ,hlt];done) | (simp [-qt,-qd,-ql,rgs,k1,hJ,hlt];rfl)) (by first | (simp;done) | (simp;omega)) (by first | (simp only [zY,LIM] at *; simp;omega) | (simp only [zY];simp;omega)) (by simp [iv,bv]) ?_)) <;> simp [-qt,-qd,-ql,rgs,k1,hJ,hlt]) | ((first | (with_reducible refine zA ?_ ?_)) <;> intro qb <;> (have qp:=qb;try simp only [psq] at qp) <;> simp [-qt,-qd,-ql,rgs,k1,hJ,hlt,qb])
   have he:is.length = xs.length:=by omega
   exact ⟨zK,id,⟨rfl,he⟩,is,hJ,he,g0,by omega,g3,hS.keep (fun _ _=>rfl) (Nat.le_refl _) (by omega)⟩
end Go.AE.Tryz
end
section
/- Contracts of the reference's copies of worlds as new rows. -/
set_option maxRecDepth 8000
set_option maxHeartbeats 4000000
namespace Go.AE.Tryz
open Go.Proofs
open List renaming map_take → qt,map_drop → qd,map_tail → ql
theorem w_l13CopyA {F:Nat → Bool} {w:Wld} (hs:zC9 w ≤ 1048576):AC ctx.P 34 [.agg (wldV F w)] (fun _ _=>True) (MkQ (fun X=>.agg (vN X w)) w):=by
 simp only [zC9,afssz,tmssz,sprsz,sltsz] at hs
 have hm:zY = 1099511627776:=rfl
 have hL:LIM = 140737488355328:=rfl
 have hlim:w.groups.length ≤ LIM:=by omega
 refine AC.ghost ?_
 refine AC.o okC Tryz.func34 rfl fun h nx hfr hnx hpre => ?_
 try simp [-qt,-qd,-ql,rgs,wldV,zP hnx]
 repeat' first | done | ((first | ((with_reducible show zU _ _ _ _ _ _);refine zB rfl fun _ => ?_) | ((with_reducible show zJ _ _ _ _ _ _ _);refine zC rfl omA omA ?_) | ((with_reducible show vZ _ _ _ _ _ _ _ _);refine zQ rfl rfl (by decide) (by decide) (by first | (simp [-qt,-qd,-ql,rgs,wldV,zP hnx];done) | (simp [-qt,-qd,-ql,rgs,wldV,zP hnx];rfl)) (by first | (simp [-qt,-qd,-ql,rgs,wldV,zP hnx];done) | (simp [-qt,-qd,-ql,rgs,wldV,zP hnx];rfl)) (by first | (simp;done) | (simp;omega)) (by first | (simp only [zY,LIM] at *; simp;omega) | (simp only [zY];simp;omega)) (by simp [iv,bv]) ?_) | (with_reducible refine zF (i:=1) [(0,[],[]),(1,[],[20,24,35]),(2,[],[]),(3,[],[20,24,35]),(5,[],[]),(6,[],[20,24,35]),(8,[],[]),(9,[],[20,24,35]),(11,[],[]),(12,[],[20,24,35]),(14,[],[]),(15,[],[20,24,35]),(17,[],[]),(18,[],[20,24,35]),(21,[],[]),(22,[],[20,24,35]),(25,[],[]),(26,[],[20,24,35]),(28,[],[]),(29,[],[20,24,35]),(31,[],[]),(32,[],[20,24,35]),(4,[.tmp 5,.tmp 10,.tmp 13,.tmp 16,.tmp 19,.tmp 22,.tmp 26,.tmp 30,.tmp 33,.tmp 36],[20,24,35]),(7,[.tmp 5,.tmp 13,.tmp 16,.tmp 19,.tmp 22,.tmp 26,.tmp 30,.tmp 33,.tmp 36],[20,24,35]),(10,[.tmp 5,.tmp 16,.tmp 19,.tmp 22,.tmp 26,.tmp 30,.tmp 33,.tmp 36],[20,24,35]),(13,[.tmp 5,.tmp 19,.tmp 22,.tmp 26,.tmp 30,.tmp 33,.tmp 36],[20,24,35]),(16,[.tmp 5,.tmp 22,.tmp 26,.tmp 30,.tmp 33,.tmp 36],[20,24,35]),(19,[.tmp 5,.tmp 26,.tmp 30,.tmp 33,.tmp 36],[20,24,35]),(20,[],[]),(23,[.tmp 5,.tmp 30,.tmp 33,.tmp 36],[24,35]),(24,[],[]),(27,[.tmp 5,.tmp 33,.tmp 36],[35]),(30,[.tmp 5,.tmp 36],[35]),(33,[.tmp 5],[35]),(34,[],[]),(35,[],[]),(36,[],[])] (by kernel_rfl) ?_) | (with_reducible refine zF (i:=5) [(0,[],[]),(1,[],[8]),(2,[],[]),(3,[],[]),(4,[],[]),(5,[],[]),(6,[],[]),(7,[.tmp 47],[]),(8,[],[]),(9,[],[]),(10,[],[]),(11,[],[])] (by kernel_rfl) ?_)) <;> simp [-qt,-qd,-ql,rgs,wldV,zP hnx]) | ((first | (with_reducible refine zA ?_ ?_)) <;> intro qb <;> (have qp:=qb;try simp only [psq] at qp) <;> simp [-qt,-qd,-ql,rgs,wldV,zP hnx,qb])
 refine yX (w_l13CopyProgs (by omega) (fun x hx=>by have:=zD0 (·.length) hx;omega)) trivial ?_
 rintro r h1 n1 ⟨hK1,ip,isp,rfl,hrow1,hlen1,hlo1,hhi1,hni1,hS1⟩ hle1 hfr1
 dsimp only at hK1 hlo1 hle1 hS1
 have g0:=hK1 nx (by omega)
 have g1:=hK1 (nx + 1) (by omega)
 have g22:=hK1 (nx + 22) (by omega)
 have g26:=hK1 (nx + 26) (by omega)
 have g37:=hK1 (nx + 37) (by omega)
 simp [zP hnx] at g0 g1 g22 g26 g37
 have k0:∀ k,(nx = n1 + k) = False:=fun k=>by simp only [eq_iff_iff,iff_false];omega
 have k1:∀ k,(nx + 1 = n1 + k) = False:=fun k=>by simp only [eq_iff_iff,iff_false];omega
 have k22:∀ k,(nx + 22 = n1 + k) = False:=fun k=>by simp only [eq_iff_iff,iff_false];omega
 have k26:∀ k,(nx + 26 = n1 + k) = False:=fun k=>by simp only [eq_iff_iff,iff_false];omega
 have k37:∀ k,(nx + 37 = n1 + k) = False:=fun k=>by simp only [eq_iff_iff,iff_false];omega
 have kk:∀ k,k < 38 → (nx + k = n1) = False:=fun k hk=>by simp only [eq_iff_iff,iff_false];omega
 have j0:(nx = n1) = False:=by simp only [eq_iff_iff,iff_false];omega
 have j1:=kk 1 (by omega)
 have kx:∀ a k,a < 38 → (nx + a = n1 + k) = False:=fun a k hk=>by simp only [eq_iff_iff,iff_false];omega
 try simp [-qt,-qd,-ql,rgs,wldV,g0,g1,g22,g26,g37,k0,k1,k22,k26,k37,j0,j1,kk,kx]
 repeat' first | done | ((first | ((with_reducible show zU _ _ _ _ _ _);refine zB rfl fun _ => ?_) | ((with_reducible show zJ _ _ _ _ _ _ _);refine zC rfl omA omA ?_) | ((with_reducible show zG _ _ _ 114 _ _);refine yD (zQ3 (by omega)) ?_) | ((with_reducible show zG _ _ _ 115 _ _);refine yD (f_l6Copy (by omega)) ?_) | ((with_reducible show zG _ _ _ 116 _ _);refine yD (f_l7Copy (s:=w.spread) (F:=F) (by omega) (by omega)) ?_) | ((with_reducible show zG _ _ _ 117 _ _);refine yD (f_l4Copy (s:=w.timers) (F:=F) (by omega) (by omega)) ?_) | ((with_reducible show zG _ _ _ 118 _ _);refine yD (f_l8Copy (s:=w.afters) (F:=F) (by omega) (by omega) (by omega)) ?_) | ((with_reducible show zG _ _ _ 119 _ _);refine yD (f_l1Copy (by omega)) ?_) | ((with_reducible show vZ _ _ _ _ _ _ _ _);refine zQ rfl rfl (by decide) (by decide) (by first | (simp [-qt,-qd,-ql,rgs,wldV,g0,g1,g22,g26,g37,k0,k1,k22,k26,k37,j0,j1,kk,kx];done) | (simp [-qt,-qd,-ql,rgs,wldV,g0,g1,g22,g26,g37,k0,k1,k22,k26,k37,j0,j1,kk,kx];rfl)) (by first | (simp [-qt,-qd,-ql,rgs,wldV,g0,g1,g22,g26,g37,k0,k1,k22,k26,k37,j0,j1,kk,kx];done) | (simp [-qt,-qd,-ql,rgs,wldV,g0,g1,g22,g26,g37,k0,k1,k22,k26,k37,j0,j1,kk,kx];rfl)) (by first | (simp;done) | (simp;omega)) (by first | (simp only [zY,LIM] at *; simp;omega) | (simp only [zY];simp;omega)) (by simp [iv,bv]) ?_) | (with_reducible refine zF (i:=1) [(0,[],[]),(1,[],[20,24,35]),(2,[],[]),(3,[],[20,24,35]),(5,[],[]),(6,[],[20,24,35]),(8,[],[]),(9,[],[20,24,35]),(11,[],[]),(12,[],[20,24,35]),(14,[],[]),(15,[],[20,24,35]),(17,[],[]),(18,[],[20,24,35]),(21,[],[]),(22,[],[20,24,35]),(25,[],[]),(26,[],[20,24,35]),(28,[],[]),(29,[],[20,24,35]),(31,[],[]),(32,[],[20,24,35]),(4,[.tmp 5,.tmp 10,.tmp 13,.tmp 16,.tmp 19,.tmp 22,.tmp 26,.tmp 30,.tmp 33,.tmp 36],[20,24,35]),(7,[.tmp 5,.tmp 13,.tmp 16,.tmp 19,.tmp 22,.tmp 26,.tmp 30,.tmp 33,.tmp 36],[20,24,35]),(10,[.tmp 5,.tmp 16,.tmp 19,.tmp 22,.tmp 26,.tmp 30,.tmp 33,.tmp 36],[20,24,35]),(13,[.tmp 5,.tmp 19,.tmp 22,.tmp 26,.tmp 30,.tmp 33,.tmp 36],[20,24,35]),(16,[.tmp 5,.tmp 22,.tmp 26,.tmp 30,.tmp 33,.tmp 36],[20,24,35]),(19,[.tmp 5,.tmp 26,.tmp 30,.tmp 33,.tmp 36],[20,24,35]),(20,[],[]),(23,[.tmp 5,.tmp 30,.tmp 33,.tmp 36],[24,35]),(24,[],[]),(27,[.tmp 5,.tmp 33,.tmp 36],[35]),(30,[.tmp 5,.tmp 36],[35]),(33,[.tmp 5],[35]),(34,[],[]),(35,[],[]),(36,[],[])] (by kernel_rfl) ?_) | (with_reducible refine zF (i:=5) [(0,[],[]),(1,[],[8]),(2,[],[]),(3,[],[]),(4,[],[]),(5,[],[]),(6,[],[]),(7,[.tmp 47],[]),(8,[],[]),(9,[],[]),(10,[],[]),(11,[],[])] (by kernel_rfl) ?_)) <;> simp [-qt,-qd,-ql,rgs,wldV,g0,g1,g22,g26,g37,k0,k1,k22,k26,k37,j0,j1,kk,kx]) | ((first | (with_reducible refine zA ?_ ?_)) <;> intro qb <;> (have qp:=qb;try simp only [psq] at qp) <;> simp [-qt,-qd,-ql,rgs,wldV,g0,g1,g22,g26,g37,k0,k1,k22,k26,k37,j0,j1,kk,kx,qb])
 generalize hH:upd _ (nx + 37) (some (Ent.obj [.int .i64 w.now,.ref ip 1 0 w.progs.length,.ref n1 5 0 w.tree.length,.ref (n1 + 1) 4 0 w.events.length,.ref (n1 + 2) 1 0 w.spread.told.length,.ref (n1 + 3) 1 0 w.spread.work.length,.ref (n1 + 4) 3 0 w.timers.heap.length,.ref (n1 + 5) 5 0 w.timers.list.length,.int .i64 w.timers.next,.ref (n1 + 6) 1 0 w.afters.slots.ages.length,.ref (n1 + 7) 1 0 w.afters.slots.used.length,.ref (n1 + 8) 5 0 w.afters.list.length,.ref (nx + 25) 9 0 w.tasks.length,.nil,.ref (nx + 29) 4 0 w.sights.length,.ref (n1 + 9) 1 0 w.began.length,.ref (n1 + 10) 1 0 w.rang.length])) = H2
 have o2:H2 (nx + 37) = some (Ent.obj [.int .i64 w.now,.ref ip 1 0 w.progs.length,.ref n1 5 0 w.tree.length,.ref (n1 + 1) 4 0 w.events.length,.ref (n1 + 2) 1 0 w.spread.told.length,.ref (n1 + 3) 1 0 w.spread.work.length,.ref (n1 + 4) 3 0 w.timers.heap.length,.ref (n1 + 5) 5 0 w.timers.list.length,.int .i64 w.timers.next,.ref (n1 + 6) 1 0 w.afters.slots.ages.length,.ref (n1 + 7) 1 0 w.afters.slots.used.length,.ref (n1 + 8) 5 0 w.afters.list.length,.ref (nx + 25) 9 0 w.tasks.length,.nil,.ref (nx + 29) 4 0 w.sights.length,.ref (n1 + 9) 1 0 w.began.length,.ref (n1 + 10) 1 0 w.rang.length]):=by rw [← hH,zL]
 have a2:H2 nx = some (Ent.obj (wldV F w)):=by
  rw [← hH]
  repeat rw [zI _ _ _ _ (by omega)]
  rw [g0];rfl
 have z2:H2 (nx + 1) = h1 (nx + 1):=by
  rw [← hH]
  repeat rw [zI _ _ _ _ (by omega)]
 rw [g1] at z2
 have hK2:KeepB nx H2 h:=fun j hj=>by
  rw [← hH]
  repeat rw [zI _ _ _ _ (by omega)]
  rw [hK1 j (by omega)]
  repeat rw [zI _ _ _ _ (by omega)]
 have q0:H2 ip = some (.row 1 (List.zipWith prgR w.progs isp)):=by
  rw [← hH]
  repeat rw [zI _ _ _ _ (by omega)]
  exact hrow1
 have qs:∀ i ∈ isp,H2 i = h1 i:=fun i hi=>by
  have:=hS1.lo i hi
  have:=hS1.hi i hi
  rw [← hH]
  repeat rw [zI _ _ _ _ (by omega)]
 have q1:H2 (n1) = some (.row 5 (w.tree.map yC)):=by
  rw [← hH]
  repeat (first | exact zL .. | rw [zI _ _ _ _ (by omega)])
 have q2:H2 (n1 + 1) = some (.row 4 (w.events.map yS)):=by
  rw [← hH]
  repeat (first | exact zL .. | rw [zI _ _ _ _ (by omega)])
 have q3:H2 (n1 + 2) = some (.row 1 (w.spread.told.map bv)):=by
  rw [← hH]
  repeat (first | exact zL .. | rw [zI _ _ _ _ (by omega)])
 have q4:H2 (n1 + 3) = some (.row 1 (w.spread.work.map iv)):=by
  rw [← hH]
  repeat (first | exact zL .. | rw [zI _ _ _ _ (by omega)])
 have q5:H2 (n1 + 4) = some (.row 3 (w.timers.heap.map yQ)):=by
  rw [← hH]
  repeat (first | exact zL .. | rw [zI _ _ _ _ (by omega)])
 have q6:H2 (n1 + 5) = some (.row 5 (w.timers.list.map vJ)):=by
  rw [← hH]
  repeat (first | exact zL .. | rw [zI _ _ _ _ (by omega)])
 have q7:H2 (n1 + 6) = some (.row 1 (w.afters.slots.ages.map iv)):=by
  rw [← hH]
  repeat (first | exact zL .. | rw [zI _ _ _ _ (by omega)])
 have q8:H2 (n1 + 7) = some (.row 1 (w.afters.slots.used.map bv)):=by
  rw [← hH]
  repeat (first | exact zL .. | rw [zI _ _ _ _ (by omega)])
 have q9:H2 (n1 + 8) = some (.row 5 (w.afters.list.map vO)):=by
  rw [← hH]
  repeat (first | exact zL .. | rw [zI _ _ _ _ (by omega)])
 have q10:H2 (nx + 25) = some (.row 9 (w.tasks.map vU)):=by
  rw [← hH]
  repeat (first | exact zL .. | rw [zI _ _ _ _ (by omega)])
 have q11:H2 (nx + 29) = some (.row 4 (w.sights.map zA6)):=by
  rw [← hH]
  repeat (first | exact zL .. | rw [zI _ _ _ _ (by omega)])
 have q12:H2 (n1 + 9) = some (.row 1 (w.began.map iv)):=by
  rw [← hH]
  repeat (first | exact zL .. | rw [zI _ _ _ _ (by omega)])
 have q13:H2 (n1 + 10) = some (.row 1 (w.rang.map iv)):=by
  rw [← hH]
  repeat (first | exact zL .. | rw [zI _ _ _ _ (by omega)])
 clear hH
 refine zW (h0:=h) (nx0:=nx) [4,40,41,42,43,44,45,46,47,48,49,50,51,52,53,54,55,56,57] (w.groups.length) (fun (i:Nat) a=>[(4,.int .i64 i)]) (fun i (a:Nat × List Nat) h' n'=>a.2.length = i ∧ h' (nx + 37) = some (Ent.obj [.int .i64 w.now,.ref ip 1 0 w.progs.length,.ref n1 5 0 w.tree.length,.ref (n1 + 1) 4 0 w.events.length,.ref (n1 + 2) 1 0 w.spread.told.length,.ref (n1 + 3) 1 0 w.spread.work.length,.ref (n1 + 4) 3 0 w.timers.heap.length,.ref (n1 + 5) 5 0 w.timers.list.length,.int .i64 w.timers.next,.ref (n1 + 6) 1 0 w.afters.slots.ages.length,.ref (n1 + 7) 1 0 w.afters.slots.used.length,.ref (n1 + 8) 5 0 w.afters.list.length,.ref (nx + 25) 9 0 w.tasks.length,(if i = 0 then .nil else .ref a.1 5 0 i),.ref (nx + 29) 4 0 w.sights.length,.ref (n1 + 9) 1 0 w.began.length,.ref (n1 + 10) 1 0 w.rang.length]) ∧ (0 < i → h' a.1 = some (.row 5 (List.zipWith uB w.groups a.2)) ∧ n1 + 12 ≤ a.1 ∧ a.1 < n' ∧ a.1 ∉ a.2) ∧ Subs h' 1 (fun x:Grp=>x.waits.map iv) w.groups a.2 (n1 + 12) n' ∧ n1 + 12 ≤ n' ∧ ∀ j,j < n1 + 12 → j ≠ nx + 37 → h' j = H2 j) ((0,[])) (by simp) ?_ zK (by omega) ?_
 ·simp [Subs.nil,o2]
 ·intro i a tm h' n' hle hJ hE hn' next hnx
  try dsimp only at hJ
  have hK:KeepB nx h' h:=KeepB.sub hE zK (by omega)
  simp [-qt,-qd,-ql]
  obtain ⟨id,is⟩:=a
  obtain ⟨e0,hO,hR,hS,hn2,hF⟩:=hJ
  dsimp only at e0 hO hR hS hn2 hF ⊢
  subst e0
  have aN:=hF nx (by omega) (by omega)
  rw [a2] at aN
  have zN:=hF (nx + 1) (by omega) (by omega)
  rw [z2] at zN
  have k5:∀ k,(nx = n' + k) = False:=fun k=>by simp only [eq_iff_iff,iff_false];omega
  have k6:∀ k,(nx + 37 = n' + k) = False:=fun k=>by simp only [eq_iff_iff,iff_false];omega
  have k7:∀ k,(nx + 1 = n' + k) = False:=fun k=>by simp only [eq_iff_iff,iff_false];omega
  have k8:(nx = n') = False:=by simp only [eq_iff_iff,iff_false];omega
  have k9:∀ a k,a < 38 → (nx + a = n' + k) = False:=fun a k hk=>by simp only [eq_iff_iff,iff_false];omega
  have kA:∀ a,a < 38 → (nx + a = n') = False:=fun a hk=>by simp only [eq_iff_iff,iff_false];omega
  by_cases hlt:is.length < w.groups.length
  ·by_cases h0:is.length = 0
   ·have hc:(gt w.groups (is.length:Int)).waits.length ≤ 1048576:=by have:=zD0 (·.waits.length) (zE3 (show (0:Int) ≤ (is.length:Int) by omega) (show (is.length:Int) < w.groups.length by omega));omega
    rw [if_pos h0] at hO
    try simp [-qt,-qd,-ql,rgs,hO,aN,wldV,vD,uB,hlt,k5,k6,k7,k8,k9,kA]
    repeat' first | done | ((first | ((with_reducible show zU _ _ _ _ _ _);refine zB rfl fun _ => ?_) | ((with_reducible show zJ _ _ _ _ _ _ _);refine zC rfl omA omA ?_) | ((with_reducible show zG _ _ _ 120 _ _);refine yD (f_l12Copy (r:=F 13) (g:=gt w.groups (is.length:Int)) hc) ?_) | ((with_reducible show vZ _ _ _ _ _ _ _ _);refine zQ rfl rfl (by decide) (by decide) (by first | (simp [-qt,-qd,-ql,rgs,hO,aN,wldV,vD,uB,hlt,k5,k6,k7,k8,k9,kA];done) | (simp [-qt,-qd,-ql,rgs,hO,aN,wldV,vD,uB,hlt,k5,k6,k7,k8,k9,kA];rfl)) (by first | (simp [-qt,-qd,-ql,rgs,hO,aN,wldV,vD,uB,hlt,k5,k6,k7,k8,k9,kA];done) | (simp [-qt,-qd,-ql,rgs,hO,aN,wldV,vD,uB,hlt,k5,k6,k7,k8,k9,kA];rfl)) (by first | (simp;done) | (simp;omega)) (by first | (simp only [zY,LIM] at *; simp;omega) | (simp only [zY];simp;omega)) (by simp [iv,bv]) ?_) | (with_reducible refine zF (i:=1) [(0,[],[]),(1,[],[20,24,35]),(2,[],[]),(3,[],[20,24,35]),(5,[],[]),(6,[],[20,24,35]),(8,[],[]),(9,[],[20,24,35]),(11,[],[]),(12,[],[20,24,35]),(14,[],[]),(15,[],[20,24,35]),(17,[],[]),(18,[],[20,24,35]),(21,[],[]),(22,[],[20,24,35]),(25,[],[]),(26,[],[20,24,35]),(28,[],[]),(29,[],[20,24,35]),(31,[],[]),(32,[],[20,24,35]),(4,[.tmp 5,.tmp 10,.tmp 13,.tmp 16,.tmp 19,.tmp 22,.tmp 26,.tmp 30,.tmp 33,.tmp 36],[20,24,35]),(7,[.tmp 5,.tmp 13,.tmp 16,.tmp 19,.tmp 22,.tmp 26,.tmp 30,.tmp 33,.tmp 36],[20,24,35]),(10,[.tmp 5,.tmp 16,.tmp 19,.tmp 22,.tmp 26,.tmp 30,.tmp 33,.tmp 36],[20,24,35]),(13,[.tmp 5,.tmp 19,.tmp 22,.tmp 26,.tmp 30,.tmp 33,.tmp 36],[20,24,35]),(16,[.tmp 5,.tmp 22,.tmp 26,.tmp 30,.tmp 33,.tmp 36],[20,24,35]),(19,[.tmp 5,.tmp 26,.tmp 30,.tmp 33,.tmp 36],[20,24,35]),(20,[],[]),(23,[.tmp 5,.tmp 30,.tmp 33,.tmp 36],[24,35]),(24,[],[]),(27,[.tmp 5,.tmp 33,.tmp 36],[35]),(30,[.tmp 5,.tmp 36],[35]),(33,[.tmp 5],[35]),(34,[],[]),(35,[],[]),(36,[],[])] (by kernel_rfl) ?_) | (with_reducible refine zF (i:=5) [(0,[],[]),(1,[],[8]),(2,[],[]),(3,[],[]),(4,[],[]),(5,[],[]),(6,[],[]),(7,[.tmp 47],[]),(8,[],[]),(9,[],[]),(10,[],[]),(11,[],[])] (by kernel_rfl) ?_)) <;> simp [-qt,-qd,-ql,rgs,hO,aN,wldV,vD,uB,hlt,k5,k6,k7,k8,k9,kA]) | ((first | (with_reducible refine zA ?_ ?_)) <;> intro qb <;> (have qp:=qb;try simp only [psq] at qp) <;> simp [-qt,-qd,-ql,rgs,hO,aN,wldV,vD,uB,hlt,k5,k6,k7,k8,k9,kA,qb])
    refine app_nil rfl (by decide) (by decide) (by simp;rfl) (by simp [zY]) (by simp) ?_
    try simp [-qt,-qd,-ql,rgs,hO,aN,wldV,vD,uB,hlt,k5,k6,k7,k8,k9,kA]
    repeat' first | done | ((first | ((with_reducible show zU _ _ _ _ _ _);refine zB rfl fun _ => ?_) | ((with_reducible show zJ _ _ _ _ _ _ _);refine zC rfl omA omA ?_) | ((with_reducible show vZ _ _ _ _ _ _ _ _);refine zQ rfl rfl (by decide) (by decide) (by first | (simp [-qt,-qd,-ql,rgs,hO,aN,wldV,vD,uB,hlt,k5,k6,k7,k8,k9,kA];done) | (simp [-qt,-qd,-ql,rgs,hO,aN,wldV,vD,uB,hlt,k5,k6,k7,k8,k9,kA];rfl)) (by first | (simp [-qt,-qd,-ql,rgs,hO,aN,wldV,vD,uB,hlt,k5,k6,k7,k8,k9,kA];done) | (simp [-qt,-qd,-ql,rgs,hO,aN,wldV,vD,uB,hlt,k5,k6,k7,k8,k9,kA];rfl)) (by first | (simp;done) | (simp;omega)) (by first | (simp only [zY,LIM] at *; simp;omega) | (simp only [zY];simp;omega)) (by simp [iv,bv]) ?_) | (with_reducible refine zF (i:=1) [(0,[],[]),(1,[],[20,24,35]),(2,[],[]),(3,[],[20,24,35]),(5,[],[]),(6,[],[20,24,35]),(8,[],[]),(9,[],[20,24,35]),(11,[],[]),(12,[],[20,24,35]),(14,[],[]),(15,[],[20,24,35]),(17,[],[]),(18,[],[20,24,35]),(21,[],[]),(22,[],[20,24,35]),(25,[],[]),(26,[],[20,24,35]),(28,[],[]),(29,[],[20,24,35]),(31,[],[]),(32,[],[20,24,35]),(4,[.tmp 5,.tmp 10,.tmp 13,.tmp 16,.tmp 19,.tmp 22,.tmp 26,.tmp 30,.tmp 33,.tmp 36],[20,24,35]),(7,[.tmp 5,.tmp 13,.tmp 16,.tmp 19,.tmp 22,.tmp 26,.tmp 30,.tmp 33,.tmp 36],[20,24,35]),(10,[.tmp 5,.tmp 16,.tmp 19,.tmp 22,.tmp 26,.tmp 30,.tmp 33,.tmp 36],[20,24,35]),(13,[.tmp 5,.tmp 19,.tmp 22,.tmp 26,.tmp 30,.tmp 33,.tmp 36],[20,24,35]),(16,[.tmp 5,.tmp 22,.tmp 26,.tmp 30,.tmp 33,.tmp 36],[20,24,35]),(19,[.tmp 5,.tmp 26,.tmp 30,.tmp 33,.tmp 36],[20,24,35]),(20,[],[]),(23,[.tmp 5,.tmp 30,.tmp 33,.tmp 36],[24,35]),(24,[],[]),(27,[.tmp 5,.tmp 33,.tmp 36],[35]),(30,[.tmp 5,.tmp 36],[35]),(33,[.tmp 5],[35]),(34,[],[]),(35,[],[]),(36,[],[])] (by kernel_rfl) ?_) | (with_reducible refine zF (i:=5) [(0,[],[]),(1,[],[8]),(2,[],[]),(3,[],[]),(4,[],[]),(5,[],[]),(6,[],[]),(7,[.tmp 47],[]),(8,[],[]),(9,[],[]),(10,[],[]),(11,[],[])] (by kernel_rfl) ?_)) <;> simp [-qt,-qd,-ql,rgs,hO,aN,wldV,vD,uB,hlt,k5,k6,k7,k8,k9,kA]) | ((first | (with_reducible refine zA ?_ ?_)) <;> intro qb <;> (have qp:=qb;try simp only [psq] at qp) <;> simp [-qt,-qd,-ql,rgs,hO,aN,wldV,vD,uB,hlt,k5,k6,k7,k8,k9,kA,qb])
    refine hnx.go (n' + 14,is ++ [n' + 17]) (by omega) (by simp [zM hlt hlim]) (by simp) zK (by first | omega | (simp;omega)) ?_
    dsimp only
    refine ⟨by simp,?_,fun _=>⟨?_,by omega,by omega,?_⟩,hS.snoc (fun k hk => ?_) ?_ (by omega) (by omega) (by omega),by omega,fun j hj hj2 => ?_⟩
    ·rw [zL,if_neg (by omega)]
     try simp
     try exact List.eq_nil_of_length_eq_zero h0
    ·rw [zM8 hlt]
     repeat (first | rw [zI _ _ _ _ (by omega)] | rw [zL])
     simp [uB]
     right;exact List.eq_nil_of_length_eq_zero h0
    ·intro hm
     rcases List.mem_append.1 hm with hm | hm
     ·have:=hS.hi _ hm;omega
     ·simp at hm
    ·have:=hS.hi k hk
     have:=hS.lo k hk
     repeat rw [zI _ _ _ _ (by omega)]
    ·repeat (first | rw [zI _ _ _ _ (by omega)] | rw [zL])
    ·repeat rw [zI _ _ _ _ (by omega)]
     exact hF j hj hj2
   ·have hc:(gt w.groups (is.length:Int)).waits.length ≤ 1048576:=by have:=zD0 (·.waits.length) (zE3 (show (0:Int) ≤ (is.length:Int) by omega) (show (is.length:Int) < w.groups.length by omega));omega
    rw [if_neg h0] at hO
    obtain ⟨hR1,hR2,hR3,hR4⟩:=hR (by omega)
    have m1:∀ k,(id = n' + k) = False:=fun k=>by simp only [eq_iff_iff,iff_false];omega
    have m2:∀ k,(nx + k = id) = (nx + k = id):=fun k=>rfl
    have m3:(nx + 37 = id) = False:=by simp only [eq_iff_iff,iff_false];omega
    have m4:(nx = id) = False:=by simp only [eq_iff_iff,iff_false];omega
    try simp [-qt,-qd,-ql,rgs,hO,hR1,aN,wldV,vD,uB,hlt,k5,k6,k7,k8,k9,kA,m1,m3,m4]
    repeat' first | done | ((first | ((with_reducible show zU _ _ _ _ _ _);refine zB rfl fun _ => ?_) | ((with_reducible show zJ _ _ _ _ _ _ _);refine zC rfl omA omA ?_) | ((with_reducible show zG _ _ _ 120 _ _);refine yD (f_l12Copy (r:=F 13) (g:=gt w.groups (is.length:Int)) hc) ?_) | ((with_reducible show vZ _ _ _ _ _ _ _ _);refine zQ rfl rfl (by decide) (by decide) (by first | (simp [-qt,-qd,-ql,rgs,hO,hR1,aN,wldV,vD,uB,hlt,k5,k6,k7,k8,k9,kA,m1,m3,m4];done) | (simp [-qt,-qd,-ql,rgs,hO,hR1,aN,wldV,vD,uB,hlt,k5,k6,k7,k8,k9,kA,m1,m3,m4];rfl)) (by first | (simp [-qt,-qd,-ql,rgs,hO,hR1,aN,wldV,vD,uB,hlt,k5,k6,k7,k8,k9,kA,m1,m3,m4];done) | (simp [-qt,-qd,-ql,rgs,hO,hR1,aN,wldV,vD,uB,hlt,k5,k6,k7,k8,k9,kA,m1,m3,m4];rfl)) (by first | (simp;done) | (simp;omega)) (by first | (simp only [zY,LIM] at *; simp;omega) | (simp only [zY];simp;omega)) (by simp [iv,bv]) ?_) | (with_reducible refine zF (i:=1) [(0,[],[]),(1,[],[20,24,35]),(2,[],[]),(3,[],[20,24,35]),(5,[],[]),(6,[],[20,24,35]),(8,[],[]),(9,[],[20,24,35]),(11,[],[]),(12,[],[20,24,35]),(14,[],[]),(15,[],[20,24,35]),(17,[],[]),(18,[],[20,24,35]),(21,[],[]),(22,[],[20,24,35]),(25,[],[]),(26,[],[20,24,35]),(28,[],[]),(29,[],[20,24,35]),(31,[],[]),(32,[],[20,24,35]),(4,[.tmp 5,.tmp 10,.tmp 13,.tmp 16,.tmp 19,.tmp 22,.tmp 26,.tmp 30,.tmp 33,.tmp 36],[20,24,35]),(7,[.tmp 5,.tmp 13,.tmp 16,.tmp 19,.tmp 22,.tmp 26,.tmp 30,.tmp 33,.tmp 36],[20,24,35]),(10,[.tmp 5,.tmp 16,.tmp 19,.tmp 22,.tmp 26,.tmp 30,.tmp 33,.tmp 36],[20,24,35]),(13,[.tmp 5,.tmp 19,.tmp 22,.tmp 26,.tmp 30,.tmp 33,.tmp 36],[20,24,35]),(16,[.tmp 5,.tmp 22,.tmp 26,.tmp 30,.tmp 33,.tmp 36],[20,24,35]),(19,[.tmp 5,.tmp 26,.tmp 30,.tmp 33,.tmp 36],[20,24,35]),(20,[],[]),(23,[.tmp 5,.tmp 30,.tmp 33,.tmp 36],[24,35]),(24,[],[]),(27,[.tmp 5,.tmp 33,.tmp 36],[35]),(30,[.tmp 5,.tmp 36],[35]),(33,[.tmp 5],[35]),(34,[],[]),(35,[],[]),(36,[],[])] (by kernel_rfl) ?_) | (with_reducible refine zF (i:=5) [(0,[],[]),(1,[],[8]),(2,[],[]),(3,[],[]),(4,[],[]),(5,[],[]),(6,[],[]),(7,[.tmp 47],[]),(8,[],[]),(9,[],[]),(10,[],[]),(11,[],[])] (by kernel_rfl) ?_)) <;> simp [-qt,-qd,-ql,rgs,hO,hR1,aN,wldV,vD,uB,hlt,k5,k6,k7,k8,k9,kA,m1,m3,m4]) | ((first | (with_reducible refine zA ?_ ?_)) <;> intro qb <;> (have qp:=qb;try simp only [psq] at qp) <;> simp [-qt,-qd,-ql,rgs,hO,hR1,aN,wldV,vD,uB,hlt,k5,k6,k7,k8,k9,kA,m1,m3,m4,qb])
    refine hnx.go (n' + 14,is ++ [n' + 17]) (by omega) (by simp [zM hlt hlim]) (by simp) zK (by first | omega | (simp;omega)) ?_
    dsimp only
    refine ⟨by simp,?_,fun _=>⟨?_,by omega,by omega,?_⟩,hS.snoc (fun k hk => ?_) ?_ (by omega) (by omega) (by omega),by omega,fun j hj hj2 => ?_⟩
    ·rw [zL,if_neg (by omega)]
     try simp
     try exact List.eq_nil_of_length_eq_zero h0
    ·rw [zM8 hlt]
     repeat (first | rw [zI _ _ _ _ (by omega)] | rw [zL])
     simp [uB]
    ·intro hm
     rcases List.mem_append.1 hm with hm | hm
     ·have:=hS.hi _ hm;omega
     ·simp at hm
    ·have:=hS.hi k hk
     have:=hS.lo k hk
     have hne:k ≠ id:=fun e=>hR4 (e ▸ hk)
     repeat rw [zI _ _ _ _ (by omega)]
    ·repeat (first | rw [zI _ _ _ _ (by omega)] | rw [zL])
    ·repeat rw [zI _ _ _ _ (by omega)]
     exact hF j hj hj2
  ·have he:is.length = w.groups.length:=by omega
   have key:∀ (HF:zZ) (id nn gl:Nat),gl = w.groups.length → (∀ j,j < n1 + 12 → j ≠ nx + 37 → j ≠ nx + 1 → HF j = H2 j) → (∀ k ∈ is,HF k = h' k) → HF id = some (.row 5 (List.zipWith uB w.groups is)) →
    n1 + 12 ≤ id → id ∉ is → id < nn → n' + 1 ≤ nn → KeepB nx HF h ∧ ∃ X,AV.agg [.int .i64 w.now,.ref ip 1 0 w.progs.length,.ref n1 5 0 w.tree.length,.ref (n1 + 1) 4 0 w.events.length,.ref (n1 + 2) 1 0 w.spread.told.length,.ref (n1 + 3) 1 0 w.spread.work.length,.ref (n1 + 4) 3 0 w.timers.heap.length,.ref (n1 + 5) 5 0 w.timers.list.length,.int .i64 w.timers.next,.ref (n1 + 6) 1 0 w.afters.slots.ages.length,.ref (n1 + 7) 1 0 w.afters.slots.used.length,.ref (n1 + 8) 5 0 w.afters.list.length,.ref (nx + 25) 9 0 w.tasks.length,.ref id 5 0 gl,.ref (nx + 29) 4 0 w.sights.length,.ref (n1 + 9) 1 0 w.began.length,.ref (n1 + 10) 1 0 w.rang.length] = AV.agg (vN X w) ∧ WV HF X w ∧ ∀ i ∈ X.ids,nx ≤ i ∧ i < nn:=by
    intro HF id nn gl hgl c1 c2 c3 c7 c8 c10 c11
    subst hgl
    have t0:=(c1 ip (by omega) (by omega) (by omega)).trans q0
    have t1:=(c1 n1 (by omega) (by omega) (by omega)).trans q1
    have t2:=(c1 (n1 + 1) (by omega) (by omega) (by omega)).trans q2
    have t3:=(c1 (n1 + 2) (by omega) (by omega) (by omega)).trans q3
    have t4:=(c1 (n1 + 3) (by omega) (by omega) (by omega)).trans q4
    have t5:=(c1 (n1 + 4) (by omega) (by omega) (by omega)).trans q5
    have t6:=(c1 (n1 + 5) (by omega) (by omega) (by omega)).trans q6
    have t7:=(c1 (n1 + 6) (by omega) (by omega) (by omega)).trans q7
    have t8:=(c1 (n1 + 7) (by omega) (by omega) (by omega)).trans q8
    have t9:=(c1 (n1 + 8) (by omega) (by omega) (by omega)).trans q9
    have t10:=(c1 (nx + 25) (by omega) (by omega) (by omega)).trans q10
    have t11:=(c1 (nx + 29) (by omega) (by omega) (by omega)).trans q11
    have t12:=(c1 (n1 + 9) (by omega) (by omega) (by omega)).trans q12
    have t13:=(c1 (n1 + 10) (by omega) (by omega) (by omega)).trans q13
    have nn1:∀ t,t < nx + 39 ∨ n1 ≤ t → t ∉ isp:=fun t ht hm=>by have:=hS1.lo t hm;have:=hS1.hi t hm;omega
    have nn2:∀ t,t < n1 + 12 ∨ n' ≤ t → t ∉ is:=fun t ht hm=>by have:=hS.lo t hm;have:=hS.hi t hm;omega
    refine ⟨fun j hj=>(c1 j (by omega) (by omega) (by omega)).trans (hK2 j hj),WI.ofL [ip,n1,n1 + 1,n1 + 2,n1 + 3,n1 + 4,n1 + 5,n1 + 6,n1 + 7,n1 + 8,nx + 25,id,nx + 29,n1 + 9,n1 + 10] isp is,rfl,
     WV.ofM (a:=nx + 39) (b:=n1) (c:=n1 + 12) (d:=n') t0 t1 t2 t3 t4 t5 t6 t7 t8 t9 t10 c3 t11 t12 t13 hlen1 he (hS1.keep (fun i hi => ?_) (Nat.le_refl _) (Nat.le_refl _)) (hS.keep c2 (Nat.le_refl _) (Nat.le_refl _)) (fun x hx y hy => ?_) ?_ (fun t ht => ?_),fun i hi => ?_⟩
    ·have:=hS1.lo i hi
     have:=hS1.hi i hi
     rw [c1 i (by omega) (by omega) (by omega),qs i hi]
    ·have:=hS1.hi x hx
     have:=hS.lo y hy
     omega
    ·simp only [List.nodup_cons,List.mem_cons,List.not_mem_nil,or_false,not_or,List.nodup_nil,and_true,not_false_eq_true]
     omega
    ·simp only [List.mem_cons,List.not_mem_nil,or_false] at ht
     rcases ht with rfl | rfl | rfl | rfl | rfl | rfl | rfl | rfl | rfl | rfl | rfl | rfl | rfl | rfl | rfl
     ·exact ⟨hni1,nn2 _ (by omega)⟩
     all_goals first
     | exact ⟨nn1 _ (by omega),nn2 _ (by omega)⟩
     | exact ⟨nn1 _ (by omega),c8⟩
    ·rw [WI.ofL_ids] at hi
     rcases List.mem_append.1 hi with hi | hi
     ·simp only [List.mem_cons,List.not_mem_nil,or_false] at hi
      omega
     ·rcases List.mem_append.1 hi with hi | hi
      ·have:=hS1.lo i hi;have:=hS1.hi i hi;omega
      ·have:=hS.lo i hi;have:=hS.hi i hi;omega
   by_cases hg:w.groups = []
   ·have h0:is.length = 0:=by rw [he,hg];rfl
    rw [if_pos h0] at hO
    try simp [-qt,-qd,-ql,rgs,hO,aN,zN,wldV,he,hlt,k5,k6,k7,k8,k9,kA]
    repeat' first | done | ((first | ((with_reducible show zU _ _ _ _ _ _);refine zB rfl fun _ => ?_) | ((with_reducible show zJ _ _ _ _ _ _ _);refine zC rfl omA omA ?_) | ((with_reducible show vZ _ _ _ _ _ _ _ _);refine zQ rfl rfl (by decide) (by decide) (by first | (simp [-qt,-qd,-ql,rgs,hO,aN,zN,wldV,he,hlt,k5,k6,k7,k8,k9,kA];done) | (simp [-qt,-qd,-ql,rgs,hO,aN,zN,wldV,he,hlt,k5,k6,k7,k8,k9,kA];rfl)) (by first | (simp [-qt,-qd,-ql,rgs,hO,aN,zN,wldV,he,hlt,k5,k6,k7,k8,k9,kA];done) | (simp [-qt,-qd,-ql,rgs,hO,aN,zN,wldV,he,hlt,k5,k6,k7,k8,k9,kA];rfl)) (by first | (simp;done) | (simp;omega)) (by first | (simp only [zY,LIM] at *; simp;omega) | (simp only [zY];simp;omega)) (by simp [iv,bv]) ?_) | (with_reducible refine zF (i:=1) [(0,[],[]),(1,[],[20,24,35]),(2,[],[]),(3,[],[20,24,35]),(5,[],[]),(6,[],[20,24,35]),(8,[],[]),(9,[],[20,24,35]),(11,[],[]),(12,[],[20,24,35]),(14,[],[]),(15,[],[20,24,35]),(17,[],[]),(18,[],[20,24,35]),(21,[],[]),(22,[],[20,24,35]),(25,[],[]),(26,[],[20,24,35]),(28,[],[]),(29,[],[20,24,35]),(31,[],[]),(32,[],[20,24,35]),(4,[.tmp 5,.tmp 10,.tmp 13,.tmp 16,.tmp 19,.tmp 22,.tmp 26,.tmp 30,.tmp 33,.tmp 36],[20,24,35]),(7,[.tmp 5,.tmp 13,.tmp 16,.tmp 19,.tmp 22,.tmp 26,.tmp 30,.tmp 33,.tmp 36],[20,24,35]),(10,[.tmp 5,.tmp 16,.tmp 19,.tmp 22,.tmp 26,.tmp 30,.tmp 33,.tmp 36],[20,24,35]),(13,[.tmp 5,.tmp 19,.tmp 22,.tmp 26,.tmp 30,.tmp 33,.tmp 36],[20,24,35]),(16,[.tmp 5,.tmp 22,.tmp 26,.tmp 30,.tmp 33,.tmp 36],[20,24,35]),(19,[.tmp 5,.tmp 26,.tmp 30,.tmp 33,.tmp 36],[20,24,35]),(20,[],[]),(23,[.tmp 5,.tmp 30,.tmp 33,.tmp 36],[24,35]),(24,[],[]),(27,[.tmp 5,.tmp 33,.tmp 36],[35]),(30,[.tmp 5,.tmp 36],[35]),(33,[.tmp 5],[35]),(34,[],[]),(35,[],[]),(36,[],[])] (by kernel_rfl) ?_) | (with_reducible refine zF (i:=5) [(0,[],[]),(1,[],[8]),(2,[],[]),(3,[],[]),(4,[],[]),(5,[],[]),(6,[],[]),(7,[.tmp 47],[]),(8,[],[]),(9,[],[]),(10,[],[]),(11,[],[])] (by kernel_rfl) ?_)) <;> simp [-qt,-qd,-ql,rgs,hO,aN,zN,wldV,he,hlt,k5,k6,k7,k8,k9,kA]) | ((first | (with_reducible refine zA ?_ ?_)) <;> intro qb <;> (have qp:=qb;try simp only [psq] at qp) <;> simp [-qt,-qd,-ql,rgs,hO,aN,zN,wldV,he,hlt,k5,k6,k7,k8,k9,kA,qb])
    refine .nilR (i:=13) (sz:=5) rfl (by decide) (.done ?_)
    have hz:List.zipWith uB w.groups is = []:=by rw [hg];rfl
    have hl:w.groups.length = 0:=by rw [hg];rfl
    refine key _ (n' + 7) (n' + 7 + 1) 0 hl.symm ?_ ?_ ?_ (by omega) (fun hm=>by have:=hS.hi _ hm;omega) (by omega) (by omega)
    ·intro j hj h3 h1
     repeat rw [zI _ _ _ _ (by omega)]
     exact hF j hj h3
    ·intro k hk
     have:=hS.lo k hk
     have:=hS.hi k hk
     repeat rw [zI _ _ _ _ (by omega)]
    ·rw [hz];exact zL ..
   ·have h0:¬ is.length = 0:=by rw [he];simpa using hg
    rw [if_neg h0] at hO
    obtain ⟨hR1,hR2,hR3,hR4⟩:=hR (by omega)
    try simp [-qt,-qd,-ql,rgs,hO,aN,zN,wldV,he,hlt,k5,k6,k7,k8,k9,kA]
    repeat' first | done | ((first | ((with_reducible show zU _ _ _ _ _ _);refine zB rfl fun _ => ?_) | ((with_reducible show zJ _ _ _ _ _ _ _);refine zC rfl omA omA ?_) | ((with_reducible show vZ _ _ _ _ _ _ _ _);refine zQ rfl rfl (by decide) (by decide) (by first | (simp [-qt,-qd,-ql,rgs,hO,aN,zN,wldV,he,hlt,k5,k6,k7,k8,k9,kA];done) | (simp [-qt,-qd,-ql,rgs,hO,aN,zN,wldV,he,hlt,k5,k6,k7,k8,k9,kA];rfl)) (by first | (simp [-qt,-qd,-ql,rgs,hO,aN,zN,wldV,he,hlt,k5,k6,k7,k8,k9,kA];done) | (simp [-qt,-qd,-ql,rgs,hO,aN,zN,wldV,he,hlt,k5,k6,k7,k8,k9,kA];rfl)) (by first | (simp;done) | (simp;omega)) (by first | (simp only [zY,LIM] at *; simp;omega) | (simp only [zY];simp;omega)) (by simp [iv,bv]) ?_) | (with_reducible refine zF (i:=1) [(0,[],[]),(1,[],[20,24,35]),(2,[],[]),(3,[],[20,24,35]),(5,[],[]),(6,[],[20,24,35]),(8,[],[]),(9,[],[20,24,35]),(11,[],[]),(12,[],[20,24,35]),(14,[],[]),(15,[],[20,24,35]),(17,[],[]),(18,[],[20,24,35]),(21,[],[]),(22,[],[20,24,35]),(25,[],[]),(26,[],[20,24,35]),(28,[],[]),(29,[],[20,24,35]),(31,[],[]),(32,[],[20,24,35]),(4,[.tmp 5,.tmp 10,.tmp 13,.tmp 16,.tmp 19,.tmp 22,.tmp 26,.tmp 30,.tmp 33,.tmp 36],[20,24,35]),(7,[.tmp 5,.tmp 13,.tmp 16,.tmp 19,.tmp 22,.tmp 26,.tmp 30,.tmp 33,.tmp 36],[20,24,35]),(10,[.tmp 5,.tmp 16,.tmp 19,.tmp 22,.tmp 26,.tmp 30,.tmp 33,.tmp 36],[20,24,35]),(13,[.tmp 5,.tmp 19,.tmp 22,.tmp 26,.tmp 30,.tmp 33,.tmp 36],[20,24,35]),(16,[.tmp 5,.tmp 22,.tmp 26,.tmp 30,.tmp 33,.tmp 36],[20,24,35]),(19,[.tmp 5,.tmp 26,.tmp 30,.tmp 33,.tmp 36],[20,24,35]),(20,[],[]),(23,[.tmp 5,.tmp 30,.tmp 33,.tmp 36],[24,35]),(24,[],[]),(27,[.tmp 5,.tmp 33,.tmp 36],[35]),(30,[.tmp 5,.tmp 36],[35]),(33,[.tmp 5],[35]),(34,[],[]),(35,[],[]),(36,[],[])] (by kernel_rfl) ?_) | (with_reducible refine zF (i:=5) [(0,[],[]),(1,[],[8]),(2,[],[]),(3,[],[]),(4,[],[]),(5,[],[]),(6,[],[]),(7,[.tmp 47],[]),(8,[],[]),(9,[],[]),(10,[],[]),(11,[],[])] (by kernel_rfl) ?_)) <;> simp [-qt,-qd,-ql,rgs,hO,aN,zN,wldV,he,hlt,k5,k6,k7,k8,k9,kA]) | ((first | (with_reducible refine zA ?_ ?_)) <;> intro qb <;> (have qp:=qb;try simp only [psq] at qp) <;> simp [-qt,-qd,-ql,rgs,hO,aN,zN,wldV,he,hlt,k5,k6,k7,k8,k9,kA,qb])
    refine .done (key _ id (n' + 7) _ rfl ?_ ?_ ?_ (by omega) hR4 (by omega) (by omega))
    ·intro j hj h3 h1
     repeat rw [zI _ _ _ _ (by omega)]
     exact hF j hj h3
    ·intro k hk
     have:=hS.lo k hk
     have:=hS.hi k hk
     repeat rw [zI _ _ _ _ (by omega)]
    ·repeat rw [zI _ _ _ _ (by omega)]
     exact hR1
theorem zQ2 {F:Nat → Bool} {w:Wld} (hs:zC9 w ≤ 1048576):WC ctx.P 34 [.agg (wldV F w)] (fun X=>.agg (vN X w)) w:=WC.of (w_l13CopyA hs)
theorem wldV_fz (w:Wld):Fz (.agg (wldV (fun _=>true) w)):=by
 refine .agg _ fun c hc => ?_
 simp only [wldV,List.mem_cons,List.not_mem_nil,or_false] at hc
 rcases hc with rfl | rfl | rfl | rfl | rfl | rfl | rfl | rfl | rfl | rfl | rfl | rfl | rfl | rfl | rfl | rfl | rfl
 ·exact .int _ _
 ·exact .vmap prgV_fz
 ·exact .vmap zI7
 ·exact .vmap zO7
 ·exact .vmap zK1
 ·exact .vmap zE6
 ·exact .vmap vK
 ·exact .vmap zC7
 ·exact .int _ _
 ·exact .vmap zE6
 ·exact .vmap zK1
 ·exact .vmap zC6
 ·exact .vmap tskC_fz
 ·exact .vmap grpV_fz
 ·exact .vmap sgtC_fz
 ·exact .vmap zE6
 ·exact .vmap zE6
end Go.AE.Tryz
end
section
/- Contracts of the reference's readers: worlds. -/
set_option maxRecDepth 8000
set_option maxHeartbeats 4000000
namespace Go.AE.Tryz
open Go.Proofs
open List renaming map_take → qt,map_drop → qd,map_tail → ql
theorem s_Groups {F:Nat → Bool} {w:Wld}:PC ctx.P 110 [.agg (wldV F w)] (.bool (zP7 (zC8 w) w.groups && decide (w.groups.length ≤ 8))):=by
 refine PC.lim (n:=w.groups.length) (x:=.agg (wldV F w)) (by simp) (.agg (x:=.view (F 12) 5 (w.groups.map (vD (F 13)))) (by simp [wldV]) (.here (by simp))) ⟨_,Tryz.func110,by kernel_rfl,by kernel_rfl⟩ fun hlim => ?_
 refine PC.o okC Tryz.func110 rfl (.bool _) fun h nx hnx => ?_
 try simp [-qt,-qd,-ql,rgs,wldV]
 repeat' first | done | ((first | ((with_reducible show zU _ _ _ _ _ _);refine zB rfl fun _ => ?_) | ((with_reducible show zJ _ _ _ _ _ _ _);refine zC rfl omA omA ?_) | (with_reducible refine zF (i:=10) [(0,[],[]),(1,[],[]),(2,[],[]),(3,[],[]),(4,[],[]),(5,[],[]),(6,[],[]),(7,[],[])] (by kernel_rfl) ?_)) <;> simp [-qt,-qd,-ql,rgs,wldV]) | ((first | (with_reducible refine zE ?_ ?_) | (with_reducible refine zA ?_ ?_)) <;> intro qb <;> (have qp:=qb;try simp only [psq] at qp) <;> simp [-qt,-qd,-ql,rgs,wldV,qb])
 refine zW [2,3,4,5,6,7,8,9,10,11,12,13,14,15,16,17,18,19,20,21,22,23,24,25,26,27,28,29,30,31,32,33,34,35,36,37,38,39,40,41,42,43,44,45,46,47,48,49,50,51,52] (w.groups.length) (fun (i:Nat) a=>[(3,.int .i64 i)]) (fun i_ a_ h_ _=>(fun i (_:Unit) _=>zP7 (zC8 w) (w.groups.drop i) = zP7 (zC8 w) w.groups) i_ a_ h_) (()) (by simp) ?_ zT (Nat.le_refl _) ?_
 ·simp
 ·intro i a tm h' n' hle hJ hE hn' next hnx
  try dsimp only at hJ
  have hK:KeepB nx h' h:=KeepB.sub hE zK (by omega)
  simp [-qt,-qd,-ql]
  have e1:h' (nx) = some (.obj (wldV F w)):=by have:=hE (nx) (by omega);simpa [wldV] using this
  have e1n:∀ k,((nx) = n' + k) = False:=fun k=>by simp only [eq_iff_iff,iff_false];omega
  have e1m:((nx) = n') = False:=by simp only [eq_iff_iff,iff_false];omega
  try simp [-qt,-qd,-ql,rgs,wldV,yC,vD,e1,e1n,e1m]
  repeat' first | done | ((first | ((with_reducible show zU _ _ _ _ _ _);refine zB rfl fun _ => ?_) | ((with_reducible show zJ _ _ _ _ _ _ _);refine zC rfl omA omA ?_) | ((with_reducible show zG _ _ _ 205 _ _);refine zD (s_GroupOk (p:=F 13) (g:=gt w.groups (i:Int))) ?_) | ((with_reducible show zG _ _ _ 200 _ _);refine zD (s_Node (w:=w) (F:=F)) ?_) | (with_reducible refine zF (i:=10) [(0,[],[]),(1,[],[]),(2,[],[]),(3,[],[]),(4,[],[]),(5,[],[]),(6,[],[]),(7,[],[])] (by kernel_rfl) ?_)) <;> simp [-qt,-qd,-ql,rgs,wldV,yC,vD,e1,e1n,e1m]) | ((first | (with_reducible refine zE ?_ ?_) | (with_reducible refine zA ?_ ?_)) <;> intro qb <;> (have qp:=qb;try simp only [psq] at qp) <;> simp [-qt,-qd,-ql,rgs,wldV,yC,vD,e1,e1n,e1m,qb])
  ·have hlt:i < w.groups.length:=(by omega)
   rw [zV hlt] at hJ
   refine ⟨?_,zK⟩;clear hnx;simp only [zX,zJ2] at hJ;grind
  ·have hlt:i < w.groups.length:=(by omega)
   rw [zV hlt] at hJ
   refine ⟨?_,zK⟩;clear hnx;simp only [zX,zJ2,vY,inR] at hJ;grind
  ·have hlt:i < w.groups.length:=(by omega)
   rw [zV hlt] at hJ
   refine ⟨?_,zK⟩;clear hnx;simp only [zX,zJ2] at hJ;grind
  ·have hlt:i < w.groups.length:=(by omega)
   rw [zV hlt] at hJ
   refine zW [2,5,38,39,40,41,42,43,44,45,46,47,48,49,50,51,52] ((gt w.groups (i:Int)).waits.length) (fun (i:Nat) a=>[(5,.int .i64 i)]) (fun i_ a_ h_ _=>(fun (j:Nat) (_:Unit) _=>zP7 (fun i=>vY i w.tasks) ((gt w.groups (i:Int)).waits.drop j) = zP7 (fun i=>vY i w.tasks) (gt w.groups (i:Int)).waits) i_ a_ h_) (()) (by simp) ?_ zT (Nat.le_refl _) ?_
   ·simp
   ·intro j b tm2 h2 n2 hle2 hJ2 hE2 hn2 next2 hnx2
    try dsimp only at hJ2
    have hK2:KeepB nx h2 h:=KeepB.sub hE2 zK (by omega)
    simp [-qt,-qd,-ql]
    have e2:h2 (nx) = some (.obj (wldV F w)):=by have:=hE2 (nx) (by omega);simpa [e1,e1n,e1m,wldV] using this
    have e2n:∀ k,((nx) = n2 + k) = False:=fun k=>by simp only [eq_iff_iff,iff_false];omega
    have e2m:((nx) = n2) = False:=by simp only [eq_iff_iff,iff_false];omega
    have e3:h2 (n' + 10) = some (.obj (vD (F 13) (gt w.groups (i:Int)))):=by have:=hE2 (n' + 10) (by omega);simpa [vD] using this
    have e3n:∀ k,((n' + 10) = n2 + k) = False:=fun k=>by simp only [eq_iff_iff,iff_false];omega
    have e3m:((n' + 10) = n2) = False:=by simp only [eq_iff_iff,iff_false];omega
    try simp [-qt,-qd,-ql,rgs,wldV,vD,iv,e2,e2n,e2m,e3,e3n,e3m]
    repeat' first | done | ((first | ((with_reducible show zU _ _ _ _ _ _);refine zB rfl fun _ => ?_) | ((with_reducible show zJ _ _ _ _ _ _ _);refine zC rfl omA omA ?_) | ((with_reducible show zG _ _ _ 201 _ _);refine zD (s_Task (w:=w) (F:=F)) ?_) | (with_reducible refine zF (i:=10) [(0,[],[]),(1,[],[]),(2,[],[]),(3,[],[]),(4,[],[]),(5,[],[]),(6,[],[]),(7,[],[])] (by kernel_rfl) ?_)) <;> simp [-qt,-qd,-ql,rgs,wldV,vD,iv,e2,e2n,e2m,e3,e3n,e3m]) | ((first | (with_reducible refine zE ?_ ?_) | (with_reducible refine zA ?_ ?_)) <;> intro qb <;> (have qp:=qb;try simp only [psq] at qp) <;> simp [-qt,-qd,-ql,rgs,wldV,vD,iv,e2,e2n,e2m,e3,e3n,e3m,qb])
    ·rw [zV (by omega)] at hJ2
     refine ⟨?_,zK⟩;clear hnx hnx2;simp only [zX,zJ2] at hJ hJ2;grind
    ·have hlw:(gt w.groups (i:Int)).waits.length ≤ LIM:=by assumption
     rw [zV (by omega)] at hJ2
     refine hnx2.go () (by omega) (by simp [zM (show j < (gt w.groups (i:Int)).waits.length by omega) hlw]) (by simp) zK (by first | omega | (simp;omega)) ?_
     clear hnx hnx2;simp only [zX] at hJ2;grind
    ·rw [List.drop_eq_nil_of_le (by omega)] at hJ2
     refine hnx.go () (by omega) (by simp [zM hlt hlim]) (by simp) zK (by first | omega | (simp;omega)) ?_
     clear hnx hnx2;simp only [zX,yH,zJ2] at hJ hJ2 ⊢; grind
  ·refine ⟨?_,zK⟩;rw [List.drop_eq_nil_of_le (by omega)] at hJ;clear hnx;simp only [yH] at hJ;rw [← hJ];simp;omega
end Go.AE.Tryz
end
