/- Contracts of the seat's functions: what each answers, for all arguments. -/
import Derived.Test.YtfffnioddgeohaaGreatB2
import Derived.Test.YtfffnioddgeohaaGreatA3
import Derived.Test.YtfffnioddgeohaaGreatB1
import Derived.Test.YtfffnioddgeohaaGreatA4
set_option linter.unusedVariables false
set_option linter.unusedSimpArgs false
set_option linter.deprecated false
section
/- Contracts of the reference's readers: chains, events, functions, tasks, groups. -/
set_option maxRecDepth 8000
set_option maxHeartbeats 4000000
namespace Go.AE.Tryz
open Go.Proofs
open List renaming map_take → qt,map_drop → qd,map_tail → ql
theorem s_ChainOf {p:Bool} {t:List Nod} {n:Int} (ht:uJ t = true) (h0:0 ≤ n) (h1:n < t.length):PC ctx.P 399 [.view p 5 (t.map yS),.int .i64 n] (.view true 1 ((zH6 t n).map iv)):=by
 have hl60:=zC4 ht
 have hin:uF n t = true:=by rw [zE4];omega
 refine PC.o okC Tryz.func399 rfl (.vmap zA5) fun h nx hnx => ?_
 try simp [-qt,-qd,-ql,rgs,ht,hin]
 repeat' first | done | (((with_reducible show zD _ _ _ 365 _ _);refine zB (s_l5Has) ?_) <;> simp [-qt,-qd,-ql,rgs,ht,hin]) | fail
 refine go_dnP (h0:=h) (nx0:=nx) [4,5,6,14,15,16,17,18,19,20,21,22,23,24,25,26,27,28,29,30,31,32,33,34,35,36,37] (fun a=>[(6,.int .i64 a.1),(5,.ref a.2.2 1 0 a.2.1.length)]) (fun a=>a.1.toNat) (fun (a:Int × List Int × Nat) h' n'=>0 ≤ a.1 ∧ a.1 < t.length ∧ nx ≤ a.2.2 ∧ h' a.2.2 = some (.row 1 (a.2.1.map iv)) ∧ a.2.1 ++ zH6 t a.1 = zH6 t n ∧ (a.2.1.length:Int) + a.1 ≤ n ∧ a.2.2 < n') ((n,[],nx + 1)) (by simp) ?_ zG (by omega) ?_
 ·simp [h0,h1,iv]
 ·intro a tm h' n' hJ hE hn' next hnx
  try dsimp only at hJ
  have hK:KeepB nx h' h:=KeepB.sub hE zG (by omega)
  obtain ⟨m,pre,id⟩:=a
  obtain ⟨g0,g1,g2,g3,g4,g5,g6⟩:=hJ
  dsimp only at g0 g1 g2 g3 g4 g5 g6 ⊢
  have hs:=chain_step ht g0 g1
  have hu:=zJ8 ht g0 g1
  have k1:∀ k,(id = n' + k) = False:=fun k=>by simp only [eq_iff_iff,iff_false];omega
  try simp [-qt,-qd,-ql,rgs,yS,g3,k1,iv]
  repeat' first | done | ((first | ((with_reducible show zK _ _ _ _ _ _ _);refine zH rfl omA omA ?_) | ((with_reducible show zL4 _ _ _ _ _ _ _ _);refine yO rfl rfl (by decide) (by decide) (by (simp [-qt,-qd,-ql,rgs,yS,g3,k1,iv];rfl)) (by (simp [-qt,-qd,-ql,rgs,yS,g3,k1,iv];rfl)) (by (simp;done)) (by (simp only [yW,LIM] at *; simp;omega)) (by simp [iv,bv]) ?_)) <;> simp [-qt,-qd,-ql,rgs,yS,g3,k1,iv]) | ((first | (with_reducible refine zL ?_ ?_) | (with_reducible refine zC ?_ ?_)) <;> intro qb <;> (have qp:=qb;try simp only [psq] at qp) <;> simp [-qt,-qd,-ql,rgs,yS,g3,k1,iv,qb])
  all_goals first
   | (refine ⟨?_,zG⟩;rw [if_pos (by simp;omega)] at hs;rw [← g4,hs];first | (rw [List.take_of_length_le (by simp)];simp [iv]) | (simp [iv]))
   | (have hu':=hu (by omega)
      refine hnx.go ((gt t m).up,pre ++ [m],n' + 3) (by simp;omega) (by simp) (by simp) zG (by first | omega | (simp;omega)) ?_
      dsimp only
      refine ⟨by omega,by omega,by omega,by simp [iv],?_,by simp;omega,by simp⟩
      rw [if_neg (by simp;omega)] at hs
      rw [← g4,hs];simp)
theorem s_IsDue {a b:Int}:PC ctx.P 398 [.int .i64 a,.int .i64 b] (.bool (isDue a b)):=by
 refine PC.o okC Tryz.func398 rfl (.bool _) fun h nx hnx => ?_
 try simp [-qt,-qd,-ql,rgs,isDue,never]
 repeat' first | done | ((with_reducible refine zL ?_ ?_) <;> intro qb <;> (have qp:=qb;try simp only [psq] at qp) <;> simp [-qt,-qd,-ql,rgs,isDue,never,qb])
theorem s_l6Event {p:Bool} {t:List Nod} {e:Evt}:PC ctx.P 355 [.view p 5 (t.map yS),.agg (vD e)] (.bool (zD4 t e)):=by
 refine PC.lim (n:=t.length) (x:=.view p 5 (t.map yS)) (by simp) (.here (by simp)) ⟨_,Tryz.func355,by kernel_rfl,by kernel_rfl⟩ fun hlim => ?_
 refine PC.o okC Tryz.func355 rfl (.bool _) fun h nx hnx => ?_
 try simp [-qt,-qd,-ql,rgs,vD,yS,yA hlim]
 repeat' first | done | ((first | ((with_reducible show zT _ _ _ _ _ _);refine zA rfl fun _ => ?_) | ((with_reducible show zK _ _ _ _ _ _ _);refine zH rfl omA omA ?_) | ((with_reducible show zD _ _ _ 205 _ _);refine zB (zA2) ?_) | ((with_reducible show zD _ _ _ 398 _ _);refine zB (s_IsDue) ?_)) <;> simp [-qt,-qd,-ql,rgs,vD,yS,yA hlim]) | ((first | (with_reducible refine zL ?_ ?_) | (with_reducible refine zC ?_ ?_)) <;> intro qb <;> (have qp:=qb;try simp only [psq] at qp) <;> simp [-qt,-qd,-ql,rgs,vD,yS,yA hlim,qb])
 all_goals (try clear hnx)
 all_goals (simp_all [zD4,uF];done)
theorem s_l6First {p q:Bool} {t:List Nod} {l:List Evt} {n:Int} (ht:uJ t = true) (h0:0 ≤ n) (h1:n < t.length) :
 PC ctx.P 356 [.view p 5 (t.map yS),.view q 4 (l.map vD),.int .i64 n] (.int .i64 (yH (fun e=>(zH6 t n).contains e.node) l 0)):=by
 refine PC.lim (n:=l.length) (x:=.view q 4 (l.map vD)) (by simp) (.here (by simp)) ⟨_,Tryz.func356,by kernel_rfl,by kernel_rfl⟩ fun hlim => ?_
 refine PC.o okC Tryz.func356 rfl (.int _ _) fun h nx hnx => ?_
 try simp [-qt,-qd,-ql,rgs]
 repeat' first | done | (((with_reducible show zD _ _ _ 399 _ _);refine zB (s_ChainOf ht h0 h1) ?_) <;> simp [-qt,-qd,-ql,rgs]) | fail
 refine zR [6,8,12,13,14,15,16,17,18,19,20,21,22,23,24,25] (l.length) (fun (i:Nat) a=>[(8,.int .i64 i)]) (fun i_ a_ h_ _=>(fun i (_:Unit) _=>yH (fun e=>(zH6 t n).contains e.node) (l.drop i) i = yH (fun e=>(zH6 t n).contains e.node) l 0) i_ a_ h_) (()) (by simp) ?_ zO (Nat.le_refl _) ?_
 ·simp
 ·intro i a tm h' n' hle hJ hE hn' next hnx
  try dsimp only at hJ
  have hK:KeepB nx h' h:=KeepB.sub hE zG (by omega)
  simp [-qt,-qd,-ql]
  repeat' first | done | ((first | ((with_reducible show zT _ _ _ _ _ _);refine zA rfl fun _ => ?_) | ((with_reducible show zK _ _ _ _ _ _ _);refine zH rfl omA omA ?_) | ((with_reducible show zD _ _ _ 364 _ _);refine zB (s_l6In) ?_)) <;> simp [-qt,-qd,-ql,rgs,vD]) | ((with_reducible refine zC ?_ ?_) <;> intro qb <;> (have qp:=qb;try simp only [psq] at qp) <;> simp [-qt,-qd,-ql,rgs,vD,qb])
  all_goals
   first
   | (have hlt:i < l.length:=(by first | omega | (simp at *; omega))
      rw [zQ hlt] at hJ
      first
      | (refine hnx.go (()) ?_ ?_ ?_ ?_ ?_ ?_;omega;(simp [zI hlt hlim]);(simp);exact zG;(first | omega | (simp;omega));(try dsimp only);clear hnx;first | ((try simp only [List.drop_length,Int.toNat_natCast,yH] at hJ ⊢);grind) | (simp_all [yH];done) | (simp_all;omega))
      | (refine ⟨?_,zG⟩;clear hnx;first | ((try simp only [List.drop_length,Int.toNat_natCast,yH] at hJ ⊢);grind) | (simp_all [yH];done) | (simp_all;omega)))
   | (obtain rfl:i = l.length:=(by first | omega | (simp at *; omega))
      refine ⟨?_,zG⟩;clear hnx;first | ((try simp only [List.drop_length,Int.toNat_natCast,yH] at hJ ⊢);grind) | (simp_all [yH];done) | (simp_all;omega))
theorem s_EventsOk {p q:Bool} {t:List Nod} {l:List Evt}:PC ctx.P 273 [.view p 5 (t.map yS),.view q 4 (l.map vD)] (.bool (yT t l)):=by
 refine PC.lim (n:=l.length) (x:=.view q 4 (l.map vD)) (by simp) (.here (by simp)) ⟨_,Tryz.func273,by kernel_rfl,by kernel_rfl⟩ fun hlim => ?_
 by_cases ht:uJ t = true
 ·refine PC.o okC Tryz.func273 rfl (.bool _) fun h nx hnx => ?_
  try simp [-qt,-qd,-ql,rgs,ht]
  repeat' first | done | (((with_reducible show zD _ _ _ 274 _ _);refine zB (s_TreeOk) ?_) <;> simp [-qt,-qd,-ql,rgs,ht]) | fail
  refine zR [4,5,9,10,11,12,13,14,15,16,17,18,19,20,21,22,23,24,25,26,27,28,29,30,31,32,33,34,35,36,37,38,39,40,41,42,43,44,45,46,47,48,49,50,51,52] (l.length) (fun (i:Nat) a=>[(5,.int .i64 i)]) (fun i_ a_ h_ _=>(fun i (_:Unit) _=>uA (fun i e=>fits t (l.take i.toNat) e) (l.drop i) i = uA (fun i e=>fits t (l.take i.toNat) e) l 0) i_ a_ h_) (()) (by simp) ?_ zO (Nat.le_refl _) ?_
  ·simp
  ·intro i a tm h' n' hle hJ hE hn' next hnx
   try dsimp only at hJ
   have hK:KeepB nx h' h:=KeepB.sub hE zG (by omega)
   simp [-qt,-qd,-ql]
   have hlim':=hlim
   simp only [LIM] at hlim'
   have hnode:zD4 t (gt l (i:Int)) = true → 0 ≤ (gt l (i:Int)).node ∧ (gt l (i:Int)).node < t.length:=isEvent_in
   repeat' first | done | ((first | ((with_reducible show zT _ _ _ _ _ _);refine zA rfl fun _ => ?_) | ((with_reducible show zK _ _ _ _ _ _ _);refine zH rfl omA omA ?_) | ((with_reducible show zG9 _ _ _ _ _ _ _ _ _ _ _);refine zS0 rfl omA omA ?_) | ((with_reducible show zD _ _ _ 355 _ _);refine zB (s_l6Event (e:=gt l (i:Int))) ?_) | ((with_reducible show zD _ _ _ 356 _ _);refine zB (s_l6First ht (hnode (by assumption)).1 (hnode (by assumption)).2) ?_) | (with_reducible refine zP (i:=6) [(0,[],[]),(1,[],[]),(2,[],[]),(3,[],[]),(4,[],[]),(5,[],[]),(6,[],[]),(7,[],[]),(8,[],[]),(9,[],[]),(10,[],[]),(11,[],[]),(12,[],[]),(13,[],[]),(14,[],[]),(15,[],[]),(16,[],[]),(17,[],[]),(18,[],[]),(19,[],[]),(20,[],[]),(21,[],[]),(22,[],[]),(23,[],[]),(24,[],[]),(25,[],[]),(26,[],[]),(27,[],[]),(28,[],[]),(29,[],[]),(30,[],[]),(31,[],[]),(32,[],[]),(33,[],[]),(34,[],[]),(35,[],[]),(36,[],[]),(37,[],[])] (by kernel_rfl) ?_)) <;> simp [-qt,-qd,-ql,rgs,vD,zE (x:=(i:Int) - 1) (by omega)]) | ((first | (with_reducible refine yQ ?_ ?_) | (with_reducible refine zC ?_ ?_)) <;> intro qb <;> (have qp:=qb;try simp only [psq] at qp) <;> simp [-qt,-qd,-ql,rgs,vD,zE (x:=(i:Int) - 1) (by omega),qb])
   all_goals first
    | (have hlt:i < l.length:=(by omega)
       rw [zQ hlt] at hJ
       simp only [uA,Int.toNat_natCast,fits_eq hlt] at hJ
       first
       | (refine hnx.go () (by omega) (by simp [zI hlt hlim]) (by simp) zG (by first | omega | (simp;omega)) ?_;clear hnx;grind)
       | (refine ⟨?_,zG⟩;clear hnx;simp only [yT];grind))
    | (refine ⟨?_,zG⟩;rw [List.drop_eq_nil_of_le (by omega)] at hJ;clear hnx;simp only [uA,yT] at hJ ⊢; grind)
 ·refine PC.o okC Tryz.func273 rfl (.bool _) fun h nx hnx => ?_
  try simp [-qt,-qd,-ql,rgs,ht]
  repeat' first | done | (((with_reducible show zD _ _ _ 274 _ _);refine zB (s_TreeOk) ?_) <;> simp [-qt,-qd,-ql,rgs,ht]) | fail
  all_goals (try clear hnx)
  all_goals (simp_all [yT];done)
end Go.AE.Tryz
end
section
/- Contracts of the reference's readers: chains, events, functions, tasks, groups. -/
set_option maxRecDepth 8000
set_option maxHeartbeats 4000000
namespace Go.AE.Tryz
open Go.Proofs
open List renaming map_take → qt,map_drop → qd,map_tail → ql
theorem s_l9Leash {n:Int}:PC ctx.P 397 [.int .i64 n] (.bool (inR n (-1) 59)):=by
 refine PC.o okC Tryz.func397 rfl (.bool _) fun h nx hnx => ?_
 try simp [-qt,-qd,-ql,rgs]
 repeat' first | done | (((with_reducible show zD _ _ _ 205 _ _);refine zB (zA2) ?_) <;> simp [-qt,-qd,-ql,rgs]) | fail
theorem s_InsOk {x:Inn}:PC ctx.P 354 [.agg (vY x)] (.bool (innOk x)):=by
 refine PC.o okC Tryz.func354 rfl (.bool _) fun h nx hnx => ?_
 try simp [-qt,-qd,-ql,rgs,vY]
 repeat' first | done | ((first | ((with_reducible show zD _ _ _ 397 _ _);refine zB (s_l9Leash) ?_) | ((with_reducible show zD _ _ _ 205 _ _);refine zB (zA2) ?_)) <;> simp [-qt,-qd,-ql,rgs,vY]) | ((first | (with_reducible refine zL ?_ ?_) | (with_reducible refine zC ?_ ?_)) <;> intro qb <;> (have qp:=qb;try simp only [psq] at qp) <;> simp [-qt,-qd,-ql,rgs,vY,qb])
 all_goals (try clear hnx)
 all_goals first | (simp_all [innOk,hasNode,hasB,inR];done) | (simp_all [innOk,hasNode,hasB,inR];omega) | (rw [Bool.eq_iff_iff];simp_all [innOk,hasNode,hasB,inR];done)
theorem s_ProgOk {p:Bool} {l:List Inn}:PC ctx.P 272 [.view p 3 (l.map vY)] (.bool (zF4 l)):=by
 refine PC.lim (n:=l.length) (x:=.view p 3 (l.map vY)) (by simp) (.here (by simp)) ⟨_,Tryz.func272,by kernel_rfl,by kernel_rfl⟩ fun hlim => ?_
 refine PC.o okC Tryz.func272 rfl (.bool _) fun h nx hnx => ?_
 try simp [-qt,-qd,-ql,rgs]
 refine zR [2,3,4,5,6,7,8,9,10,11,12,13,14,15] (l.length) (fun (i:Nat) a=>[(3,.int .i64 i)]) (fun i_ a_ h_ _=>(fun i (_:Unit) _=>((l.drop i).any fun x => !innOk x) = l.any fun x => !innOk x) i_ a_ h_) (()) (by simp) ?_ zO (Nat.le_refl _) ?_
 ·simp
 ·intro i a tm h' n' hle hJ hE hn' next hnx
  try dsimp only at hJ
  have hK:KeepB nx h' h:=KeepB.sub hE zG (by omega)
  simp [-qt,-qd,-ql]
  repeat' first | done | ((first | ((with_reducible show zT _ _ _ _ _ _);refine zA rfl fun _ => ?_) | ((with_reducible show zK _ _ _ _ _ _ _);refine zH rfl omA omA ?_) | ((with_reducible show zD _ _ _ 354 _ _);refine zB (s_InsOk) ?_)) <;> simp [-qt,-qd,-ql,rgs]) | ((with_reducible refine zC ?_ ?_) <;> intro qb <;> (have qp:=qb;try simp only [psq] at qp) <;> simp [-qt,-qd,-ql,rgs,qb])
  all_goals
   first
   | (have hlt:i < l.length:=(by first | omega | (simp at *; omega))
      rw [zQ hlt] at hJ
      first
      | (refine hnx.go (()) ?_ ?_ ?_ ?_ ?_ ?_;omega;(simp [zI hlt hlim]);(simp);exact zG;(first | omega | (simp;omega));(try dsimp only);clear hnx;first | ((try simp only [List.drop_length,Int.toNat_natCast,List.any_cons,List.any_nil,zF4] at hJ ⊢);grind) | (simp_all [List.any_cons,List.any_nil,zF4];done) | (simp_all;omega))
      | (refine ⟨?_,zG⟩;clear hnx;first | ((try simp only [List.drop_length,Int.toNat_natCast,List.any_cons,List.any_nil,zF4] at hJ ⊢);grind) | (simp_all [List.any_cons,List.any_nil,zF4];done) | (simp_all;omega)))
   | (obtain rfl:i = l.length:=(by first | omega | (simp at *; omega))
      refine ⟨?_,zG⟩;clear hnx;first | ((try simp only [List.drop_length,Int.toNat_natCast,List.any_cons,List.any_nil,zF4] at hJ ⊢);grind) | (simp_all [List.any_cons,List.any_nil,zF4];done) | (simp_all;omega))
theorem s_l10Waits {t:Tsk}:PC ctx.P 402 [.agg (yM t)] (.bool (tsk1 t)):=by
 refine PC.o okC Tryz.func402 rfl (.bool _) fun h nx hnx => ?_
 try simp [-qt,-qd,-ql,rgs,yM]
 repeat' first | done | (((with_reducible show zD _ _ _ 205 _ _);refine zB (zA2) ?_) <;> simp [-qt,-qd,-ql,rgs,yM]) | ((first | (with_reducible refine zL ?_ ?_) | (with_reducible refine zC ?_ ?_)) <;> intro qb <;> (have qp:=qb;try simp only [psq] at qp) <;> simp [-qt,-qd,-ql,rgs,yM,qb])
 all_goals (try clear hnx)
 all_goals first | (simp_all [tsk1,inR];done) | (simp_all [tsk1,inR];omega)
theorem zN2 {t:Tsk}:PC ctx.P 363 [.agg (yM t)] (.bool (zB5 t)):=by
 rw [tskOk_eq]
 refine PC.o okC Tryz.func363 rfl (.bool _) fun h nx hnx => ?_
 try simp [-qt,-qd,-ql,rgs,yM]
 repeat' first | done | ((first | ((with_reducible show zD _ _ _ 205 _ _);refine zB (zA2) ?_) | ((with_reducible show zD _ _ _ 402 _ _);refine zB (s_l10Waits (t:=t)) ?_)) <;> simp [-qt,-qd,-ql,rgs,yM]) | ((first | (with_reducible refine zL ?_ ?_) | (with_reducible refine zC ?_ ?_)) <;> intro qb <;> (have qp:=qb;try simp only [psq] at qp) <;> simp [-qt,-qd,-ql,rgs,yM,qb])
 all_goals (try clear hnx)
 all_goals (simp_all [tskS];done)
theorem zQ5 {p:Bool} {l:List Tsk}:PC ctx.P 278 [.view p 9 (l.map yM)] (.bool (vA l)):=by
 refine PC.lim (n:=l.length) (x:=.view p 9 (l.map yM)) (by simp) (.here (by simp)) ⟨_,Tryz.func278,by kernel_rfl,by kernel_rfl⟩ fun hlim => ?_
 refine PC.o okC Tryz.func278 rfl (.bool _) fun h nx hnx => ?_
 try simp [-qt,-qd,-ql,rgs]
 refine zR [2,3,4,5,6,7,8,9,10,11,12,13,14,15] (l.length) (fun (i:Nat) a=>[(3,.int .i64 i)]) (fun i_ a_ h_ _=>(fun i (_:Unit) _=>((l.drop i).any fun x => !zB5 x) = l.any fun x => !zB5 x) i_ a_ h_) (()) (by simp) ?_ zO (Nat.le_refl _) ?_
 ·simp
 ·intro i a tm h' n' hle hJ hE hn' next hnx
  try dsimp only at hJ
  have hK:KeepB nx h' h:=KeepB.sub hE zG (by omega)
  simp [-qt,-qd,-ql]
  repeat' first | done | ((first | ((with_reducible show zT _ _ _ _ _ _);refine zA rfl fun _ => ?_) | ((with_reducible show zK _ _ _ _ _ _ _);refine zH rfl omA omA ?_) | ((with_reducible show zD _ _ _ 363 _ _);refine zB (zN2) ?_)) <;> simp [-qt,-qd,-ql,rgs]) | ((with_reducible refine zC ?_ ?_) <;> intro qb <;> (have qp:=qb;try simp only [psq] at qp) <;> simp [-qt,-qd,-ql,rgs,qb])
  all_goals
   first
   | (have hlt:i < l.length:=(by first | omega | (simp at *; omega))
      rw [zQ hlt] at hJ
      first
      | (refine hnx.go (()) ?_ ?_ ?_ ?_ ?_ ?_;omega;(simp [zI hlt hlim]);(simp);exact zG;(first | omega | (simp;omega));(try dsimp only);clear hnx;first | ((try simp only [List.drop_length,Int.toNat_natCast,List.any_cons,List.any_nil,vA] at hJ ⊢);grind) | (simp_all [List.any_cons,List.any_nil,vA];done) | (simp_all;omega))
      | (refine ⟨?_,zG⟩;clear hnx;first | ((try simp only [List.drop_length,Int.toNat_natCast,List.any_cons,List.any_nil,vA] at hJ ⊢);grind) | (simp_all [List.any_cons,List.any_nil,vA];done) | (simp_all;omega)))
   | (obtain rfl:i = l.length:=(by first | omega | (simp at *; omega))
      refine ⟨?_,zG⟩;clear hnx;first | ((try simp only [List.drop_length,Int.toNat_natCast,List.any_cons,List.any_nil,vA] at hJ ⊢);grind) | (simp_all [List.any_cons,List.any_nil,vA];done) | (simp_all;omega))
theorem s_GroupOk {p:Bool} {g:Grp}:PC ctx.P 280 [.agg (vJ p g)] (.bool (zJ6 g)):=by
 refine PC.lim (n:=g.waits.length) (x:=.agg (vJ p g)) (by simp) (.agg (x:=.view p 1 (g.waits.map iv)) (by simp [vJ]) (.here (by simp))) ⟨_,Tryz.func280,by kernel_rfl,by kernel_rfl⟩ fun hlim => ?_
 refine PC.o okC Tryz.func280 rfl (.bool _) fun h nx hnx => ?_
 try simp [-qt,-qd,-ql,rgs,vJ]
 repeat' first | done | (((with_reducible show zD _ _ _ 205 _ _);refine zB (zA2) ?_) <;> simp [-qt,-qd,-ql,rgs,vJ]) | ((first | (with_reducible refine zL ?_ ?_) | (with_reducible refine zC ?_ ?_)) <;> intro qb <;> (have qp:=qb;try simp only [psq] at qp) <;> simp [-qt,-qd,-ql,rgs,vJ,qb])
 all_goals first | (clear hnx;simp only [zJ6];grind) | skip
 all_goals
  refine zR [2,3,38,39,40,41,42,43,44,45,46,47,48,49,50,51,52,53,54,55,56,57,58,59,60,61,62,63] (g.waits.length) (fun (i:Nat) a=>[(3,.int .i64 i)]) (fun i_ a_ h_ _=>(fun i (_:Unit) _=>uA (fun i n=>inR n 0 59 && !(g.waits.take i.toNat).contains n) (g.waits.drop i) i = uA (fun i n=>inR n 0 59 && !(g.waits.take i.toNat).contains n) g.waits 0) i_ a_ h_) (()) (by simp) ?_ zO (Nat.le_refl _) ?_
  ·simp
  ·intro i a tm h' n' hle hJ hE hn' next hnx
   try dsimp only at hJ
   have hK:KeepB nx h' h:=KeepB.sub hE zG (by omega)
   simp [-qt,-qd,-ql]
   have e1:h' (nx) = some (.obj (vJ p g)):=by have:=hE (nx) (by omega);simpa [vJ] using this
   have e1n:∀ k,((nx) = n' + k) = False:=fun k=>by simp only [eq_iff_iff,iff_false];omega
   have e1m:((nx) = n') = False:=by simp only [eq_iff_iff,iff_false];omega
   try simp [-qt,-qd,-ql,rgs,vJ,iv,e1,e1n,e1m]
   repeat' first | done | ((first | ((with_reducible show zT _ _ _ _ _ _);refine zA rfl fun _ => ?_) | ((with_reducible show zK _ _ _ _ _ _ _);refine zH rfl omA omA ?_) | ((with_reducible show zG9 _ _ _ _ _ _ _ _ _ _ _);refine zS0 rfl omA omA ?_) | ((with_reducible show zD _ _ _ 205 _ _);refine zB (zA2) ?_) | ((with_reducible show zD _ _ _ 364 _ _);refine zB (s_l6In) ?_) | (with_reducible refine zP (i:=6) [(0,[],[]),(1,[],[]),(2,[],[]),(3,[],[]),(4,[],[]),(5,[],[]),(6,[],[]),(7,[],[]),(8,[],[]),(9,[],[]),(10,[],[]),(11,[],[]),(12,[],[]),(13,[],[]),(14,[],[]),(15,[],[]),(16,[],[]),(17,[],[]),(18,[],[])] (by kernel_rfl) ?_)) <;> simp [-qt,-qd,-ql,rgs,vJ,iv,e1,e1n,e1m]) | ((first | (with_reducible refine yQ ?_ ?_) | (with_reducible refine zL ?_ ?_) | (with_reducible refine zC ?_ ?_)) <;> intro qb <;> (have qp:=qb;try simp only [psq] at qp) <;> simp [-qt,-qd,-ql,rgs,vJ,iv,e1,e1n,e1m,qb])
   all_goals
    first
    | (have hlt:i < g.waits.length:=(by first | omega | (simp at *; omega))
       rw [zQ hlt] at hJ
       first
       | (refine hnx.go (()) ?_ ?_ ?_ ?_ ?_ ?_;omega;(simp [zI hlt hlim]);(simp);exact zG;(first | omega | (simp;omega));(try dsimp only);clear hnx;first | ((try simp only [List.drop_length,Int.toNat_natCast,uA,zJ6] at hJ ⊢);grind) | (simp_all [uA,zJ6];done) | (simp_all;omega))
       | (refine ⟨?_,zG⟩;clear hnx;first | ((try simp only [List.drop_length,Int.toNat_natCast,uA,zJ6] at hJ ⊢);grind) | (simp_all [uA,zJ6];done) | (simp_all;omega)))
    | (obtain rfl:i = g.waits.length:=(by first | omega | (simp at *; omega))
       refine ⟨?_,zG⟩;clear hnx;first | ((try simp only [List.drop_length,Int.toNat_natCast,uA,zJ6] at hJ ⊢);grind) | (simp_all [uA,zJ6];done) | (simp_all;omega))
end Go.AE.Tryz
end
section
/- Contracts of the reference's readers: chains, events, functions, tasks, groups. -/
set_option maxRecDepth 8000
set_option maxHeartbeats 4000000
namespace Go.AE.Tryz
open Go.Proofs
open List renaming map_take → qt,map_drop → qd,map_tail → ql
theorem zN1 {F:Nat → Bool} {p:Bool} {t:List Nod} {s:Spr}:PC ctx.P 145 [.view p 5 (t.map yS),.agg (uK F s)] (.bool (uJ t && vF s t)):=by
 refine PC.lim (n:=s.work.length) (x:=.agg (uK F s)) (by simp) (.agg (x:=.view (F 5) 1 (s.work.map iv)) (by simp [uK]) (.here (by simp))) ⟨_,Tryz.func145,by kernel_rfl,by kernel_rfl⟩ fun hlim => ?_
 refine PC.lim (n:=t.length) (x:=.view p 5 (t.map yS)) (by simp) (.here (by simp)) ⟨_,Tryz.func145,by kernel_rfl,by kernel_rfl⟩ fun hlim2 => ?_
 refine PC.o okC Tryz.func145 rfl (.bool _) fun h nx hnx => ?_
 try simp [-qt,-qd,-ql,rgs,uK]
 repeat' first | done | ((first | ((with_reducible show zT _ _ _ _ _ _);refine zA rfl fun _ => ?_) | ((with_reducible show zD _ _ _ 274 _ _);refine zB (s_TreeOk) ?_)) <;> simp [-qt,-qd,-ql,rgs,uK]) | ((first | (with_reducible refine zL ?_ ?_) | (with_reducible refine zC ?_ ?_)) <;> intro qb <;> (have qp:=qb;try simp only [psq] at qp) <;> simp [-qt,-qd,-ql,rgs,uK,qb])
 all_goals first | (clear hnx;simp [vF];grind) | skip
 refine zR [4,5,23,24,25,26,27,28,29,30,31,32,33,34,35,36,37,38,39] (s.work.length) (fun (i:Nat) a=>[(5,.int .i64 i)]) (fun i_ a_ h_ _=>(fun i (_:Unit) _=>((s.work.drop i).any fun n => !uF n t) = s.work.any fun n => !uF n t) i_ a_ h_) (()) (by simp) ?_ zO (Nat.le_refl _) ?_
 ·simp
 ·intro i a tm h' n' hle hJ hE hn' next hnx
  try dsimp only at hJ
  have hK:KeepB nx h' h:=KeepB.sub hE zG (by omega)
  simp [-qt,-qd,-ql]
  have e1:h' (nx) = some (.obj (uK F s)):=by have:=hE (nx) (by omega);simpa [uK] using this
  have e1n:∀ k,((nx) = n' + k) = False:=fun k=>by simp only [eq_iff_iff,iff_false];omega
  have e1m:((nx) = n') = False:=by simp only [eq_iff_iff,iff_false];omega
  try simp [-qt,-qd,-ql,rgs,uK,iv,yA hlim2,e1,e1n,e1m]
  repeat' first | done | ((first | ((with_reducible show zT _ _ _ _ _ _);refine zA rfl fun _ => ?_) | ((with_reducible show zK _ _ _ _ _ _ _);refine zH rfl omA omA ?_) | ((with_reducible show zD _ _ _ 205 _ _);refine zB (zA2) ?_)) <;> simp [-qt,-qd,-ql,rgs,uK,iv,yA hlim2,e1,e1n,e1m]) | ((with_reducible refine zC ?_ ?_) <;> intro qb <;> (have qp:=qb;try simp only [psq] at qp) <;> simp [-qt,-qd,-ql,rgs,uK,iv,yA hlim2,e1,e1n,e1m,qb])
  all_goals
   first
   | (have hlt:i < s.work.length:=(by first | omega | (simp at *; omega))
      rw [zQ hlt] at hJ
      first
      | (refine hnx.go (()) ?_ ?_ ?_ ?_ ?_ ?_;omega;(simp [zI hlt hlim]);(simp);exact zG;(first | omega | (simp;omega));(try dsimp only);clear hnx;first | ((try simp only [List.drop_length,Int.toNat_natCast,List.any_cons,List.any_nil,vF,uF] at hJ ⊢);grind) | (simp_all [List.any_cons,List.any_nil,vF,uF];done) | (simp_all;omega))
      | (refine ⟨?_,zG⟩;clear hnx;first | ((try simp only [List.drop_length,Int.toNat_natCast,List.any_cons,List.any_nil,vF,uF] at hJ ⊢);grind) | (simp_all [List.any_cons,List.any_nil,vF,uF];done) | (simp_all;omega)))
   | (obtain rfl:i = s.work.length:=(by first | omega | (simp at *; omega))
      refine ⟨?_,zG⟩;clear hnx;first | ((try simp only [List.drop_length,Int.toNat_natCast,List.any_cons,List.any_nil,vF,uF] at hJ ⊢);grind) | (simp_all [List.any_cons,List.any_nil,vF,uF];done) | (simp_all;omega))
theorem s_AftersOk {F:Nat → Bool} {x:Afs}:PC ctx.P 277 [.agg (uZ F x)] (.bool (zD6 x)):=by
 refine PC.lim (n:=x.list.length) (x:=.agg (uZ F x)) (by simp) (.agg (x:=.view (F 10) 5 (x.list.map vB)) (by simp [uZ]) (.here (by simp))) ⟨_,Tryz.func277,by kernel_rfl,by kernel_rfl⟩ fun hlim => ?_
 by_cases hs:zF0 x.slots = true
 ·refine PC.o okC Tryz.func277 rfl (.bool _) fun h nx hnx => ?_
  try simp [-qt,-qd,-ql,rgs,uZ,hs]
  repeat' first | done | ((first | ((with_reducible show zD _ _ _ 360 _ _);refine zB (zM6 (s:=x.slots) (F:=F)) ?_) | ((with_reducible show zD _ _ _ 361 _ _);refine zB (s_UsedIn (s:=x.slots) (F:=F)) ?_) | (with_reducible refine zP (i:=1) [(0,[],[]),(1,[],[]),(2,[],[]),(3,[],[]),(4,[],[]),(5,[],[]),(6,[],[]),(7,[],[]),(8,[],[]),(9,[],[]),(10,[.tmp 11],[]),(11,[],[]),(12,[],[])] (by kernel_rfl) ?_)) <;> simp [-qt,-qd,-ql,rgs,uZ,hs]) | ((with_reducible refine zC ?_ ?_) <;> intro qb <;> (have qp:=qb;try simp only [psq] at qp) <;> simp [-qt,-qd,-ql,rgs,uZ,hs,qb])
  ·simp only [zD6];grind
  refine zR [2,3,4,5,19,20,21,22,23,24,25,26,27,28,29,30,31,32,33,34,35,36,37,38,39,40,41,42,43,44,45,46,47,48,49,50,51,52,53,54,55,56,57,58,59,60,61,62] (x.list.length) (fun (i:Nat) a=>[(3,.int .i64 i)]) (fun i_ a_ h_ _=>(fun (i:Nat) (_:Unit) _=>uA (fun i y=>zC3 y.node y.fn && (zA4 x.slots y.han && afsAt x.list y.han == i)) (x.list.drop i) i = uA (fun i y=>zC3 y.node y.fn && (zA4 x.slots y.han && afsAt x.list y.han == i)) x.list 0) i_ a_ h_) (()) (by simp) ?_ zO (Nat.le_refl _) ?_
  ·simp
  ·intro i a tm h' n' hle hJ hE hn' next hnx
   try dsimp only at hJ
   have hK:KeepB nx h' h:=KeepB.sub hE zG (by omega)
   simp [-qt,-qd,-ql]
   have e1:h' (nx) = some (.obj (uZ F x)):=by have:=hE (nx) (by omega);simpa [uZ] using this
   have e1n:∀ k,((nx) = n' + k) = False:=fun k=>by simp only [eq_iff_iff,iff_false];omega
   have e1m:((nx) = n') = False:=by simp only [eq_iff_iff,iff_false];omega
   try simp [-qt,-qd,-ql,rgs,uZ,vB,e1,e1n,e1m,hs]
   repeat' first | done | ((first | ((with_reducible show zT _ _ _ _ _ _);refine zA rfl fun _ => ?_) | ((with_reducible show zK _ _ _ _ _ _ _);refine zH rfl omA omA ?_) | ((with_reducible show zD _ _ _ 362 _ _);refine zB (s_Holds (s:=x.slots) (F:=F) (x:=(gt x.list (i:Int)).han)) ?_) | ((with_reducible show zD _ _ _ 205 _ _);refine zB (zA2) ?_)) <;> simp [-qt,-qd,-ql,rgs,uZ,vB,e1,e1n,e1m,hs]) | ((first | (with_reducible refine zL ?_ ?_) | (with_reducible refine zC ?_ ?_)) <;> intro qb <;> (have qp:=qb;try simp only [psq] at qp) <;> simp [-qt,-qd,-ql,rgs,uZ,vB,e1,e1n,e1m,hs,qb])
   ·have hlt:i < x.list.length:=(by omega)
    rw [zQ hlt] at hJ
    refine ⟨?_,zG⟩;clear hnx;simp only [uA] at hJ;simp only [zD6];grind
   ·have hlt:i < x.list.length:=(by omega)
    rw [zQ hlt] at hJ
    refine ⟨?_,zG⟩;clear hnx;simp only [uA,zC3] at hJ;simp only [zD6,zC3];grind
   ·have hlt:i < x.list.length:=(by omega)
    rw [zQ hlt] at hJ
    refine ⟨?_,zG⟩;clear hnx;simp only [uA,zC3] at hJ;simp only [zD6,zC3];grind
   ·have hlt:i < x.list.length:=(by omega)
    rw [zQ hlt] at hJ
    refine zR [2,5,49,50,51,52,53,54,55,56,57,58,59,60,61,62] (i) (fun (i:Nat) a=>[(5,.int .i64 i)]) (fun i_ a_ h_ _=>(fun (j:Nat) (_:Unit) _=>yH (fun y=>y.han == (gt x.list (i:Int)).han) ((x.list.take i).drop j) j = yH (fun y=>y.han == (gt x.list (i:Int)).han) (x.list.take i) 0) i_ a_ h_) (()) (by simp) ?_ zO (Nat.le_refl _) ?_
    ·simp
    ·intro j b tm2 h2 n2 hle2 hJ2 hE2 hn2 next2 hnx2
     try dsimp only at hJ2
     have hK2:KeepB nx h2 h:=KeepB.sub hE2 zG (by omega)
     simp [-qt,-qd,-ql]
     have e2:h2 (nx) = some (.obj (uZ F x)):=by have:=hE2 (nx) (by omega);simpa [e1,e1n,e1m,uZ] using this
     have e2n:∀ k,((nx) = n2 + k) = False:=fun k=>by simp only [eq_iff_iff,iff_false];omega
     have e2m:((nx) = n2) = False:=by simp only [eq_iff_iff,iff_false];omega
     have e3:h2 (n' + 10) = some (.obj (vB (gt x.list (i:Int)))):=by have:=hE2 (n' + 10) (by omega);simpa [vB] using this
     have e3n:∀ k,((n' + 10) = n2 + k) = False:=fun k=>by simp only [eq_iff_iff,iff_false];omega
     have e3m:((n' + 10) = n2) = False:=by simp only [eq_iff_iff,iff_false];omega
     repeat' first | done | ((first | ((with_reducible show zK _ _ _ _ _ _ _);refine zH rfl omA omA ?_) | (with_reducible refine zP (i:=12) [(0,[],[]),(1,[],[]),(2,[],[]),(3,[],[]),(4,[],[]),(5,[],[]),(6,[],[]),(7,[],[]),(8,[],[])] (by kernel_rfl) ?_)) <;> simp [-qt,-qd,-ql,rgs,uZ,vB,e2,e2n,e2m,e3,e3n,e3m,zG0,lfOf,uR,cellEq]) | ((with_reducible refine zC ?_ ?_) <;> intro qb <;> (have qp:=qb;try simp only [psq] at qp) <;> simp [-qt,-qd,-ql,rgs,uZ,vB,e2,e2n,e2m,e3,e3n,e3m,zG0,lfOf,uR,cellEq,qb])
     ·rw [han_eq] at qb
      have r:=idx_here (by omega) (by omega) hJ2 qb
      have hh:=afsAt_here hlt
      rw [r] at hh
      refine ⟨?_,zG⟩;clear hnx hnx2;simp only [uA,zC3] at hJ;simp only [zD6,zC3];grind
     ·rw [han_eq] at qb
      refine hnx2.go () (by omega) (by simp [zI (show j < x.list.length by omega) hlim]) (by simp) zG (by first | omega | (simp;omega)) ?_
      exact idx_on (by omega) (by omega) hJ2 qb
     ·have r:=idx_end (by omega) hJ2
      have hh:=afsAt_here hlt
      rw [r] at hh
      refine hnx.go () (by omega) (by simp [zI hlt hlim]) (by simp) zG (by first | omega | (simp;omega)) ?_
      clear hnx hnx2;dsimp only;simp only [uA,zC3] at hJ ⊢; grind
   ·refine ⟨?_,zG⟩;rw [List.drop_eq_nil_of_le (by omega)] at hJ;clear hnx;simp only [uA] at hJ;simp only [zD6];grind
 ·refine PC.o okC Tryz.func277 rfl (.bool _) fun h nx hnx => ?_
  try simp [-qt,-qd,-ql,rgs,uZ,hs]
  repeat' first | done | ((first | ((with_reducible show zD _ _ _ 360 _ _);refine zB (zM6 (s:=x.slots) (F:=F)) ?_) | (with_reducible refine zP (i:=1) [(0,[],[]),(1,[],[]),(2,[],[]),(3,[],[]),(4,[],[]),(5,[],[]),(6,[],[]),(7,[],[]),(8,[],[]),(9,[],[]),(10,[.tmp 11],[]),(11,[],[]),(12,[],[])] (by kernel_rfl) ?_)) <;> simp [-qt,-qd,-ql,rgs,uZ,hs]) | fail
  all_goals (try clear hnx)
  all_goals (simp_all [zD6];done)
end Go.AE.Tryz
end
section
/- Contracts of the reference's readers: worlds. -/
set_option maxRecDepth 8000
set_option maxHeartbeats 4000000
namespace Go.AE.Tryz
open Go.Proofs
open List renaming map_take → qt,map_drop → qd,map_tail → ql
theorem s_Numbers {p:Bool} {l:List Int} {m:Int}:PC ctx.P 151 [.view p 1 (l.map iv),.int .i64 m] (.bool (zS4 (fun n=>inR n 0 m) l && decide (l.length ≤ 2000))):=by
 refine PC.lim (n:=l.length) (x:=.view p 1 (l.map iv)) (by simp) (.here (by simp)) ⟨_,Tryz.func151,by kernel_rfl,by kernel_rfl⟩ fun hlim => ?_
 refine PC.o okC Tryz.func151 rfl (.bool _) fun h nx hnx => ?_
 try simp [-qt,-qd,-ql,rgs]
 refine zR [4,5,6,7,8,9,10,11,12,13,14,15,16,17,18] (l.length) (fun (i:Nat) a=>[(5,.int .i64 i)]) (fun i_ a_ h_ _=>(fun i (_:Unit) _=>zS4 (fun n=>inR n 0 m) (l.drop i) = zS4 (fun n=>inR n 0 m) l) i_ a_ h_) (()) (by simp) ?_ zO (Nat.le_refl _) ?_
 ·simp
 ·intro i a tm h' n' hle hJ hE hn' next hnx
  try dsimp only at hJ
  have hK:KeepB nx h' h:=KeepB.sub hE zG (by omega)
  simp [-qt,-qd,-ql]
  repeat' first | done | ((first | ((with_reducible show zT _ _ _ _ _ _);refine zA rfl fun _ => ?_) | ((with_reducible show zK _ _ _ _ _ _ _);refine zH rfl omA omA ?_) | ((with_reducible show zD _ _ _ 205 _ _);refine zB (zA2) ?_)) <;> simp [-qt,-qd,-ql,rgs,iv]) | ((with_reducible refine zC ?_ ?_) <;> intro qb <;> (have qp:=qb;try simp only [psq] at qp) <;> simp [-qt,-qd,-ql,rgs,iv,qb])
  all_goals
   first
   | (have hlt:i < l.length:=(by first | omega | (simp at *; omega))
      rw [zQ hlt] at hJ
      first
      | (refine hnx.go (()) ?_ ?_ ?_ ?_ ?_ ?_;omega;(simp [zI hlt hlim]);(simp);exact zG;(first | omega | (simp;omega));(try dsimp only);clear hnx;first | ((try simp only [List.drop_length,Int.toNat_natCast,zS,yB] at hJ ⊢);grind) | (simp_all [zS,yB];done) | (simp_all;omega))
      | (refine ⟨?_,zG⟩;clear hnx;first | ((try simp only [List.drop_length,Int.toNat_natCast,zS,yB] at hJ ⊢);grind) | (simp_all [zS,yB];done) | (simp_all;omega)))
   | (obtain rfl:i = l.length:=(by first | omega | (simp at *; omega))
      refine ⟨?_,zG⟩;clear hnx;first | ((try simp only [List.drop_length,Int.toNat_natCast,zS,yB] at hJ ⊢);grind) | (simp_all [zS,yB];done) | (simp_all;omega))
theorem s_Progs {p r:Bool} {l:List (List Inn)}:PC ctx.P 143 [.view p 1 (l.map (zD7 r))] (.bool (zS4 zF4 l && decide (l.length ≤ 8))):=by
 refine PC.lim (n:=l.length) (x:=.view p 1 (l.map (zD7 r))) (by simp) (.here (by simp)) ⟨_,Tryz.func143,by kernel_rfl,by kernel_rfl⟩ fun hlim => ?_
 refine PC.o okC Tryz.func143 rfl (.bool _) fun h nx hnx => ?_
 try simp [-qt,-qd,-ql,rgs]
 refine zR [2,3,4,5,6,7,8,9,10,11,12,13,14,15] (l.length) (fun (i:Nat) a=>[(3,.int .i64 i)]) (fun i_ a_ h_ _=>(fun i (_:Unit) _=>zS4 zF4 (l.drop i) = zS4 zF4 l) i_ a_ h_) (()) (by simp) ?_ zO (Nat.le_refl _) ?_
 ·simp
 ·intro i a tm h' n' hle hJ hE hn' next hnx
  try dsimp only at hJ
  have hK:KeepB nx h' h:=KeepB.sub hE zG (by omega)
  simp [-qt,-qd,-ql]
  repeat' first | done | ((first | ((with_reducible show zT _ _ _ _ _ _);refine zA rfl fun _ => ?_) | ((with_reducible show zK _ _ _ _ _ _ _);refine zH rfl omA omA ?_) | ((with_reducible show zD _ _ _ 272 _ _);refine zB (s_ProgOk) ?_)) <;> simp [-qt,-qd,-ql,rgs,zD7]) | ((with_reducible refine zC ?_ ?_) <;> intro qb <;> (have qp:=qb;try simp only [psq] at qp) <;> simp [-qt,-qd,-ql,rgs,zD7,qb])
  all_goals
   first
   | (have hlt:i < l.length:=(by first | omega | (simp at *; omega))
      rw [zQ hlt] at hJ
      first
      | (refine hnx.go (()) ?_ ?_ ?_ ?_ ?_ ?_;omega;(simp [zI hlt hlim]);(simp);exact zG;(first | omega | (simp;omega));(try dsimp only);clear hnx;first | ((try simp only [List.drop_length,Int.toNat_natCast,zS,yB] at hJ ⊢);grind) | (simp_all [zS,yB];done) | (simp_all;omega))
      | (refine ⟨?_,zG⟩;clear hnx;first | ((try simp only [List.drop_length,Int.toNat_natCast,zS,yB] at hJ ⊢);grind) | (simp_all [zS,yB];done) | (simp_all;omega)))
   | (obtain rfl:i = l.length:=(by first | omega | (simp at *; omega))
      refine ⟨?_,zG⟩;clear hnx;first | ((try simp only [List.drop_length,Int.toNat_natCast,zS,yB] at hJ ⊢);grind) | (simp_all [zS,yB];done) | (simp_all;omega))
theorem s_Node {F:Nat → Bool} {w:Wld} {n:Int}:PC ctx.P 276 [.agg (wldV F w),.int .i64 n] (.bool (uF n w.tree)):=by
 refine PC.lim (n:=w.tree.length) (x:=.agg (wldV F w)) (by simp) (.agg (x:=.view (F 2) 5 (w.tree.map yS)) (by simp [wldV]) (.here (by simp))) ⟨_,Tryz.func276,by kernel_rfl,by kernel_rfl⟩ fun hlim => ?_
 refine PC.o okC Tryz.func276 rfl (.bool _) fun h nx hnx => ?_
 try simp [-qt,-qd,-ql,rgs,wldV,yA hlim,uF]
 repeat' first | done | ((first | ((with_reducible show zT _ _ _ _ _ _);refine zA rfl fun _ => ?_) | ((with_reducible show zD _ _ _ 205 _ _);refine zB (zA2) ?_)) <;> simp [-qt,-qd,-ql,rgs,wldV,yA hlim,uF]) | fail
theorem s_Task {F:Nat → Bool} {w:Wld} {n:Int}:PC ctx.P 94 [.agg (wldV F w),.int .i64 n] (.bool (uF n w.tasks)):=by
 refine PC.lim (n:=w.tasks.length) (x:=.agg (wldV F w)) (by simp) (.agg (x:=.view (F 11) 9 (w.tasks.map yM)) (by simp [wldV]) (.here (by simp))) ⟨_,Tryz.func94,by kernel_rfl,by kernel_rfl⟩ fun hlim => ?_
 refine PC.o okC Tryz.func94 rfl (.bool _) fun h nx hnx => ?_
 try simp [-qt,-qd,-ql,rgs,wldV,yA hlim,uF]
 repeat' first | done | ((first | ((with_reducible show zT _ _ _ _ _ _);refine zA rfl fun _ => ?_) | ((with_reducible show zD _ _ _ 205 _ _);refine zB (zA2) ?_)) <;> simp [-qt,-qd,-ql,rgs,wldV,yA hlim,uF]) | fail
theorem s_Group {F:Nat → Bool} {w:Wld} {n:Int}:PC ctx.P 279 [.agg (wldV F w),.int .i64 n] (.bool (uF n w.groups)):=by
 refine PC.lim (n:=w.groups.length) (x:=.agg (wldV F w)) (by simp) (.agg (x:=.view (F 12) 5 (w.groups.map (vJ (F 13)))) (by simp [wldV]) (.here (by simp))) ⟨_,Tryz.func279,by kernel_rfl,by kernel_rfl⟩ fun hlim => ?_
 refine PC.o okC Tryz.func279 rfl (.bool _) fun h nx hnx => ?_
 try simp [-qt,-qd,-ql,rgs,wldV,yA hlim,uF]
 repeat' first | done | ((first | ((with_reducible show zT _ _ _ _ _ _);refine zA rfl fun _ => ?_) | ((with_reducible show zD _ _ _ 205 _ _);refine zB (zA2) ?_)) <;> simp [-qt,-qd,-ql,rgs,wldV,yA hlim,uF]) | fail
theorem s_Events {F:Nat → Bool} {w:Wld}:PC ctx.P 144 [.agg (wldV F w)] (.bool (yT w.tree w.events && w.events.all (fun e=>inR e.time 0 w.now))):=by
 refine PC.lim (n:=w.events.length) (x:=.agg (wldV F w)) (by simp) (.agg (x:=.view (F 3) 4 (w.events.map vD)) (by simp [wldV]) (.here (by simp))) ⟨_,Tryz.func144,by kernel_rfl,by kernel_rfl⟩ fun hlim => ?_
 rw [evTimes_eq]
 refine PC.o okC Tryz.func144 rfl (.bool _) fun h nx hnx => ?_
 try simp [-qt,-qd,-ql,rgs,wldV,vD,yA hlim]
 repeat' first | done | ((first | ((with_reducible show zT _ _ _ _ _ _);refine zA rfl fun _ => ?_) | ((with_reducible show zK _ _ _ _ _ _ _);refine zH rfl omA omA ?_) | ((with_reducible show zD _ _ _ 273 _ _);refine zB (s_EventsOk) ?_) | (with_reducible refine zP (i:=2) [(0,[],[]),(1,[],[]),(2,[],[]),(3,[],[]),(4,[],[]),(5,[],[]),(6,[],[]),(7,[],[]),(8,[],[]),(9,[],[]),(10,[],[]),(11,[],[]),(12,[],[]),(13,[],[]),(14,[],[]),(15,[],[]),(16,[],[]),(17,[],[]),(18,[],[]),(19,[],[]),(20,[],[]),(21,[],[]),(22,[],[]),(23,[],[]),(24,[],[]),(25,[],[]),(26,[],[]),(27,[],[]),(28,[],[]),(29,[],[])] (by kernel_rfl) ?_)) <;> simp [-qt,-qd,-ql,rgs,wldV,vD,yA hlim]) | ((with_reducible refine yQ ?_ ?_) <;> intro qb <;> (have qp:=qb;try simp only [psq] at qp) <;> simp [-qt,-qd,-ql,rgs,wldV,vD,yA hlim,qb])
 all_goals (try clear hnx)
 all_goals (simp_all [];done)
theorem s_Timers {F:Nat → Bool} {w:Wld}:PC ctx.P 146 [.agg (wldV F w)] (.bool (vZ w.timers && zS4 (zD3 w) w.timers.list)):=by
 refine PC.lim (n:=w.timers.list.length) (x:=.agg (wldV F w)) (by simp) (.agg (x:=.view (F 7) 5 (w.timers.list.map yN)) (by simp [wldV]) (.here (by simp))) ⟨_,Tryz.func146,by kernel_rfl,by kernel_rfl⟩ fun hlim => ?_
 refine PC.o okC Tryz.func146 rfl (.bool _) fun h nx hnx => ?_
 try simp [-qt,-qd,-ql,rgs,wldV]
 repeat' first | done | (((with_reducible show zD _ _ _ 275 _ _);refine zB (zI8 (t:=w.timers) (F:=F)) ?_) <;> simp [-qt,-qd,-ql,rgs,wldV]) | ((with_reducible refine zC ?_ ?_) <;> intro qb <;> (have qp:=qb;try simp only [psq] at qp) <;> simp [-qt,-qd,-ql,rgs,wldV,qb])
 all_goals first | (clear hnx;simp_all;done) | skip
 refine zR [2,3,4,9,10,11,12,13,14,15,16,17,18,19,20,21,22,23,24,25,26,27,28,29,30,31,32,33,34,35,36,37,38,39,40,41,42,43,44] (w.timers.list.length) (fun (i:Nat) a=>[(3,.int .i64 i)]) (fun i_ a_ h_ _=>(fun i (_:Unit) _=>zS4 (zD3 w) (w.timers.list.drop i) = zS4 (zD3 w) w.timers.list) i_ a_ h_) (()) (by simp) ?_ zO (Nat.le_refl _) ?_
 ·simp
 ·intro i a tm h' n' hle hJ hE hn' next hnx
  try dsimp only at hJ
  have hK:KeepB nx h' h:=KeepB.sub hE zG (by omega)
  simp [-qt,-qd,-ql]
  have e1:h' (nx) = some (.obj (wldV F w)):=by have:=hE (nx) (by omega);simpa [wldV] using this
  have e1n:∀ k,((nx) = n' + k) = False:=fun k=>by simp only [eq_iff_iff,iff_false];omega
  have e1m:((nx) = n') = False:=by simp only [eq_iff_iff,iff_false];omega
  try simp [-qt,-qd,-ql,rgs,wldV,yN,e1,e1n,e1m]
  repeat' first | done | ((first | ((with_reducible show zT _ _ _ _ _ _);refine zA rfl fun _ => ?_) | ((with_reducible show zK _ _ _ _ _ _ _);refine zH rfl omA omA ?_) | ((with_reducible show zD _ _ _ 276 _ _);refine zB (s_Node (w:=w) (F:=F)) ?_) | ((with_reducible show zD _ _ _ 94 _ _);refine zB (s_Task (w:=w) (F:=F)) ?_)) <;> simp [-qt,-qd,-ql,rgs,wldV,yN,e1,e1n,e1m]) | ((first | (with_reducible refine zL ?_ ?_) | (with_reducible refine zC ?_ ?_)) <;> intro qb <;> (have qp:=qb;try simp only [psq] at qp) <;> simp [-qt,-qd,-ql,rgs,wldV,yN,e1,e1n,e1m,qb])
  all_goals
   first
   | (have hlt:i < w.timers.list.length:=(by first | omega | (simp at *; omega))
      rw [zQ hlt] at hJ
      first
      | (refine hnx.go (()) ?_ ?_ ?_ ?_ ?_ ?_;omega;(simp [zI hlt hlim]);(simp);exact zG;(first | omega | (simp;omega));(try dsimp only);clear hnx;first | ((try simp only [List.drop_length,Int.toNat_natCast,zS,yB,zD3] at hJ ⊢);grind) | (simp_all [zS,yB,zD3];done) | (simp_all;omega))
      | (refine ⟨?_,zG⟩;clear hnx;first | ((try simp only [List.drop_length,Int.toNat_natCast,zS,yB,zD3] at hJ ⊢);grind) | (simp_all [zS,yB,zD3];done) | (simp_all;omega)))
   | (obtain rfl:i = w.timers.list.length:=(by first | omega | (simp at *; omega))
      refine ⟨?_,zG⟩;clear hnx;first | ((try simp only [List.drop_length,Int.toNat_natCast,zS,yB,zD3] at hJ ⊢);grind) | (simp_all [zS,yB,zD3];done) | (simp_all;omega))
theorem s_Afters {F:Nat → Bool} {w:Wld}:PC ctx.P 147 [.agg (wldV F w)] (.bool (zS4 (fun a=>uF a.node w.tree) w.afters.list && zD6 w.afters)):=by
 refine PC.lim (n:=w.afters.list.length) (x:=.agg (wldV F w)) (by simp) (.agg (x:=.view (F 10) 5 (w.afters.list.map vB)) (by simp [wldV]) (.here (by simp))) ⟨_,Tryz.func147,by kernel_rfl,by kernel_rfl⟩ fun hlim => ?_
 refine PC.o okC Tryz.func147 rfl (.bool _) fun h nx hnx => ?_
 try simp [-qt,-qd,-ql,rgs,wldV]
 refine zR [2,3,4,5,6,7,8,9,10,11,12,13,14,15,16,17,18,19,20,21] (w.afters.list.length) (fun (i:Nat) a=>[(3,.int .i64 i)]) (fun i_ a_ h_ _=>(fun i (_:Unit) _=>zS4 (fun a=>uF a.node w.tree) (w.afters.list.drop i) = zS4 (fun a=>uF a.node w.tree) w.afters.list) i_ a_ h_) (()) (by simp) ?_ zO (Nat.le_refl _) ?_
 ·simp
 ·intro i a tm h' n' hle hJ hE hn' next hnx
  try dsimp only at hJ
  have hK:KeepB nx h' h:=KeepB.sub hE zG (by omega)
  simp [-qt,-qd,-ql]
  have e1:h' (nx) = some (.obj (wldV F w)):=by have:=hE (nx) (by omega);simpa [wldV] using this
  have e1n:∀ k,((nx) = n' + k) = False:=fun k=>by simp only [eq_iff_iff,iff_false];omega
  have e1m:((nx) = n') = False:=by simp only [eq_iff_iff,iff_false];omega
  try simp [-qt,-qd,-ql,rgs,wldV,vB,e1,e1n,e1m]
  repeat' first | done | ((first | ((with_reducible show zT _ _ _ _ _ _);refine zA rfl fun _ => ?_) | ((with_reducible show zK _ _ _ _ _ _ _);refine zH rfl omA omA ?_) | ((with_reducible show zD _ _ _ 276 _ _);refine zB (s_Node (w:=w) (F:=F)) ?_) | ((with_reducible show zD _ _ _ 277 _ _);refine zB (s_AftersOk (x:=w.afters) (F:=F)) ?_) | (with_reducible refine zP (i:=4) [(0,[],[]),(1,[],[]),(2,[],[]),(3,[],[]),(4,[],[]),(5,[],[]),(6,[],[]),(7,[],[]),(8,[],[]),(9,[],[])] (by kernel_rfl) ?_)) <;> simp [-qt,-qd,-ql,rgs,wldV,vB,e1,e1n,e1m]) | ((with_reducible refine zC ?_ ?_) <;> intro qb <;> (have qp:=qb;try simp only [psq] at qp) <;> simp [-qt,-qd,-ql,rgs,wldV,vB,e1,e1n,e1m,qb])
  all_goals
   first
   | (have hlt:i < w.afters.list.length:=(by first | omega | (simp at *; omega))
      rw [zQ hlt] at hJ
      first
      | (refine hnx.go (()) ?_ ?_ ?_ ?_ ?_ ?_;omega;(simp [zI hlt hlim]);(simp);exact zG;(first | omega | (simp;omega));(try dsimp only);clear hnx;first | ((try simp only [List.drop_length,Int.toNat_natCast,zS,yB] at hJ ⊢);grind) | (simp_all [zS,yB];done) | (simp_all;omega))
      | (refine ⟨?_,zG⟩;clear hnx;first | ((try simp only [List.drop_length,Int.toNat_natCast,zS,yB] at hJ ⊢);grind) | (simp_all [zS,yB];done) | (simp_all;omega)))
   | (obtain rfl:i = w.afters.list.length:=(by first | omega | (simp at *; omega))
      refine ⟨?_,zG⟩;clear hnx;first | ((try simp only [List.drop_length,Int.toNat_natCast,zS,yB] at hJ ⊢);grind) | (simp_all [zS,yB];done) | (simp_all;omega))
end Go.AE.Tryz
end
section
/- Contracts of the reference's readers: worlds. -/
set_option maxRecDepth 8000
set_option maxHeartbeats 4000000
namespace Go.AE.Tryz
open Go.Proofs
open List renaming map_take → qt,map_drop → qd,map_tail → ql
theorem s_Tasks {F:Nat → Bool} {w:Wld}:PC ctx.P 148 [.agg (wldV F w)] (.bool (vA w.tasks && zS4 (zH8 w) w.tasks)):=by
 refine PC.lim (n:=w.tasks.length) (x:=.agg (wldV F w)) (by simp) (.agg (x:=.view (F 11) 9 (w.tasks.map yM)) (by simp [wldV]) (.here (by simp))) ⟨_,Tryz.func148,by kernel_rfl,by kernel_rfl⟩ fun hlim => ?_
 by_cases ht:vA w.tasks = true
 ·refine PC.o okC Tryz.func148 rfl (.bool _) fun h nx hnx => ?_
  try simp [-qt,-qd,-ql,rgs,wldV,ht]
  repeat' first | done | (((with_reducible show zD _ _ _ 278 _ _);refine zB (zQ5) ?_) <;> simp [-qt,-qd,-ql,rgs,wldV,ht]) | fail
  refine zR (2 :: 3 :: 4 :: 9 :: 10 :: 11 :: 12 :: 13 :: 14 :: 15 :: 16 :: 17 :: 18 :: 19 :: 20 :: 21 :: 22 :: 23 :: 24 :: 25 :: 26 :: 27 :: 28 :: 29 :: 30 :: 31 :: 32 :: 33 :: 34 :: 35 :: 36 :: 37 :: 38 :: 39 :: 40 :: 41 :: 42 :: 43 :: 44 :: 45 :: 46 :: 47 :: 48 :: 49 :: 50 :: 51 :: 52 :: 53 :: 54 :: 55 :: 56 :: 57 :: 58 :: 59 :: 60 :: 61 :: 62 :: 63 :: 64 :: 65 :: 66 :: 67 :: 68 :: 69 :: 70 :: 71 :: 72 :: 73 :: 74 :: 75 :: 76 :: 77 :: 78 :: []) (w.tasks.length) (fun (i:Nat) a=>[(3,.int .i64 i)]) (fun i_ a_ h_ _=>(fun i (_:Unit) _=>zS4 (zH8 w) (w.tasks.drop i) = zS4 (zH8 w) w.tasks) i_ a_ h_) (()) (by simp) ?_ zO (Nat.le_refl _) ?_
  ·simp
  ·intro i a tm h' n' hle hJ hE hn' next hnx
   try dsimp only at hJ
   have hK:KeepB nx h' h:=KeepB.sub hE zG (by omega)
   simp [-qt,-qd,-ql]
   have e1:h' (nx) = some (.obj (wldV F w)):=by have:=hE (nx) (by omega);simpa [wldV] using this
   have e1n:∀ k,((nx) = n' + k) = False:=fun k=>by simp only [eq_iff_iff,iff_false];omega
   have e1m:((nx) = n') = False:=by simp only [eq_iff_iff,iff_false];omega
   by_cases hi:i < w.tasks.length
   ·have hf:=tskOk_facts (tasksOk_at ht (show (0:Int) ≤ (i:Int) by omega) (by omega))
    try simp [-qt,-qd,-ql,rgs,wldV,yM,zD7,e1,e1n,e1m]
    repeat' first | done | ((first | ((with_reducible show zT _ _ _ _ _ _);refine zA rfl fun _ => ?_) | ((with_reducible show zK _ _ _ _ _ _ _);refine zH rfl omA omA ?_) | ((with_reducible show zD _ _ _ 276 _ _);refine zB (s_Node (w:=w) (F:=F)) ?_) | ((with_reducible show zD _ _ _ 279 _ _);refine zB (s_Group (w:=w) (F:=F)) ?_) | (with_reducible refine zP (i:=7) [(0,[],[]),(1,[],[]),(2,[],[]),(3,[],[]),(4,[],[]),(5,[],[]),(6,[],[]),(7,[],[]),(8,[],[]),(9,[],[]),(10,[],[]),(11,[],[]),(12,[],[]),(13,[],[]),(14,[],[]),(15,[],[]),(16,[],[]),(17,[],[]),(18,[],[]),(19,[],[]),(20,[],[]),(21,[],[]),(22,[],[]),(23,[],[]),(24,[],[]),(25,[],[])] (by kernel_rfl) ?_)) <;> simp [-qt,-qd,-ql,rgs,wldV,yM,zD7,e1,e1n,e1m]) | ((first | (with_reducible refine yQ ?_ ?_) | (with_reducible refine zL ?_ ?_) | (with_reducible refine zC ?_ ?_)) <;> intro qb <;> (have qp:=qb;try simp only [psq] at qp) <;> simp [-qt,-qd,-ql,rgs,wldV,yM,zD7,e1,e1n,e1m,qb])
    all_goals
     first
     | (have hlt:i < w.tasks.length:=(by first | omega | (simp at *; omega))
        rw [zQ hlt] at hJ
        first
        | (refine hnx.go (()) ?_ ?_ ?_ ?_ ?_ ?_;omega;(simp [zI hlt hlim]);(simp);exact zG;(first | omega | (simp;omega));(try dsimp only);clear hnx;first | ((try simp only [List.drop_length,Int.toNat_natCast,zS,yB,zH8,uF,inR] at hJ ⊢);grind) | (simp_all [zS,yB,zH8,uF,inR];done) | (simp_all;omega))
        | (refine ⟨?_,zG⟩;clear hnx;first | ((try simp only [List.drop_length,Int.toNat_natCast,zS,yB,zH8,uF,inR] at hJ ⊢);grind) | (simp_all [zS,yB,zH8,uF,inR];done) | (simp_all;omega)))
     | (obtain rfl:i = w.tasks.length:=(by first | omega | (simp at *; omega))
        refine ⟨?_,zG⟩;clear hnx;first | ((try simp only [List.drop_length,Int.toNat_natCast,zS,yB,zH8,uF,inR] at hJ ⊢);grind) | (simp_all [zS,yB,zH8,uF,inR];done) | (simp_all;omega))
   ·try simp [-qt,-qd,-ql,rgs,wldV,yM,zD7,e1,e1n,e1m]
    repeat' first | done | ((first | ((with_reducible show zT _ _ _ _ _ _);refine zA rfl fun _ => ?_) | ((with_reducible show zK _ _ _ _ _ _ _);refine zH rfl omA omA ?_) | ((with_reducible show zD _ _ _ 276 _ _);refine zB (s_Node (w:=w) (F:=F)) ?_) | ((with_reducible show zD _ _ _ 279 _ _);refine zB (s_Group (w:=w) (F:=F)) ?_) | (with_reducible refine zP (i:=7) [(0,[],[]),(1,[],[]),(2,[],[]),(3,[],[]),(4,[],[]),(5,[],[]),(6,[],[]),(7,[],[]),(8,[],[]),(9,[],[]),(10,[],[]),(11,[],[]),(12,[],[]),(13,[],[]),(14,[],[]),(15,[],[]),(16,[],[]),(17,[],[]),(18,[],[]),(19,[],[]),(20,[],[]),(21,[],[]),(22,[],[]),(23,[],[]),(24,[],[]),(25,[],[])] (by kernel_rfl) ?_)) <;> simp [-qt,-qd,-ql,rgs,wldV,yM,zD7,e1,e1n,e1m]) | ((first | (with_reducible refine yQ ?_ ?_) | (with_reducible refine zL ?_ ?_) | (with_reducible refine zC ?_ ?_)) <;> intro qb <;> (have qp:=qb;try simp only [psq] at qp) <;> simp [-qt,-qd,-ql,rgs,wldV,yM,zD7,e1,e1n,e1m,qb])
    all_goals
     first
     | (have hlt:i < w.tasks.length:=(by first | omega | (simp at *; omega))
        rw [zQ hlt] at hJ
        first
        | (refine hnx.go (()) ?_ ?_ ?_ ?_ ?_ ?_;omega;(simp [zI hlt hlim]);(simp);exact zG;(first | omega | (simp;omega));(try dsimp only);clear hnx;first | ((try simp only [List.drop_length,Int.toNat_natCast,zS,yB] at hJ ⊢);grind) | (simp_all [zS,yB];done) | (simp_all;omega))
        | (refine ⟨?_,zG⟩;clear hnx;first | ((try simp only [List.drop_length,Int.toNat_natCast,zS,yB] at hJ ⊢);grind) | (simp_all [zS,yB];done) | (simp_all;omega)))
     | (obtain rfl:i = w.tasks.length:=(by first | omega | (simp at *; omega))
        refine ⟨?_,zG⟩;clear hnx;first | ((try simp only [List.drop_length,Int.toNat_natCast,zS,yB] at hJ ⊢);grind) | (simp_all [zS,yB];done) | (simp_all;omega))
 ·refine PC.o okC Tryz.func148 rfl (.bool _) fun h nx hnx => ?_
  try simp [-qt,-qd,-ql,rgs,wldV,ht]
  repeat' first | done | (((with_reducible show zD _ _ _ 278 _ _);refine zB (zQ5) ?_) <;> simp [-qt,-qd,-ql,rgs,wldV,ht]) | fail
  all_goals (try clear hnx)
end Go.AE.Tryz
end
section
/- Contracts of the reference's copies. -/
set_option maxRecDepth 8000
set_option maxHeartbeats 4000000
namespace Go.AE.Tryz
open Go.Proofs
open List renaming map_take → qt,map_drop → qd,map_tail → ql
theorem s_l3Copy {p:Bool} {xs:List Twg} (hm:xs.length ≤ 1048576):PC ctx.P 281 [.view p 3 (xs.map zZ)] (.view true 3 (xs.map zZ)):=by
 refine PC.o okC Tryz.func281 rfl (.vmap yJ) fun h nx hnx => ?_
 try simp [-qt,-qd,-ql,rgs,zZ]
 repeat' first | done | (((with_reducible show zL4 _ _ _ _ _ _ _ _);refine yO rfl rfl (by decide) (by decide) (by (simp [-qt,-qd,-ql,rgs,zZ];rfl)) (by (simp [-qt,-qd,-ql,rgs,zZ];rfl)) (by (simp;done)) (by (simp only [yW,LIM] at *; simp;omega)) (by simp [iv,bv]) ?_) <;> simp [-qt,-qd,-ql,rgs,zZ]) | fail
theorem s_l7Copy {F:Nat → Bool} {s:Spr} (h1:s.told.length ≤ 1048576) (h2:s.work.length ≤ 1048576):PC ctx.P 155 [.agg (uK F s)] (.agg (uK (fun _=>true) s)):=by
 refine PC.o okC Tryz.func155 rfl (.agg _ (sprV_fz s)) fun h nx hnx => ?_
 try simp [-qt,-qd,-ql,rgs,zY hnx,uK,iv,bv]
 repeat' first | done | ((first | ((with_reducible show zL4 _ _ _ _ _ _ _ _);refine yO rfl rfl (by decide) (by decide) (by (simp [-qt,-qd,-ql,rgs,zY hnx,uK,iv,bv];rfl)) (by (simp [-qt,-qd,-ql,rgs,zY hnx,uK,iv,bv];rfl)) (by (simp;done)) (by (simp only [yW,LIM] at *; simp;omega)) (by simp [iv,bv]) ?_) | (with_reducible refine zP (i:=1) [(1,[],[]),(2,[],[0,4]),(5,[],[]),(6,[],[0,4]),(0,[],[]),(3,[.tmp 8],[4]),(4,[],[]),(7,[],[]),(8,[],[]),(9,[],[])] (by kernel_rfl) ?_)) <;> simp [-qt,-qd,-ql,rgs,zY hnx,uK,iv,bv]) | fail
end Go.AE.Tryz
end
section
/- Contracts of the reference's copies as new rows. -/
set_option maxRecDepth 8000
set_option maxHeartbeats 4000000
namespace Go.AE.Tryz
open Go.Proofs
open List renaming map_take → qt,map_drop → qd,map_tail → ql
theorem f_l1Copy {p:Bool} {xs:List Int} (hm:xs.length ≤ 1048576):FC ctx.P 158 [.view p 1 (xs.map iv)] (.ref 0 1 0 (xs.map iv).length) [.row 1 (xs.map iv)]:=by
 refine FC.o1 okC Tryz.func158 rfl (zM zA5 xs) fun h nx hnx => ?_
 try simp [-qt,-qd,-ql,rgs,iv]
 repeat' first | done | (((with_reducible show zL4 _ _ _ _ _ _ _ _);refine yO rfl rfl (by decide) (by decide) (by (simp [-qt,-qd,-ql,rgs,iv];rfl)) (by (simp [-qt,-qd,-ql,rgs,iv];rfl)) (by (simp;done)) (by (simp only [yW,LIM] at *; simp;omega)) (by simp [iv,bv]) ?_) <;> simp [-qt,-qd,-ql,rgs,iv]) | fail
 exact yI zG (by first | omega | (simp;done) | (simp;omega)) (by omega) (by simp) rfl (by simp)
theorem f_l3Copy {p:Bool} {xs:List Twg} (hm:xs.length ≤ 1048576):FC ctx.P 281 [.view p 3 (xs.map zZ)] (.ref 0 3 0 (xs.map zZ).length) [.row 3 (xs.map zZ)]:=by
 refine FC.o1 okC Tryz.func281 rfl (zM yJ xs) fun h nx hnx => ?_
 try simp [-qt,-qd,-ql,rgs,zZ]
 repeat' first | done | (((with_reducible show zL4 _ _ _ _ _ _ _ _);refine yO rfl rfl (by decide) (by decide) (by (simp [-qt,-qd,-ql,rgs,zZ];rfl)) (by (simp [-qt,-qd,-ql,rgs,zZ];rfl)) (by (simp;done)) (by (simp only [yW,LIM] at *; simp;omega)) (by simp [iv,bv]) ?_) <;> simp [-qt,-qd,-ql,rgs,zZ]) | fail
 exact yI zG (by first | omega | (simp;done) | (simp;omega)) (by omega) (by simp) rfl (by simp)
theorem f_l5Copy {p:Bool} {xs:List Nod} (hm:xs.length ≤ 1048576):FC ctx.P 153 [.view p 5 (xs.map yS)] (.ref 0 5 0 (xs.map yS).length) [.row 5 (xs.map yS)]:=by
 refine FC.o1 okC Tryz.func153 rfl (zM nodC_fz xs) fun h nx hnx => ?_
 try simp [-qt,-qd,-ql,rgs,yS]
 repeat' first | done | (((with_reducible show zL4 _ _ _ _ _ _ _ _);refine yO rfl rfl (by decide) (by decide) (by (simp [-qt,-qd,-ql,rgs,yS];rfl)) (by (simp [-qt,-qd,-ql,rgs,yS];rfl)) (by (simp;done)) (by (simp only [yW,LIM] at *; simp;omega)) (by simp [iv,bv]) ?_) <;> simp [-qt,-qd,-ql,rgs,yS]) | fail
 exact yI zG (by first | omega | (simp;done) | (simp;omega)) (by omega) (by simp) rfl (by simp)
theorem f_l6Copy {p:Bool} {xs:List Evt} (hm:xs.length ≤ 1048576):FC ctx.P 154 [.view p 4 (xs.map vD)] (.ref 0 4 0 (xs.map vD).length) [.row 4 (xs.map vD)]:=by
 refine FC.o1 okC Tryz.func154 rfl (zM zQ2 xs) fun h nx hnx => ?_
 try simp [-qt,-qd,-ql,rgs,vD]
 repeat' first | done | (((with_reducible show zL4 _ _ _ _ _ _ _ _);refine yO rfl rfl (by decide) (by decide) (by (simp [-qt,-qd,-ql,rgs,vD];rfl)) (by (simp [-qt,-qd,-ql,rgs,vD];rfl)) (by (simp;done)) (by (simp only [yW,LIM] at *; simp;omega)) (by simp [iv,bv]) ?_) <;> simp [-qt,-qd,-ql,rgs,vD]) | fail
 exact yI zG (by first | omega | (simp;done) | (simp;omega)) (by omega) (by simp) rfl (by simp)
theorem f_l1CopySlots {F:Nat → Bool} {s:Slt} (h1:s.ages.length ≤ 1048576) (h2:s.used.length ≤ 1048576):FC ctx.P 282 [.agg (uD F s)] (.agg [.ref 0 1 0 s.ages.length,.ref 1 1 0 s.used.length]) [.row 1 (s.ages.map iv),.row 1 (s.used.map bv)]:=by
 refine FC.o okC Tryz.func282 rfl ((.one _ (.agg _ fun c hc=>by simp at hc;rcases hc with rfl | rfl <;> first | exact .ref _ _ _ _ (by simp) | exact .fz _ (.int _ _)))) ((fun e he=>by simp at he;rcases he with rfl | rfl <;> first | exact zM zA5 _ | exact zM zJ0 _ | exact zM yJ _ | exact zM uV _ | exact zM zA0 _)) fun h nx hnx => ?_
 try simp [-qt,-qd,-ql,rgs,zY hnx,uD,iv,bv]
 repeat' first | done | ((first | ((with_reducible show zL4 _ _ _ _ _ _ _ _);refine yO rfl rfl (by decide) (by decide) (by (simp [-qt,-qd,-ql,rgs,zY hnx,uD,iv,bv];rfl)) (by (simp [-qt,-qd,-ql,rgs,zY hnx,uD,iv,bv];rfl)) (by (simp;done)) (by (simp only [yW,LIM] at *; simp;omega)) (by simp [iv,bv]) ?_) | (with_reducible refine zP (i:=1) [(1,[],[]),(2,[],[0,4]),(5,[],[]),(6,[],[0,4]),(0,[],[]),(3,[.tmp 8],[4]),(4,[],[]),(7,[],[]),(8,[],[]),(9,[],[])] (by kernel_rfl) ?_)) <;> simp [-qt,-qd,-ql,rgs,zY hnx,uD,iv,bv]) | fail
 exact finF2 (i:=nx + 5) (j:=nx + 9) zG (by omega) (by omega) (by omega) (by simp) (by simp) (by simp)
theorem f_l7Copy {F:Nat → Bool} {s:Spr} (h1:s.told.length ≤ 1048576) (h2:s.work.length ≤ 1048576):FC ctx.P 155 [.agg (uK F s)] (.agg [.ref 0 1 0 s.told.length,.ref 1 1 0 s.work.length]) [.row 1 (s.told.map bv),.row 1 (s.work.map iv)]:=by
 refine FC.o okC Tryz.func155 rfl ((.one _ (.agg _ fun c hc=>by simp at hc;rcases hc with rfl | rfl <;> first | exact .ref _ _ _ _ (by simp) | exact .fz _ (.int _ _)))) ((fun e he=>by simp at he;rcases he with rfl | rfl <;> first | exact zM zA5 _ | exact zM zJ0 _ | exact zM yJ _ | exact zM uV _ | exact zM zA0 _)) fun h nx hnx => ?_
 try simp [-qt,-qd,-ql,rgs,zY hnx,uK,iv,bv]
 repeat' first | done | ((first | ((with_reducible show zL4 _ _ _ _ _ _ _ _);refine yO rfl rfl (by decide) (by decide) (by (simp [-qt,-qd,-ql,rgs,zY hnx,uK,iv,bv];rfl)) (by (simp [-qt,-qd,-ql,rgs,zY hnx,uK,iv,bv];rfl)) (by (simp;done)) (by (simp only [yW,LIM] at *; simp;omega)) (by simp [iv,bv]) ?_) | (with_reducible refine zP (i:=1) [(1,[],[]),(2,[],[0,4]),(5,[],[]),(6,[],[0,4]),(0,[],[]),(3,[.tmp 8],[4]),(4,[],[]),(7,[],[]),(8,[],[]),(9,[],[])] (by kernel_rfl) ?_)) <;> simp [-qt,-qd,-ql,rgs,zY hnx,uK,iv,bv]) | fail
 exact finF2 (i:=nx + 5) (j:=nx + 9) zG (by omega) (by omega) (by omega) (by simp) (by simp) (by simp)
theorem f_l4Copy {F:Nat → Bool} {s:Tms} (h1:s.heap.length ≤ 1048576) (h2:s.list.length ≤ 1048576):FC ctx.P 156 [.agg (vM F s)] (.agg [.ref 0 3 0 s.heap.length,.ref 1 5 0 s.list.length,.int .i64 s.next]) [.row 3 (s.heap.map zZ),.row 5 (s.list.map yN)]:=by
 refine FC.o okC Tryz.func156 rfl ((.one _ (.agg _ fun c hc=>by simp at hc;rcases hc with rfl | rfl | rfl <;> first | exact .ref _ _ _ _ (by simp) | exact .fz _ (.int _ _)))) ((fun e he=>by simp at he;rcases he with rfl | rfl <;> first | exact zM zA5 _ | exact zM zJ0 _ | exact zM yJ _ | exact zM uV _ | exact zM zA0 _)) fun h nx hnx => ?_
 try simp [-qt,-qd,-ql,rgs,zY hnx,vM,yN]
 repeat' first | done | ((first | ((with_reducible show zD _ _ _ 281 _ _);refine zU (f_l3Copy h1) ?_) | ((with_reducible show zL4 _ _ _ _ _ _ _ _);refine yO rfl rfl (by decide) (by decide) (by (simp [-qt,-qd,-ql,rgs,zY hnx,vM,yN];rfl)) (by (simp [-qt,-qd,-ql,rgs,zY hnx,vM,yN];rfl)) (by (simp;done)) (by (simp only [yW,LIM] at *; simp;omega)) (by simp [iv,bv]) ?_) | (with_reducible refine zP (i:=1) [(0,[],[]),(1,[],[3]),(4,[],[]),(5,[],[3]),(7,[],[]),(8,[],[3]),(2,[.tmp 7,.tmp 10],[3]),(3,[],[]),(6,[.tmp 10],[]),(9,[],[]),(10,[],[])] (by kernel_rfl) ?_)) <;> simp [-qt,-qd,-ql,rgs,zY hnx,vM,yN]) | fail
 exact finF2 (i:=nx + 13) (j:=nx + 8) zG (by omega) (by omega) (by omega) (by simp) (by simp) (by simp)
theorem f_l8Copy {F:Nat → Bool} {s:Afs} (h1:s.slots.ages.length ≤ 1048576) (h2:s.slots.used.length ≤ 1048576) (h3:s.list.length ≤ 1048576):FC ctx.P 157 [.agg (uZ F s)] (.agg [.ref 0 1 0 s.slots.ages.length,.ref 1 1 0 s.slots.used.length,.ref 2 5 0 s.list.length]) [.row 1 (s.slots.ages.map iv),.row 1 (s.slots.used.map bv),.row 5 (s.list.map vB)]:=by
 refine FC.o okC Tryz.func157 rfl ((.one _ (.agg _ fun c hc=>by simp at hc;rcases hc with rfl | rfl | rfl <;> first | exact .ref _ _ _ _ (by simp) | exact .fz _ (.int _ _)))) ((fun e he=>by simp at he;rcases he with rfl | rfl | rfl <;> first | exact zM zA5 _ | exact zM zJ0 _ | exact zM yJ _ | exact zM uV _ | exact zM zA0 _)) fun h nx hnx => ?_
 try simp [-qt,-qd,-ql,rgs,zY hnx,uZ,vB,uD]
 repeat' first | done | ((first | ((with_reducible show zD _ _ _ 282 _ _);refine zU (f_l1CopySlots (s:=s.slots) (F:=F) h1 h2) ?_) | ((with_reducible show zL4 _ _ _ _ _ _ _ _);refine yO rfl rfl (by decide) (by decide) (by (simp [-qt,-qd,-ql,rgs,zY hnx,uZ,vB,uD];rfl)) (by (simp [-qt,-qd,-ql,rgs,zY hnx,uZ,vB,uD];rfl)) (by (simp;done)) (by (simp only [yW,LIM] at *; simp;omega)) (by simp [iv,bv]) ?_) | (with_reducible refine zP (i:=1) [(0,[],[]),(1,[],[3]),(4,[],[]),(5,[],[3]),(2,[.tmp 7],[3]),(3,[],[]),(6,[],[]),(7,[],[]),(8,[],[])] (by kernel_rfl) ?_)) <;> simp [-qt,-qd,-ql,rgs,zY hnx,uZ,vB,uD]) | fail
 exact finF3 (i:=nx + 11) (j:=nx + 12) (l:=nx + 8) zG (by omega) (by omega) (by omega) (by omega) (by omega) (by omega) (by simp) (by simp) (by simp) (by simp)
theorem f_l12Copy {r:Bool} {g:Grp} (h1:g.waits.length ≤ 1048576):FC ctx.P 159 [.agg (vJ r g)] (.agg (zD9 g 0)) [.row 1 (g.waits.map iv)]:=by
 refine FC.o okC Tryz.func159 rfl ((by simp only [zD9];exact .one _ (.agg _ fun c hc=>by simp at hc;rcases hc with rfl | rfl | rfl | rfl | rfl <;> first | exact .ref _ _ _ _ (by simp) | exact .fz _ (.int _ _)))) ((fun e he=>by simp at he;subst he;exact zM zA5 _)) fun h nx hnx => ?_
 try simp [-qt,-qd,-ql,rgs,vJ,iv]
 repeat' first | done | (((with_reducible show zL4 _ _ _ _ _ _ _ _);refine yO rfl rfl (by decide) (by decide) (by (simp [-qt,-qd,-ql,rgs,vJ,iv];rfl)) (by (simp [-qt,-qd,-ql,rgs,vJ,iv];rfl)) (by (simp;done)) (by (simp only [yW,LIM] at *; simp;omega)) (by simp [iv,bv]) ?_) <;> simp [-qt,-qd,-ql,rgs,vJ,iv]) | fail
 exact finF1 (i:=nx + 5) zG (by omega) (by simp) (by simp [zD9])
theorem w_l13CopyProgs {p r:Bool} {xs:List (List Inn)} (hm:xs.length ≤ 1048576) (hi:∀ x ∈ xs,x.length ≤ 1048576):AC ctx.P 152 [.view p 1 (xs.map (zD7 r))] (fun _ _=>True)
 (fun h nx v h' nx'=>KeepB nx h' h ∧ ∃ id is,v = .ref id 1 0 xs.length ∧ h' id = some (.row 1 (List.zipWith prgR xs is)) ∧ is.length = xs.length ∧ nx ≤ id ∧ id < nx' ∧ id ∉ is ∧ Subs h' 3 (fun x:List Inn=>x.map vY) xs is nx nx'):=by
 have hlim:xs.length ≤ LIM:=by simp only [LIM] at *; omega
 refine AC.o okC Tryz.func152 rfl fun h nx hfr hnx hpre => ?_
 try simp [-qt,-qd,-ql,rgs]
 refine zR (h0:=h) (nx0:=nx) [3,4,6,7,8,9,10,11,12,13,14,15,16,17,18,19,20] (xs.length) (fun (i:Nat) a=>[(4,.int .i64 i),(3,.ref a.1 1 0 i)]) (fun i (a:Nat × List Nat) h' n'=>a.2.length = i ∧ h' a.1 = some (.row 1 (List.zipWith prgR xs a.2)) ∧ Subs h' 3 (fun x:List Inn=>x.map vY) xs a.2 nx n' ∧ nx ≤ a.1 ∧ a.1 < n' ∧ a.1 ∉ a.2) ((nx + 1,[])) (by simp) ?_ zG (by omega) ?_
 ·simp [Subs.nil]
 ·intro i a tm h' n' hle hJ hE hn' next hnx
  try dsimp only at hJ
  have hK:KeepB nx h' h:=KeepB.sub hE zG (by omega)
  simp [-qt,-qd,-ql]
  obtain ⟨g2,hJ,hS,g0,g1,g3⟩:=hJ
  obtain ⟨id,is⟩:=a
  dsimp only at g2 hJ hS g0 g1 g3 ⊢
  subst g2
  have k1:∀ k,(id = n' + k) = False:=fun k=>by simp only [eq_iff_iff,iff_false];omega
  by_cases hlt:is.length < xs.length
  ·have hg:(gt xs (is.length:Int)).length ≤ 1048576:=hi _ (vR (by omega) (by omega))
   repeat' first | done | ((first | ((with_reducible show zT _ _ _ _ _ _);refine zA rfl fun _ => ?_) | ((with_reducible show zK _ _ _ _ _ _ _);refine zH rfl omA omA ?_) | ((with_reducible show zL4 _ _ _ _ _ _ _ _);refine yO rfl rfl (by decide) (by decide) (by (simp [-qt,-qd,-ql,rgs,zD7,k1,hJ,hlt,vY];rfl)) (by (simp [-qt,-qd,-ql,rgs,zD7,k1,hJ,hlt,vY];rfl)) (by (first | (simp;done) | (simp;omega))) (by (simp only [yW,LIM] at *; simp;omega)) (by simp [iv,bv]) ?_)) <;> simp [-qt,-qd,-ql,rgs,zD7,k1,hJ,hlt,vY]) | fail
   refine hnx.go (n' + 12,is ++ [n' + 10]) (by omega) (by simp [zI hlt hlim]) (by simp) zG (by first | omega | (simp;omega)) ?_
   dsimp only
   refine ⟨by simp,?_,hS.snoc (fun k hk => ?_) ?_ (by omega) (by omega) (by omega),by omega,by omega,?_⟩
   ·rw [zN7 hlt,zJ];rfl
   ·have:=hS.hi k hk
    have hne:k ≠ id:=fun e=>g3 (e ▸ hk)
    repeat (first | rw [zF _ _ _ _ (by omega)] | rw [zF _ _ _ _ hne])
   ·repeat (first | exact zJ .. | rw [zF _ _ _ _ (by omega)])
   ·intro hm
    rcases List.mem_append.1 hm with hm | hm
    ·have:=hS.hi _ hm;omega
    ·simp at hm
  ·skip
   repeat' first | done | (((with_reducible show zT _ _ _ _ _ _);refine zA rfl fun _ => ?_) <;> simp [-qt,-qd,-ql,rgs,k1,hJ,hlt]) | fail
   have he:is.length = xs.length:=by omega
   exact ⟨zG,id,⟨rfl,he⟩,is,hJ,he,g0,by omega,g3,hS.keep (fun _ _=>rfl) (Nat.le_refl _) (by omega)⟩
end Go.AE.Tryz
end
section
/- Contracts of the reference's copies of worlds as new rows. -/
set_option maxRecDepth 8000
set_option maxHeartbeats 4000000
namespace Go.AE.Tryz
open Go.Proofs
open List renaming map_take → qt,map_drop → qd,map_tail → ql
theorem w_l13CopyA {F:Nat → Bool} {w:Wld} (hs:zB8 w ≤ 1048576):AC ctx.P 49 [.agg (wldV F w)] (fun _ _=>True) (MkQ (fun X=>.agg (zB7 X w)) w):=by
 simp only [zB8,afssz,tmssz,sprsz,sltsz] at hs
 have hm:yW = 1099511627776:=rfl
 have hL:LIM = 140737488355328:=rfl
 have hlim:w.groups.length ≤ LIM:=by omega
 refine AC.ghost ?_
 refine AC.o okC Tryz.func49 rfl fun h nx hfr hnx hpre => ?_
 try simp [-qt,-qd,-ql,rgs,wldV,zY hnx]
 repeat' first | done | ((with_reducible refine zP (i:=1) [(0,[],[]),(1,[],[20,24,35]),(2,[],[]),(3,[],[20,24,35]),(5,[],[]),(6,[],[20,24,35]),(8,[],[]),(9,[],[20,24,35]),(11,[],[]),(12,[],[20,24,35]),(14,[],[]),(15,[],[20,24,35]),(17,[],[]),(18,[],[20,24,35]),(21,[],[]),(22,[],[20,24,35]),(25,[],[]),(26,[],[20,24,35]),(28,[],[]),(29,[],[20,24,35]),(31,[],[]),(32,[],[20,24,35]),(4,[.tmp 5,.tmp 10,.tmp 13,.tmp 16,.tmp 19,.tmp 22,.tmp 26,.tmp 30,.tmp 33,.tmp 36],[20,24,35]),(7,[.tmp 5,.tmp 13,.tmp 16,.tmp 19,.tmp 22,.tmp 26,.tmp 30,.tmp 33,.tmp 36],[20,24,35]),(10,[.tmp 5,.tmp 16,.tmp 19,.tmp 22,.tmp 26,.tmp 30,.tmp 33,.tmp 36],[20,24,35]),(13,[.tmp 5,.tmp 19,.tmp 22,.tmp 26,.tmp 30,.tmp 33,.tmp 36],[20,24,35]),(16,[.tmp 5,.tmp 22,.tmp 26,.tmp 30,.tmp 33,.tmp 36],[20,24,35]),(19,[.tmp 5,.tmp 26,.tmp 30,.tmp 33,.tmp 36],[20,24,35]),(20,[],[]),(23,[.tmp 5,.tmp 30,.tmp 33,.tmp 36],[24,35]),(24,[],[]),(27,[.tmp 5,.tmp 33,.tmp 36],[35]),(30,[.tmp 5,.tmp 36],[35]),(33,[.tmp 5],[35]),(34,[],[]),(35,[],[]),(36,[],[])] (by kernel_rfl) ?_) <;> simp [-qt,-qd,-ql,rgs,wldV,zY hnx]) | fail
 refine yP (w_l13CopyProgs (by omega) (fun x hx=>by have:=zB0 (·.length) hx;omega)) trivial ?_
 rintro r h1 n1 ⟨hK1,ip,isp,rfl,hrow1,hlen1,hlo1,hhi1,hni1,hS1⟩ hle1 hfr1
 dsimp only at hK1 hlo1 hle1 hS1
 have g0:=hK1 nx (by omega)
 have g1:=hK1 (nx + 1) (by omega)
 have g22:=hK1 (nx + 22) (by omega)
 have g26:=hK1 (nx + 26) (by omega)
 have g37:=hK1 (nx + 37) (by omega)
 simp [zY hnx] at g0 g1 g22 g26 g37
 have k0:∀ k,(nx = n1 + k) = False:=fun k=>by simp only [eq_iff_iff,iff_false];omega
 have k1:∀ k,(nx + 1 = n1 + k) = False:=fun k=>by simp only [eq_iff_iff,iff_false];omega
 have k22:∀ k,(nx + 22 = n1 + k) = False:=fun k=>by simp only [eq_iff_iff,iff_false];omega
 have k26:∀ k,(nx + 26 = n1 + k) = False:=fun k=>by simp only [eq_iff_iff,iff_false];omega
 have k37:∀ k,(nx + 37 = n1 + k) = False:=fun k=>by simp only [eq_iff_iff,iff_false];omega
 have kk:∀ k,k < 38 → (nx + k = n1) = False:=fun k hk=>by simp only [eq_iff_iff,iff_false];omega
 have j0:(nx = n1) = False:=by simp only [eq_iff_iff,iff_false];omega
 have j1:=kk 1 (by omega)
 have kx:∀ a k,a < 38 → (nx + a = n1 + k) = False:=fun a k hk=>by simp only [eq_iff_iff,iff_false];omega
 try simp [-qt,-qd,-ql,rgs,wldV,g0,g1,g22,g26,g37,k0,k1,k22,k26,k37,j0,j1,kk,kx]
 repeat' first | done | ((first | ((with_reducible show zD _ _ _ 153 _ _);refine zU (f_l5Copy (by omega)) ?_) | ((with_reducible show zD _ _ _ 154 _ _);refine zU (f_l6Copy (by omega)) ?_) | ((with_reducible show zD _ _ _ 155 _ _);refine zU (f_l7Copy (s:=w.spread) (F:=F) (by omega) (by omega)) ?_) | ((with_reducible show zD _ _ _ 156 _ _);refine zU (f_l4Copy (s:=w.timers) (F:=F) (by omega) (by omega)) ?_) | ((with_reducible show zD _ _ _ 157 _ _);refine zU (f_l8Copy (s:=w.afters) (F:=F) (by omega) (by omega) (by omega)) ?_) | ((with_reducible show zD _ _ _ 158 _ _);refine zU (f_l1Copy (by omega)) ?_) | ((with_reducible show zL4 _ _ _ _ _ _ _ _);refine yO rfl rfl (by decide) (by decide) (by (simp [-qt,-qd,-ql,rgs,wldV,g0,g1,g22,g26,g37,k0,k1,k22,k26,k37,j0,j1,kk,kx];rfl)) (by (simp [-qt,-qd,-ql,rgs,wldV,g0,g1,g22,g26,g37,k0,k1,k22,k26,k37,j0,j1,kk,kx];rfl)) (by (simp;done)) (by (simp only [yW,LIM] at *; simp;omega)) (by simp [iv,bv]) ?_)) <;> simp [-qt,-qd,-ql,rgs,wldV,g0,g1,g22,g26,g37,k0,k1,k22,k26,k37,j0,j1,kk,kx]) | fail
 generalize hH:upd _ (nx + 37) (some (Ent.obj [.int .i64 w.now,.ref ip 1 0 w.progs.length,.ref n1 5 0 w.tree.length,.ref (n1 + 1) 4 0 w.events.length,.ref (n1 + 2) 1 0 w.spread.told.length,.ref (n1 + 3) 1 0 w.spread.work.length,.ref (n1 + 4) 3 0 w.timers.heap.length,.ref (n1 + 5) 5 0 w.timers.list.length,.int .i64 w.timers.next,.ref (n1 + 6) 1 0 w.afters.slots.ages.length,.ref (n1 + 7) 1 0 w.afters.slots.used.length,.ref (n1 + 8) 5 0 w.afters.list.length,.ref (nx + 25) 9 0 w.tasks.length,.nil,.ref (nx + 29) 4 0 w.sights.length,.ref (n1 + 9) 1 0 w.began.length,.ref (n1 + 10) 1 0 w.rang.length])) = H2
 have o2:H2 (nx + 37) = some (Ent.obj [.int .i64 w.now,.ref ip 1 0 w.progs.length,.ref n1 5 0 w.tree.length,.ref (n1 + 1) 4 0 w.events.length,.ref (n1 + 2) 1 0 w.spread.told.length,.ref (n1 + 3) 1 0 w.spread.work.length,.ref (n1 + 4) 3 0 w.timers.heap.length,.ref (n1 + 5) 5 0 w.timers.list.length,.int .i64 w.timers.next,.ref (n1 + 6) 1 0 w.afters.slots.ages.length,.ref (n1 + 7) 1 0 w.afters.slots.used.length,.ref (n1 + 8) 5 0 w.afters.list.length,.ref (nx + 25) 9 0 w.tasks.length,.nil,.ref (nx + 29) 4 0 w.sights.length,.ref (n1 + 9) 1 0 w.began.length,.ref (n1 + 10) 1 0 w.rang.length]):=by rw [← hH,zJ]
 have a2:H2 nx = some (Ent.obj (wldV F w)):=by
  rw [← hH]
  repeat rw [zF _ _ _ _ (by omega)]
  rw [g0];rfl
 have z2:H2 (nx + 1) = h1 (nx + 1):=by
  rw [← hH]
  repeat rw [zF _ _ _ _ (by omega)]
 rw [g1] at z2
 have hK2:KeepB nx H2 h:=fun j hj=>by
  rw [← hH]
  repeat rw [zF _ _ _ _ (by omega)]
  rw [hK1 j (by omega)]
  repeat rw [zF _ _ _ _ (by omega)]
 have q0:H2 ip = some (.row 1 (List.zipWith prgR w.progs isp)):=by
  rw [← hH]
  repeat rw [zF _ _ _ _ (by omega)]
  exact hrow1
 have qs:∀ i ∈ isp,H2 i = h1 i:=fun i hi=>by
  have:=hS1.lo i hi
  have:=hS1.hi i hi
  rw [← hH]
  repeat rw [zF _ _ _ _ (by omega)]
 have q1:H2 (n1) = some (.row 5 (w.tree.map yS)):=by
  rw [← hH]
  repeat (first | exact zJ .. | rw [zF _ _ _ _ (by omega)])
 have q2:H2 (n1 + 1) = some (.row 4 (w.events.map vD)):=by
  rw [← hH]
  repeat (first | exact zJ .. | rw [zF _ _ _ _ (by omega)])
 have q3:H2 (n1 + 2) = some (.row 1 (w.spread.told.map bv)):=by
  rw [← hH]
  repeat (first | exact zJ .. | rw [zF _ _ _ _ (by omega)])
 have q4:H2 (n1 + 3) = some (.row 1 (w.spread.work.map iv)):=by
  rw [← hH]
  repeat (first | exact zJ .. | rw [zF _ _ _ _ (by omega)])
 have q5:H2 (n1 + 4) = some (.row 3 (w.timers.heap.map zZ)):=by
  rw [← hH]
  repeat (first | exact zJ .. | rw [zF _ _ _ _ (by omega)])
 have q6:H2 (n1 + 5) = some (.row 5 (w.timers.list.map yN)):=by
  rw [← hH]
  repeat (first | exact zJ .. | rw [zF _ _ _ _ (by omega)])
 have q7:H2 (n1 + 6) = some (.row 1 (w.afters.slots.ages.map iv)):=by
  rw [← hH]
  repeat (first | exact zJ .. | rw [zF _ _ _ _ (by omega)])
 have q8:H2 (n1 + 7) = some (.row 1 (w.afters.slots.used.map bv)):=by
  rw [← hH]
  repeat (first | exact zJ .. | rw [zF _ _ _ _ (by omega)])
 have q9:H2 (n1 + 8) = some (.row 5 (w.afters.list.map vB)):=by
  rw [← hH]
  repeat (first | exact zJ .. | rw [zF _ _ _ _ (by omega)])
 have q10:H2 (nx + 25) = some (.row 9 (w.tasks.map yM)):=by
  rw [← hH]
  repeat (first | exact zJ .. | rw [zF _ _ _ _ (by omega)])
 have q11:H2 (nx + 29) = some (.row 4 (w.sights.map uU)):=by
  rw [← hH]
  repeat (first | exact zJ .. | rw [zF _ _ _ _ (by omega)])
 have q12:H2 (n1 + 9) = some (.row 1 (w.began.map iv)):=by
  rw [← hH]
  repeat (first | exact zJ .. | rw [zF _ _ _ _ (by omega)])
 have q13:H2 (n1 + 10) = some (.row 1 (w.rang.map iv)):=by
  rw [← hH]
  repeat (first | exact zJ .. | rw [zF _ _ _ _ (by omega)])
 clear hH
 refine zR (h0:=h) (nx0:=nx) [4,40,41,42,43,44,45,46,47,48,49,50,51,52,53,54,55,56,57] (w.groups.length) (fun (i:Nat) a=>[(4,.int .i64 i)]) (fun i (a:Nat × List Nat) h' n'=>a.2.length = i ∧ h' (nx + 37) = some (Ent.obj [.int .i64 w.now,.ref ip 1 0 w.progs.length,.ref n1 5 0 w.tree.length,.ref (n1 + 1) 4 0 w.events.length,.ref (n1 + 2) 1 0 w.spread.told.length,.ref (n1 + 3) 1 0 w.spread.work.length,.ref (n1 + 4) 3 0 w.timers.heap.length,.ref (n1 + 5) 5 0 w.timers.list.length,.int .i64 w.timers.next,.ref (n1 + 6) 1 0 w.afters.slots.ages.length,.ref (n1 + 7) 1 0 w.afters.slots.used.length,.ref (n1 + 8) 5 0 w.afters.list.length,.ref (nx + 25) 9 0 w.tasks.length,(if i = 0 then .nil else .ref a.1 5 0 i),.ref (nx + 29) 4 0 w.sights.length,.ref (n1 + 9) 1 0 w.began.length,.ref (n1 + 10) 1 0 w.rang.length]) ∧ (0 < i → h' a.1 = some (.row 5 (List.zipWith zD9 w.groups a.2)) ∧ n1 + 12 ≤ a.1 ∧ a.1 < n' ∧ a.1 ∉ a.2) ∧ Subs h' 1 (fun x:Grp=>x.waits.map iv) w.groups a.2 (n1 + 12) n' ∧ n1 + 12 ≤ n' ∧ ∀ j,j < n1 + 12 → j ≠ nx + 37 → h' j = H2 j) ((0,[])) (by simp) ?_ zG (by omega) ?_
 ·simp [Subs.nil,o2]
 ·intro i a tm h' n' hle hJ hE hn' next hnx
  try dsimp only at hJ
  have hK:KeepB nx h' h:=KeepB.sub hE zG (by omega)
  simp [-qt,-qd,-ql]
  obtain ⟨id,is⟩:=a
  obtain ⟨e0,hO,hR,hS,hn2,hF⟩:=hJ
  dsimp only at e0 hO hR hS hn2 hF ⊢
  subst e0
  have aN:=hF nx (by omega) (by omega)
  rw [a2] at aN
  have zN:=hF (nx + 1) (by omega) (by omega)
  rw [z2] at zN
  have k5:∀ k,(nx = n' + k) = False:=fun k=>by simp only [eq_iff_iff,iff_false];omega
  have k6:∀ k,(nx + 37 = n' + k) = False:=fun k=>by simp only [eq_iff_iff,iff_false];omega
  have k7:∀ k,(nx + 1 = n' + k) = False:=fun k=>by simp only [eq_iff_iff,iff_false];omega
  have k8:(nx = n') = False:=by simp only [eq_iff_iff,iff_false];omega
  have k9:∀ a k,a < 38 → (nx + a = n' + k) = False:=fun a k hk=>by simp only [eq_iff_iff,iff_false];omega
  have kA:∀ a,a < 38 → (nx + a = n') = False:=fun a hk=>by simp only [eq_iff_iff,iff_false];omega
  by_cases hlt:is.length < w.groups.length
  ·by_cases h0:is.length = 0
   ·have hc:(gt w.groups (is.length:Int)).waits.length ≤ 1048576:=by have:=zB0 (·.waits.length) (vR (show (0:Int) ≤ (is.length:Int) by omega) (show (is.length:Int) < w.groups.length by omega));omega
    rw [if_pos h0] at hO
    try simp [-qt,-qd,-ql,rgs,hO,aN,wldV,vJ,zD9,hlt,k5,k6,k7,k8,k9,kA]
    repeat' first | done | ((first | ((with_reducible show zT _ _ _ _ _ _);refine zA rfl fun _ => ?_) | ((with_reducible show zK _ _ _ _ _ _ _);refine zH rfl omA omA ?_) | ((with_reducible show zD _ _ _ 159 _ _);refine zU (f_l12Copy (r:=F 13) (g:=gt w.groups (is.length:Int)) hc) ?_) | (with_reducible refine zP (i:=5) [(0,[],[]),(1,[],[8]),(2,[],[]),(3,[],[]),(4,[],[]),(5,[],[]),(6,[],[]),(7,[.tmp 47],[]),(8,[],[]),(9,[],[]),(10,[],[]),(11,[],[])] (by kernel_rfl) ?_)) <;> simp [-qt,-qd,-ql,rgs,hO,aN,wldV,vJ,zD9,hlt,k5,k6,k7,k8,k9,kA]) | fail
    refine app_nil rfl (by decide) (by decide) (by simp;rfl) (by simp [yW]) (by simp) ?_
    try simp [-qt,-qd,-ql,rgs,hO,aN,wldV,vJ,zD9,hlt,k5,k6,k7,k8,k9,kA]
    refine hnx.go (n' + 14,is ++ [n' + 17]) (by omega) (by simp [zI hlt hlim]) (by simp) zG (by first | omega | (simp;omega)) ?_
    dsimp only
    refine ⟨by simp,?_,fun _=>⟨?_,by omega,by omega,?_⟩,hS.snoc (fun k hk => ?_) ?_ (by omega) (by omega) (by omega),by omega,fun j hj hj2 => ?_⟩
    ·rw [zJ,if_neg (by omega)]
     try simp
     try exact List.eq_nil_of_length_eq_zero h0
    ·rw [zN7 hlt]
     repeat (first | rw [zF _ _ _ _ (by omega)] | rw [zJ])
     simp [zD9]
     right;exact List.eq_nil_of_length_eq_zero h0
    ·intro hm
     rcases List.mem_append.1 hm with hm | hm
     ·have:=hS.hi _ hm;omega
     ·simp at hm
    ·have:=hS.hi k hk
     have:=hS.lo k hk
     repeat rw [zF _ _ _ _ (by omega)]
    ·repeat (first | rw [zF _ _ _ _ (by omega)] | rw [zJ])
    ·repeat rw [zF _ _ _ _ (by omega)]
     exact hF j hj hj2
   ·have hc:(gt w.groups (is.length:Int)).waits.length ≤ 1048576:=by have:=zB0 (·.waits.length) (vR (show (0:Int) ≤ (is.length:Int) by omega) (show (is.length:Int) < w.groups.length by omega));omega
    rw [if_neg h0] at hO
    obtain ⟨hR1,hR2,hR3,hR4⟩:=hR (by omega)
    have m1:∀ k,(id = n' + k) = False:=fun k=>by simp only [eq_iff_iff,iff_false];omega
    have m2:∀ k,(nx + k = id) = (nx + k = id):=fun k=>rfl
    have m3:(nx + 37 = id) = False:=by simp only [eq_iff_iff,iff_false];omega
    have m4:(nx = id) = False:=by simp only [eq_iff_iff,iff_false];omega
    try simp [-qt,-qd,-ql,rgs,hO,hR1,aN,wldV,vJ,zD9,hlt,k5,k6,k7,k8,k9,kA,m1,m3,m4]
    repeat' first | done | ((first | ((with_reducible show zT _ _ _ _ _ _);refine zA rfl fun _ => ?_) | ((with_reducible show zK _ _ _ _ _ _ _);refine zH rfl omA omA ?_) | ((with_reducible show zD _ _ _ 159 _ _);refine zU (f_l12Copy (r:=F 13) (g:=gt w.groups (is.length:Int)) hc) ?_) | ((with_reducible show zL4 _ _ _ _ _ _ _ _);refine yO rfl rfl (by decide) (by decide) (by (simp [-qt,-qd,-ql,rgs,hO,hR1,aN,wldV,vJ,zD9,hlt,k5,k6,k7,k8,k9,kA,m1,m3,m4];rfl)) (by (simp [-qt,-qd,-ql,rgs,hO,hR1,aN,wldV,vJ,zD9,hlt,k5,k6,k7,k8,k9,kA,m1,m3,m4];rfl)) (by (simp;omega)) (by (simp only [yW,LIM] at *; simp;omega)) (by simp [iv,bv]) ?_) | (with_reducible refine zP (i:=5) [(0,[],[]),(1,[],[8]),(2,[],[]),(3,[],[]),(4,[],[]),(5,[],[]),(6,[],[]),(7,[.tmp 47],[]),(8,[],[]),(9,[],[]),(10,[],[]),(11,[],[])] (by kernel_rfl) ?_)) <;> simp [-qt,-qd,-ql,rgs,hO,hR1,aN,wldV,vJ,zD9,hlt,k5,k6,k7,k8,k9,kA,m1,m3,m4]) | fail
    refine hnx.go (n' + 14,is ++ [n' + 17]) (by omega) (by simp [zI hlt hlim]) (by simp) zG (by first | omega | (simp;omega)) ?_
    dsimp only
    refine ⟨by simp,?_,fun _=>⟨?_,by omega,by omega,?_⟩,hS.snoc (fun k hk => ?_) ?_ (by omega) (by omega) (by omega),by omega,fun j hj hj2 => ?_⟩
    ·rw [zJ,if_neg (by omega)]
     try simp
     try exact List.eq_nil_of_length_eq_zero h0
    ·rw [zN7 hlt]
     repeat (first | rw [zF _ _ _ _ (by omega)] | rw [zJ])
     simp [zD9]
    ·intro hm
     rcases List.mem_append.1 hm with hm | hm
     ·have:=hS.hi _ hm;omega
     ·simp at hm
    ·have:=hS.hi k hk
     have:=hS.lo k hk
     have hne:k ≠ id:=fun e=>hR4 (e ▸ hk)
     repeat rw [zF _ _ _ _ (by omega)]
    ·repeat (first | rw [zF _ _ _ _ (by omega)] | rw [zJ])
    ·repeat rw [zF _ _ _ _ (by omega)]
     exact hF j hj hj2
  ·have he:is.length = w.groups.length:=by omega
   have key:∀ (HF:zW) (id nn gl:Nat),gl = w.groups.length → (∀ j,j < n1 + 12 → j ≠ nx + 37 → j ≠ nx + 1 → HF j = H2 j) → (∀ k ∈ is,HF k = h' k) → HF id = some (.row 5 (List.zipWith zD9 w.groups is)) →
    n1 + 12 ≤ id → id ∉ is → id < nn → n' + 1 ≤ nn → KeepB nx HF h ∧ ∃ X,AV.agg [.int .i64 w.now,.ref ip 1 0 w.progs.length,.ref n1 5 0 w.tree.length,.ref (n1 + 1) 4 0 w.events.length,.ref (n1 + 2) 1 0 w.spread.told.length,.ref (n1 + 3) 1 0 w.spread.work.length,.ref (n1 + 4) 3 0 w.timers.heap.length,.ref (n1 + 5) 5 0 w.timers.list.length,.int .i64 w.timers.next,.ref (n1 + 6) 1 0 w.afters.slots.ages.length,.ref (n1 + 7) 1 0 w.afters.slots.used.length,.ref (n1 + 8) 5 0 w.afters.list.length,.ref (nx + 25) 9 0 w.tasks.length,.ref id 5 0 gl,.ref (nx + 29) 4 0 w.sights.length,.ref (n1 + 9) 1 0 w.began.length,.ref (n1 + 10) 1 0 w.rang.length] = AV.agg (zB7 X w) ∧ WV HF X w ∧ ∀ i ∈ X.ids,nx ≤ i ∧ i < nn:=by
    intro HF id nn gl hgl c1 c2 c3 c7 c8 c10 c11
    subst hgl
    have t0:=(c1 ip (by omega) (by omega) (by omega)).trans q0
    have t1:=(c1 n1 (by omega) (by omega) (by omega)).trans q1
    have t2:=(c1 (n1 + 1) (by omega) (by omega) (by omega)).trans q2
    have t3:=(c1 (n1 + 2) (by omega) (by omega) (by omega)).trans q3
    have t4:=(c1 (n1 + 3) (by omega) (by omega) (by omega)).trans q4
    have t5:=(c1 (n1 + 4) (by omega) (by omega) (by omega)).trans q5
    have t6:=(c1 (n1 + 5) (by omega) (by omega) (by omega)).trans q6
    have t7:=(c1 (n1 + 6) (by omega) (by omega) (by omega)).trans q7
    have t8:=(c1 (n1 + 7) (by omega) (by omega) (by omega)).trans q8
    have t9:=(c1 (n1 + 8) (by omega) (by omega) (by omega)).trans q9
    have t10:=(c1 (nx + 25) (by omega) (by omega) (by omega)).trans q10
    have t11:=(c1 (nx + 29) (by omega) (by omega) (by omega)).trans q11
    have t12:=(c1 (n1 + 9) (by omega) (by omega) (by omega)).trans q12
    have t13:=(c1 (n1 + 10) (by omega) (by omega) (by omega)).trans q13
    have nn1:∀ t,t < nx + 39 ∨ n1 ≤ t → t ∉ isp:=fun t ht hm=>by have:=hS1.lo t hm;have:=hS1.hi t hm;omega
    have nn2:∀ t,t < n1 + 12 ∨ n' ≤ t → t ∉ is:=fun t ht hm=>by have:=hS.lo t hm;have:=hS.hi t hm;omega
    refine ⟨fun j hj=>(c1 j (by omega) (by omega) (by omega)).trans (hK2 j hj),WI.ofL [ip,n1,n1 + 1,n1 + 2,n1 + 3,n1 + 4,n1 + 5,n1 + 6,n1 + 7,n1 + 8,nx + 25,id,nx + 29,n1 + 9,n1 + 10] isp is,rfl,
     WV.ofM (a:=nx + 39) (b:=n1) (c:=n1 + 12) (d:=n') t0 t1 t2 t3 t4 t5 t6 t7 t8 t9 t10 c3 t11 t12 t13 hlen1 he (hS1.keep (fun i hi => ?_) (Nat.le_refl _) (Nat.le_refl _)) (hS.keep c2 (Nat.le_refl _) (Nat.le_refl _)) (fun x hx y hy => ?_) ?_ (fun t ht => ?_),fun i hi => ?_⟩
    ·have:=hS1.lo i hi
     have:=hS1.hi i hi
     rw [c1 i (by omega) (by omega) (by omega),qs i hi]
    ·have:=hS1.hi x hx
     have:=hS.lo y hy
     omega
    ·simp only [List.nodup_cons,List.mem_cons,List.not_mem_nil,or_false,not_or,List.nodup_nil,and_true,not_false_eq_true]
     omega
    ·simp only [List.mem_cons,List.not_mem_nil,or_false] at ht
     rcases ht with rfl | rfl | rfl | rfl | rfl | rfl | rfl | rfl | rfl | rfl | rfl | rfl | rfl | rfl | rfl
     ·exact ⟨hni1,nn2 _ (by omega)⟩
     all_goals first
     | exact ⟨nn1 _ (by omega),nn2 _ (by omega)⟩
     | exact ⟨nn1 _ (by omega),c8⟩
    ·rw [WI.ofL_ids] at hi
     rcases List.mem_append.1 hi with hi | hi
     ·simp only [List.mem_cons,List.not_mem_nil,or_false] at hi
      omega
     ·rcases List.mem_append.1 hi with hi | hi
      ·have:=hS1.lo i hi;have:=hS1.hi i hi;omega
      ·have:=hS.lo i hi;have:=hS.hi i hi;omega
   by_cases hg:w.groups = []
   ·have h0:is.length = 0:=by rw [he,hg];rfl
    rw [if_pos h0] at hO
    try simp [-qt,-qd,-ql,rgs,hO,aN,zN,wldV,he,hlt,k5,k6,k7,k8,k9,kA]
    repeat' first | done | (((with_reducible show zT _ _ _ _ _ _);refine zA rfl fun _ => ?_) <;> simp [-qt,-qd,-ql,rgs,hO,aN,zN,wldV,he,hlt,k5,k6,k7,k8,k9,kA]) | fail
    refine .nilR (i:=13) (sz:=5) rfl (by decide) (.done ?_)
    have hz:List.zipWith zD9 w.groups is = []:=by rw [hg];rfl
    have hl:w.groups.length = 0:=by rw [hg];rfl
    refine key _ (n' + 7) (n' + 7 + 1) 0 hl.symm ?_ ?_ ?_ (by omega) (fun hm=>by have:=hS.hi _ hm;omega) (by omega) (by omega)
    ·intro j hj h3 h1
     repeat rw [zF _ _ _ _ (by omega)]
     exact hF j hj h3
    ·intro k hk
     have:=hS.lo k hk
     have:=hS.hi k hk
     repeat rw [zF _ _ _ _ (by omega)]
    ·rw [hz];exact zJ ..
   ·have h0:¬ is.length = 0:=by rw [he];simpa using hg
    rw [if_neg h0] at hO
    obtain ⟨hR1,hR2,hR3,hR4⟩:=hR (by omega)
    try simp [-qt,-qd,-ql,rgs,hO,aN,zN,wldV,he,hlt,k5,k6,k7,k8,k9,kA]
    repeat' first | done | (((with_reducible show zT _ _ _ _ _ _);refine zA rfl fun _ => ?_) <;> simp [-qt,-qd,-ql,rgs,hO,aN,zN,wldV,he,hlt,k5,k6,k7,k8,k9,kA]) | fail
    refine .done (key _ id (n' + 7) _ rfl ?_ ?_ ?_ (by omega) hR4 (by omega) (by omega))
    ·intro j hj h3 h1
     repeat rw [zF _ _ _ _ (by omega)]
     exact hF j hj h3
    ·intro k hk
     have:=hS.lo k hk
     have:=hS.hi k hk
     repeat rw [zF _ _ _ _ (by omega)]
    ·repeat rw [zF _ _ _ _ (by omega)]
     exact hR1
theorem w_l13Copy {F:Nat → Bool} {w:Wld} (hs:zB8 w ≤ 1048576):WC ctx.P 49 [.agg (wldV F w)] (fun X=>.agg (zB7 X w)) w:=WC.of (w_l13CopyA hs)
theorem wldV_fz (w:Wld):Fz (.agg (wldV (fun _=>true) w)):=by
 refine .agg _ fun c hc => ?_
 simp only [wldV,List.mem_cons,List.not_mem_nil,or_false] at hc
 rcases hc with rfl | rfl | rfl | rfl | rfl | rfl | rfl | rfl | rfl | rfl | rfl | rfl | rfl | rfl | rfl | rfl | rfl
 ·exact .int _ _
 ·exact .vmap prgV_fz
 ·exact .vmap nodC_fz
 ·exact .vmap zQ2
 ·exact .vmap zJ0
 ·exact .vmap zA5
 ·exact .vmap yJ
 ·exact .vmap uV
 ·exact .int _ _
 ·exact .vmap zA5
 ·exact .vmap zJ0
 ·exact .vmap zA0
 ·exact .vmap zE0
 ·exact .vmap grpV_fz
 ·exact .vmap sgtC_fz
 ·exact .vmap zA5
 ·exact .vmap zA5
theorem s_l13Copy {F:Nat → Bool} {w:Wld} (hs:zB8 w ≤ 1048576):PC ctx.P 49 [.agg (wldV F w)] (.agg (wldV (fun _=>true) w)):=(w_l13Copy hs).pc (wldV_fz w) fun g X v=>.aggs v.fros
end Go.AE.Tryz
end
section
/- Contracts of the reference's readers: worlds. -/
set_option maxRecDepth 8000
set_option maxHeartbeats 4000000
namespace Go.AE.Tryz
open Go.Proofs
open List renaming map_take → qt,map_drop → qd,map_tail → ql
theorem s_Groups {F:Nat → Bool} {w:Wld}:PC ctx.P 149 [.agg (wldV F w)] (.bool (zS4 (zH2 w) w.groups && decide (w.groups.length ≤ 8))):=by
 refine PC.lim (n:=w.groups.length) (x:=.agg (wldV F w)) (by simp) (.agg (x:=.view (F 12) 5 (w.groups.map (vJ (F 13)))) (by simp [wldV]) (.here (by simp))) ⟨_,Tryz.func149,by kernel_rfl,by kernel_rfl⟩ fun hlim => ?_
 refine PC.o okC Tryz.func149 rfl (.bool _) fun h nx hnx => ?_
 try simp [-qt,-qd,-ql,rgs,wldV]
 refine zR [2,3,4,5,6,7,8,9,10,11,12,13,14,15,16,17,18,19,20,21,22,23,24,25,26,27,28,29,30,31,32,33,34,35,36,37,38,39,40,41,42,43,44,45,46,47,48,49,50,51,52] (w.groups.length) (fun (i:Nat) a=>[(3,.int .i64 i)]) (fun i_ a_ h_ _=>(fun i (_:Unit) _=>zS4 (zH2 w) (w.groups.drop i) = zS4 (zH2 w) w.groups) i_ a_ h_) (()) (by simp) ?_ zO (Nat.le_refl _) ?_
 ·simp
 ·intro i a tm h' n' hle hJ hE hn' next hnx
  try dsimp only at hJ
  have hK:KeepB nx h' h:=KeepB.sub hE zG (by omega)
  simp [-qt,-qd,-ql]
  have e1:h' (nx) = some (.obj (wldV F w)):=by have:=hE (nx) (by omega);simpa [wldV] using this
  have e1n:∀ k,((nx) = n' + k) = False:=fun k=>by simp only [eq_iff_iff,iff_false];omega
  have e1m:((nx) = n') = False:=by simp only [eq_iff_iff,iff_false];omega
  try simp [-qt,-qd,-ql,rgs,wldV,yS,vJ,e1,e1n,e1m]
  repeat' first | done | ((first | ((with_reducible show zT _ _ _ _ _ _);refine zA rfl fun _ => ?_) | ((with_reducible show zK _ _ _ _ _ _ _);refine zH rfl omA omA ?_) | ((with_reducible show zD _ _ _ 280 _ _);refine zB (s_GroupOk (p:=F 13) (g:=gt w.groups (i:Int))) ?_) | ((with_reducible show zD _ _ _ 276 _ _);refine zB (s_Node (w:=w) (F:=F)) ?_)) <;> simp [-qt,-qd,-ql,rgs,wldV,yS,vJ,e1,e1n,e1m]) | ((first | (with_reducible refine zL ?_ ?_) | (with_reducible refine zC ?_ ?_)) <;> intro qb <;> (have qp:=qb;try simp only [psq] at qp) <;> simp [-qt,-qd,-ql,rgs,wldV,yS,vJ,e1,e1n,e1m,qb])
  ·have hlt:i < w.groups.length:=(by omega)
   rw [zQ hlt] at hJ
   refine ⟨?_,zG⟩;clear hnx;simp only [zS,zI4] at hJ;grind
  ·have hlt:i < w.groups.length:=(by omega)
   rw [zQ hlt] at hJ
   refine ⟨?_,zG⟩;clear hnx;simp only [zS,zI4,uF,inR] at hJ;grind
  ·have hlt:i < w.groups.length:=(by omega)
   rw [zQ hlt] at hJ
   refine ⟨?_,zG⟩;clear hnx;simp only [zS,zI4] at hJ;grind
  ·have hlt:i < w.groups.length:=(by omega)
   rw [zQ hlt] at hJ
   refine zR [2,5,38,39,40,41,42,43,44,45,46,47,48,49,50,51,52] ((gt w.groups (i:Int)).waits.length) (fun (i:Nat) a=>[(5,.int .i64 i)]) (fun i_ a_ h_ _=>(fun (j:Nat) (_:Unit) _=>zS4 (fun i=>uF i w.tasks) ((gt w.groups (i:Int)).waits.drop j) = zS4 (fun i=>uF i w.tasks) (gt w.groups (i:Int)).waits) i_ a_ h_) (()) (by simp) ?_ zO (Nat.le_refl _) ?_
   ·simp
   ·intro j b tm2 h2 n2 hle2 hJ2 hE2 hn2 next2 hnx2
    try dsimp only at hJ2
    have hK2:KeepB nx h2 h:=KeepB.sub hE2 zG (by omega)
    simp [-qt,-qd,-ql]
    have e2:h2 (nx) = some (.obj (wldV F w)):=by have:=hE2 (nx) (by omega);simpa [e1,e1n,e1m,wldV] using this
    have e2n:∀ k,((nx) = n2 + k) = False:=fun k=>by simp only [eq_iff_iff,iff_false];omega
    have e2m:((nx) = n2) = False:=by simp only [eq_iff_iff,iff_false];omega
    have e3:h2 (n' + 10) = some (.obj (vJ (F 13) (gt w.groups (i:Int)))):=by have:=hE2 (n' + 10) (by omega);simpa [vJ] using this
    have e3n:∀ k,((n' + 10) = n2 + k) = False:=fun k=>by simp only [eq_iff_iff,iff_false];omega
    have e3m:((n' + 10) = n2) = False:=by simp only [eq_iff_iff,iff_false];omega
    try simp [-qt,-qd,-ql,rgs,wldV,vJ,iv,e2,e2n,e2m,e3,e3n,e3m]
    repeat' first | done | ((first | ((with_reducible show zT _ _ _ _ _ _);refine zA rfl fun _ => ?_) | ((with_reducible show zK _ _ _ _ _ _ _);refine zH rfl omA omA ?_) | ((with_reducible show zD _ _ _ 94 _ _);refine zB (s_Task (w:=w) (F:=F)) ?_) | (with_reducible refine zP (i:=10) [(0,[],[]),(1,[],[]),(2,[],[]),(3,[],[]),(4,[],[]),(5,[],[]),(6,[],[]),(7,[],[])] (by kernel_rfl) ?_)) <;> simp [-qt,-qd,-ql,rgs,wldV,vJ,iv,e2,e2n,e2m,e3,e3n,e3m]) | ((with_reducible refine zC ?_ ?_) <;> intro qb <;> (have qp:=qb;try simp only [psq] at qp) <;> simp [-qt,-qd,-ql,rgs,wldV,vJ,iv,e2,e2n,e2m,e3,e3n,e3m,qb])
    ·rw [zQ (by omega)] at hJ2
     refine ⟨?_,zG⟩;clear hnx hnx2;simp only [zS,zI4] at hJ hJ2;grind
    ·have hlw:(gt w.groups (i:Int)).waits.length ≤ LIM:=by assumption
     rw [zQ (by omega)] at hJ2
     refine hnx2.go () (by omega) (by simp [zI (show j < (gt w.groups (i:Int)).waits.length by omega) hlw]) (by simp) zG (by first | omega | (simp;omega)) ?_
     clear hnx hnx2;simp only [zS] at hJ2;grind
    ·rw [List.drop_eq_nil_of_le (by omega)] at hJ2
     refine hnx.go () (by omega) (by simp [zI hlt hlim]) (by simp) zG (by first | omega | (simp;omega)) ?_
     clear hnx hnx2;simp only [zS,yB,zI4] at hJ hJ2 ⊢; grind
  ·refine ⟨?_,zG⟩;rw [List.drop_eq_nil_of_le (by omega)] at hJ;clear hnx;simp only [yB] at hJ;rw [← hJ];simp;omega
end Go.AE.Tryz
end
section
/- Contracts of the reference's readers: worlds. -/
set_option maxRecDepth 8000
set_option maxHeartbeats 4000000
namespace Go.AE.Tryz
open Go.Proofs
open List renaming map_take → qt,map_drop → qd,map_tail → ql
theorem s_Sights {F:Nat → Bool} {w:Wld}:PC ctx.P 150 [.agg (wldV F w)] (.bool (zS4 (zH9 w) w.sights && decide (w.sights.length ≤ 2000))):=by
 refine PC.lim (n:=w.sights.length) (x:=.agg (wldV F w)) (by simp) (.agg (x:=.view (F 14) 4 (w.sights.map uU)) (by simp [wldV]) (.here (by simp))) ⟨_,Tryz.func150,by kernel_rfl,by kernel_rfl⟩ fun hlim => ?_
 refine PC.o okC Tryz.func150 rfl (.bool _) fun h nx hnx => ?_
 try simp [-qt,-qd,-ql,rgs,wldV]
 refine zR [2,3,4,5,6,7,8,9,10,11,12,13,14,15,16,17,18,19,20,21,22,23,24,25,26,27,28,29,30,31,32,33,34,35,36,37,38,39,40,41,42,43,44,45,46,47,48,49,50,51,52,53,54,55] (w.sights.length) (fun (i:Nat) a=>[(3,.int .i64 i)]) (fun i_ a_ h_ _=>(fun i (_:Unit) _=>zS4 (zH9 w) (w.sights.drop i) = zS4 (zH9 w) w.sights) i_ a_ h_) (()) (by simp) ?_ zO (Nat.le_refl _) ?_
 ·simp
 ·intro i a tm h' n' hle hJ hE hn' next hnx
  try dsimp only at hJ
  have hK:KeepB nx h' h:=KeepB.sub hE zG (by omega)
  simp [-qt,-qd,-ql]
  have e1:h' (nx) = some (.obj (wldV F w)):=by have:=hE (nx) (by omega);simpa [wldV] using this
  have e1n:∀ k,((nx) = n' + k) = False:=fun k=>by simp only [eq_iff_iff,iff_false];omega
  have e1m:((nx) = n') = False:=by simp only [eq_iff_iff,iff_false];omega
  try simp [-qt,-qd,-ql,rgs,wldV,uU,e1,e1n,e1m]
  repeat' first | done | ((first | ((with_reducible show zT _ _ _ _ _ _);refine zA rfl fun _ => ?_) | ((with_reducible show zK _ _ _ _ _ _ _);refine zH rfl omA omA ?_) | ((with_reducible show zD _ _ _ 205 _ _);refine zB (zA2) ?_) | ((with_reducible show zD _ _ _ 276 _ _);refine zB (s_Node (w:=w) (F:=F)) ?_)) <;> simp [-qt,-qd,-ql,rgs,wldV,uU,e1,e1n,e1m]) | ((first | (with_reducible refine zL ?_ ?_) | (with_reducible refine zC ?_ ?_)) <;> intro qb <;> (have qp:=qb;try simp only [psq] at qp) <;> simp [-qt,-qd,-ql,rgs,wldV,uU,e1,e1n,e1m,qb])
  all_goals
   first
   | (have hlt:i < w.sights.length:=(by first | omega | (simp at *; omega))
      rw [zQ hlt] at hJ
      first
      | (refine hnx.go (()) ?_ ?_ ?_ ?_ ?_ ?_;omega;(simp [zI hlt hlim]);(simp);exact zG;(first | omega | (simp;omega));(try dsimp only);clear hnx;first | ((try simp only [List.drop_length,Int.toNat_natCast,zS,yB,zG1] at hJ ⊢);grind) | (simp_all [zS,yB,zG1];done) | (simp_all;omega))
      | (refine ⟨?_,zG⟩;clear hnx;first | ((try simp only [List.drop_length,Int.toNat_natCast,zS,yB,zG1] at hJ ⊢);grind) | (simp_all [zS,yB,zG1];done) | (simp_all;omega)))
   | (obtain rfl:i = w.sights.length:=(by first | omega | (simp at *; omega))
      refine ⟨?_,zG⟩;clear hnx;first | ((try simp only [List.drop_length,Int.toNat_natCast,zS,yB,zG1] at hJ ⊢);grind) | (simp_all [zS,yB,zG1];done) | (simp_all;omega))
end Go.AE.Tryz
end
section
/- Contracts of the reference's readers: worlds. -/
set_option maxRecDepth 8000
set_option maxHeartbeats 4000000
namespace Go.AE.Tryz
open Go.Proofs
open List renaming map_take → qt,map_drop → qd,map_tail → ql
theorem zH5 {F:Nat → Bool} {w:Wld}:PC ctx.P 48 [.agg (wldV F w)] (.bool (zB1 w)):=by
 refine PC.o okC Tryz.func48 rfl (.bool _) fun h nx hnx => ?_
 try simp [-qt,-qd,-ql,rgs,wldV]
 repeat' first | done | ((first | ((with_reducible show zD _ _ _ 143 _ _);refine zB (s_Progs) ?_) | ((with_reducible show zD _ _ _ 144 _ _);refine zB (s_Events (w:=w) (F:=F)) ?_) | ((with_reducible show zD _ _ _ 145 _ _);refine zB (zN1 (s:=w.spread) (F:=F)) ?_) | ((with_reducible show zD _ _ _ 146 _ _);refine zB (s_Timers (w:=w) (F:=F)) ?_) | ((with_reducible show zD _ _ _ 147 _ _);refine zB (s_Afters (w:=w) (F:=F)) ?_) | ((with_reducible show zD _ _ _ 148 _ _);refine zB (s_Tasks (w:=w) (F:=F)) ?_) | ((with_reducible show zD _ _ _ 149 _ _);refine zB (s_Groups (w:=w) (F:=F)) ?_) | ((with_reducible show zD _ _ _ 150 _ _);refine zB (s_Sights (w:=w) (F:=F)) ?_) | ((with_reducible show zD _ _ _ 151 _ _);refine zB (s_Numbers) ?_)) <;> simp [-qt,-qd,-ql,rgs,wldV]) | ((with_reducible refine zL ?_ ?_) <;> intro qb <;> (have qp:=qb;try simp only [psq] at qp) <;> simp [-qt,-qd,-ql,rgs,wldV,qb])
 all_goals (clear hnx;have ht:yT w.tree w.events = true → uJ w.tree = true:=zC7;simp only [zB1];(try simp only [zS4] at *);grind)
end Go.AE.Tryz
end
section
/- Contracts of the reference's requests. -/
set_option maxRecDepth 8000
set_option maxHeartbeats 4000000
namespace Go.AE.Tryz
open Go.Proofs
theorem zB4 {F:Nat → Bool} {w:Wld}:(∀ x ∈ wldV F w,x.one = true) = True:=by simp [wldV]
theorem zF7 (F:Nat → Bool) (w:Wld):(wldV F w).length = 17:=rfl
theorem zB3 (F:Nat → Bool) (w:Wld):(wldV F w).take 17 = wldV F w:=rfl
end Go.AE.Tryz
end
section
/- The law of the clock: what the program and the reference make of a world is the same, in memory of its own. -/
set_option maxRecDepth 8000
set_option maxHeartbeats 4000000
namespace Go.AE.Tryz
open Go.Proofs
theorem wldR_mk (X:WI) (w:Wld) (k:Int):zB7 X (mkWld w k) = zB7 X w:=by simp [zB7,mkWld,mkSpr,mkTms,mkAfs,vH,vQ]
theorem rrW_cl (X:WI) (w:Wld) (b:Bool):Cl (.tup [.agg (zB7 X w),.bool b]):=by
 refine .tup _ fun c hc => ?_
 simp only [List.mem_cons,List.not_mem_nil,or_false] at hc
 rcases hc with rfl | rfl
 ·refine .agg _ fun c hc => ?_
  simp only [zB7,List.mem_cons,List.not_mem_nil,or_false] at hc
  rcases hc with rfl | rfl | rfl | rfl | rfl | rfl | rfl | rfl | rfl | rfl | rfl | rfl | rfl | rfl | rfl | rfl | rfl <;> first | exact .int _ _ | exact .ref _ _ _ _
 ·exact .bool _
theorem s_toWorld {F:Nat → Bool} {s:Wld} (hs:zB8 s ≤ 1048576):PC ctx.P 19 [.agg (wldV F s)] (.agg (wldV (fun _=>true) s)):=(WC.of (w_toWorld hs)).pc (wldV_fz s) fun g X v=>.aggs v.fros
end Go.AE.Tryz
end
section
/- Contracts of the program's changes of heaps, as new rows. -/
set_option maxRecDepth 8000
set_option maxHeartbeats 2000000
namespace Go.AE.Tryz
open Go.Proofs
open List renaming map_take → qt,map_drop → qd,map_tail → ql
theorem f_growTwig {n:Nat} (h0:0 < n) (hm:n ≤ yW):FC ctx.P 412 [.nil,.int .i64 n] (.ref 0 3 0 0) [.row 3 (List.replicate n twZ)]:=by
 have hw:IntKind.i64.wrap (n:Int) = n:=zE (by simp only [yW] at hm;omega)
 have hw0:IntKind.i64.wrap 0 = 0:=rfl
 have q1:((n:Int) < 0) = False:=by simp only [eq_iff_iff,iff_false];omega
 have q2:(0 < n) = True:=by simp only [eq_iff_iff,iff_true];omega
 refine FC.o okC Tryz.func412 rfl ((.one _ (.one _ (.ref _ _ _ _ (by simp))))) ((fun e he=>by simp at he;subst he;exact twZ_fz _)) fun h nx hnx => ?_
 try simp [-qt,-qd,-ql,rgs,run_zeros,hw0,hw,q1,q2]
 repeat' first | done | ((first | ((with_reducible show zT _ _ _ _ _ _);refine zA rfl fun _ => ?_) | (((with_reducible show capX _ _ _ _ _ _);refine cap_nil rfl ?_)) | (((with_reducible show zJ2 _ _ _ _ .nil _ _ _);refine slice_nil rfl rfl rfl ?_)) | (((with_reducible show zerS _ _ _ _ _ _ _ _ _);refine zer_nil rfl (by decide) (by decide) rfl rfl h0 hm ?_)) | (((with_reducible show zJ2 _ _ _ _ (.ref _ _ _ _) _ _ _);refine zM4 (l:=0) (h:=0) rfl rfl (by simp [zF5]) (by omega) (by omega) ?_))) <;> simp [-qt,-qd,-ql,rgs,run_zeros,hw0,hw,q1,q2]) | fail
 exact finF1 (i:=nx + 18) zG (by omega) (by simp [twZ]) (by simp)
theorem f_concatTwig {p:Bool} {qs:List (Bool × List Twg)} (h0:0 < (cq qs qs.length).length) (hm:(cq qs qs.length).length ≤ 1048576) (hq:qs.length ≤ 1000):FC ctx.P 396 [.view p 1 (qs.map twV)] (.ref 0 3 0 ((cq qs qs.length).map zZ).length) [.row 3 ((cq qs qs.length).map zZ)]:=by
 have hlim:qs.length ≤ LIM:=by simp only [LIM];omega
 have hM:(cq qs qs.length).length ≤ yW:=by simp only [yW];omega
 refine FC.o1 okC Tryz.func396 rfl (zM yJ _) fun h nx hnx => ?_
 try simp [-qt,-qd,-ql,rgs]
 repeat' first | done | (((with_reducible show zT _ _ _ _ _ _);refine zA rfl fun _ => ?_) <;> simp [-qt,-qd,-ql,rgs]) | fail
 refine zR [3,5,11,12,13,14,15,16,17,18,19,20,21,22] (qs.length) (fun (i:Nat) a=>[(11,.int .i64 i),(3,.int .i64 ((cq qs i).length:Nat))]) (fun i_ a_ h_ _=>(fun i (_:Unit) _=>True) i_ a_ h_) (()) (by simp) ?_ zO (Nat.le_refl _) ?_
 ·trivial
 ·intro i a tm h' n' hle hJ hE hn' next hnx
  try dsimp only at hJ
  have hK:KeepB nx h' h:=KeepB.sub hE zG (by omega)
  simp [-qt,-qd,-ql]
  by_cases hlt:i < qs.length
  ·have hcl:=cq_lt hlt
   have hcs:=cq_succ hlt
   have hw:IntKind.i64.wrap ((((cq qs i).length:Nat):Int) + (((gt qs (i:Int)).2.length:Nat):Int)) = (((cq qs (i + 1)).length:Nat):Int):=by rw [zE (by omega),hcs,List.length_append];omega
   have hn:((((cq qs (i + 1)).length:Nat):Int) < 0) = False:=by simp only [eq_iff_iff,iff_false];omega
   try simp [-qt,-qd,-ql,rgs,twV,hlt,hw,hn]
   repeat' first | done | ((first | ((with_reducible show zT _ _ _ _ _ _);refine zA rfl fun _ => ?_) | ((with_reducible show zK _ _ _ _ _ _ _);refine zH rfl omA omA ?_)) <;> simp [-qt,-qd,-ql,rgs,twV,hlt,hw,hn]) | fail
   refine hnx.go () ?_ ?_ ?_ ?_ ?_ ?_
   ·omega
   ·simp [zI hlt hlim]
   ·simp
   ·exact zG
   ·first | omega | (simp;omega)
   trivial
  ·have he:i = qs.length:=by omega
   subst he
   try simp [-qt,-qd,-ql,rgs,hlt]
   repeat' first | done | ((first | ((with_reducible show zT _ _ _ _ _ _);refine zA rfl fun _ => ?_) | ((with_reducible show zD _ _ _ 412 _ _);refine zU (f_growTwig h0 hM) ?_)) <;> simp [-qt,-qd,-ql,rgs,hlt]) | fail
   refine zR (h0:=h) (nx0:=nx) [6,8,27,28,29,30,31,32,33,34] (qs.length) (fun (i:Nat) a=>[(27,.int .i64 i),(6,.ref a 3 0 (cq qs i).length)]) (fun i (a:Nat) h' n'=>h' a = some (.row 3 ((cq qs i).map zZ ++ List.replicate ((cq qs qs.length).length - (cq qs i).length) twZ)) ∧ nx ≤ a ∧ a < n') (n' + 4) (by simp) ?_ zG (by omega) ?_
   ·exact ⟨by simp,by omega,by omega⟩
   ·intro j a tm2 h2 n2 hle2 hJ2 hE2 hn2 next2 hnx2
    obtain ⟨g1,g2,g3⟩:=hJ2
    have k1:∀ k,(a = n2 + k) = False:=fun k=>by simp only [eq_iff_iff,iff_false];omega
    simp [-qt,-qd,-ql]
    by_cases hlt2:j < qs.length
    ·have hcl:=cq_lt hlt2
     have hcs:=cq_succ hlt2
     try simp [-qt,-qd,-ql,rgs,twV,hlt2,k1]
     repeat' first | done | (((with_reducible show zK _ _ _ _ _ _ _);refine zH rfl omA omA ?_) <;> simp [-qt,-qd,-ql,rgs,twV,hlt2,k1]) | fail
     refine app_mid (ws:=(cq qs j).map zZ ++ List.replicate ((cq qs qs.length).length - (cq qs j).length) twZ) (ys:=(gt qs (j:Int)).2.map zZ) rfl rfl (by decide) (by decide) ?r1 ?r2 ?r3 ?r4 ?r5 ?_
     case r1=>exact g1
     case r2=>simp
     case r3=>simp
     case r4=>simp only [yW];simp;omega
     case r5=>simp [zZ]
     rw [cq_row hlt2 rfl]
     try simp [-qt,-qd,-ql,rgs]
     refine hnx2.go (n2 + 6) ?_ ?_ ?_ ?_ ?_ ?_
     ·omega
     ·simp [zI hlt2 hlim,hcs]
     ·simp
     ·exact zG
     ·first | omega | (simp;omega)
     exact ⟨by simp,by omega,by omega⟩
    ·have he:j = qs.length:=by omega
     subst he
     try simp [-qt,-qd,-ql,rgs,hlt2,k1]
     exact yI (i:=a) zG (by first | omega | (simp;omega)) g2 (by simp [g1]) rfl (by simp)
theorem f_joined {p q:Bool} {x:Twg} {l r:List Twg} (hl:isH l) (hr:isH r) (hm:l.length + r.length ≤ 1000):FC ctx.P 350 [.agg (zZ x),.view p 3 (l.map zZ),.view q 3 (r.map zZ)] (.ref 0 3 0 ((zD0 x l r).map zZ).length) [.row 3 ((zD0 x l r).map zZ)]:=by
 refine FC.o1 okC Tryz.func350 rfl (zM yJ _) fun h nx hnx => ?_
 by_cases hk:rk0 l < rk0 r
 ·have hk2:((rk0 l:Int) < (rk0 r:Int)) = True:=by simp only [eq_iff_iff,iff_true];omega
  have hj:zD0 x l r = ⟨x.due,x.seq,r.length⟩ :: (r ++ l):=by simp [zD0,hk]
  try simp [-qt,-qd,-ql,rgs,zZ,hk2]
  repeat' first | done | ((first | ((with_reducible show zD _ _ _ 393 _ _);refine zB (c_rank (zR7 hl)) ?_) | ((with_reducible show zD _ _ _ 393 _ _);refine zB (c_rank (zR7 hr)) ?_) | ((with_reducible show zD _ _ _ 392 _ _);refine zB (zG7) ?_)) <;> simp [-qt,-qd,-ql,rgs,zZ,hk2]) | fail
  refine zF9 (f_concatTwig (p:=false) (qs:=[(false,[⟨x.due,x.seq,(r.length:Int)⟩]),(q,r),(p,l)]) (by simp [cq]) (by simp [cq];omega) (by simp)) (fun f=>by simp;exact .ref _ _ _ _) (fun e he=>by simp at he;subst he;exact twg_cl _) (.cons (Bor.row3 (by simp;rfl) (Bor.ref0 (by simp;rfl) rfl rfl) (.same _) (.same _)) .nil) ?_
  try simp [-qt,-qd,-ql,rgs]
  rw [cq3n]
  exact yI (i:=nx + 22) zG (by first | omega | (simp;done) | (simp;omega)) (by omega) (by simp [hj]) rfl (by simp [hj])
 ·have hk2:((rk0 l:Int) < (rk0 r:Int)) = False:=by simp only [eq_iff_iff,iff_false];omega
  have hj:zD0 x l r = ⟨x.due,x.seq,l.length⟩ :: (l ++ r):=by simp [zD0,hk]
  try simp [-qt,-qd,-ql,rgs,zZ,hk2]
  repeat' first | done | ((first | ((with_reducible show zD _ _ _ 393 _ _);refine zB (c_rank (zR7 hl)) ?_) | ((with_reducible show zD _ _ _ 393 _ _);refine zB (c_rank (zR7 hr)) ?_) | ((with_reducible show zD _ _ _ 392 _ _);refine zB (zG7) ?_)) <;> simp [-qt,-qd,-ql,rgs,zZ,hk2]) | fail
  refine zF9 (f_concatTwig (p:=false) (qs:=[(false,[⟨x.due,x.seq,(l.length:Int)⟩]),(p,l),(q,r)]) (by simp [cq]) (by simp [cq];omega) (by simp)) (fun f=>by simp;exact .ref _ _ _ _) (fun e he=>by simp at he;subst he;exact twg_cl _) (.cons (Bor.row3 (by simp;rfl) (Bor.ref0 (by simp;rfl) rfl rfl) (.same _) (.same _)) .nil) ?_
  try simp [-qt,-qd,-ql,rgs]
  rw [cq3n]
  exact yI (i:=nx + 18) zG (by first | omega | (simp;done) | (simp;omega)) (by omega) (by simp [hj]) rfl (by simp [hj])
theorem f_mergeN:∀ (n:Nat) (p q:Bool) (a b:List Twg),a.length + b.length ≤ n → n ≤ 1000 → isH a → isH b → apart a b → FC ctx.P 266 [.view p 3 (a.map zZ),.view q 3 (b.map zZ)] (.ref 0 3 0 ((zM9 n a b).map zZ).length) [.row 3 ((zM9 n a b).map zZ)]:=by
 intro n
 induction n with
 | zero =>
   intro p q a b hn hm ha hb hd
   obtain rfl:a = []:=List.eq_nil_of_length_eq_zero (by omega)
   obtain rfl:b = []:=List.eq_nil_of_length_eq_zero (by simpa using hn)
   rw [mrgN_l]
   have hc:=zH7 (p:=q) (xs:=[]) (by simp [yW])
   refine FC.o1 okC Tryz.func266 rfl (zM yJ _) fun h nx hnx => ?_
   try simp [-qt,-qd,-ql,rgs]
   repeat' first | done | ((first | ((with_reducible show zT _ _ _ _ _ _);refine zA rfl fun _ => ?_) | (refine zU (hc) ?_)) <;> simp [-qt,-qd,-ql,rgs]) | fail
   exact yI (i:=nx + 7) zG (by first | omega | (simp;done) | (simp;omega)) (by omega) (by simp) rfl (by simp)
 | succ n ih =>
   intro p q a b hn hm ha hb hd
   by_cases ha0:a.length = 0
   ·obtain rfl:a = []:=List.eq_nil_of_length_eq_zero ha0
    have hc:=zH7 (p:=q) (xs:=b) (by simp only [yW];omega)
    rw [mrgN_l]
    refine FC.o1 okC Tryz.func266 rfl (zM yJ _) fun h nx hnx => ?_
    try simp [-qt,-qd,-ql,rgs]
    repeat' first | done | ((first | ((with_reducible show zT _ _ _ _ _ _);refine zA rfl fun _ => ?_) | (refine zU (hc) ?_)) <;> simp [-qt,-qd,-ql,rgs]) | fail
    exact yI (i:=nx + 7) zG (by first | omega | (simp;done) | (simp;omega)) (by omega) (by simp) rfl (by simp)
   have hx0:((a.length:Int) == 0) = false:=by simp;intro e;exact ha0 (by simp [e])
   by_cases hb0:b.length = 0
   ·obtain rfl:b = []:=List.eq_nil_of_length_eq_zero hb0
    have hc:=zH7 (p:=p) (xs:=a) (by simp only [yW];omega)
    rw [mrgN_r]
    refine FC.o1 okC Tryz.func266 rfl (zM yJ _) fun h nx hnx => ?_
    try simp [-qt,-qd,-ql,rgs,hx0]
    repeat' first | done | ((first | ((with_reducible show zT _ _ _ _ _ _);refine zA rfl fun _ => ?_) | (refine zU (hc) ?_)) <;> simp [-qt,-qd,-ql,rgs,hx0]) | fail
    exact yI (i:=nx + 10) zG (by first | omega | (simp;done) | (simp;omega)) (by omega) (by simp) rfl (by simp)
   have hy0:((b.length:Int) == 0) = false:=by simp;intro e;exact hb0 (by simp [e])
   have ha0:0 < a.length:=by omega
   have hb0:0 < b.length:=by omega
   by_cases hyx:lt2 (gt b 0) (gt a 0)
   ·have hcmp:(uX (gt b 0) (gt a 0) < 0) = True:=by simp only [eq_iff_iff,iff_true];exact cmp_lt.2 hyx
    have pp:=zK5 hb hb0
    have hl1:=mrgN_len n (b.drop ((gt b 0).lefts.toNat + 1)) a (by omega) pp.2.2.2.1 ha
    rw [mrgN_b ha0 hb0 hyx]
    have hq2:=ih q p (b.drop ((gt b 0).lefts.toNat + 1)) a (by omega) (by omega) pp.2.2.2.1 ha (zC5 (zI6 hd) _)
    have hq3:=mrgN_isH (n:=n) (by omega) pp.2.2.2.1 ha (zC5 (zI6 hd) _)
    refine FC.o1 okC Tryz.func266 rfl (zM yJ _) fun h nx hnx => ?_
    try simp [-qt,-qd,-ql,rgs,hx0,hy0,hcmp]
    repeat' first | done | ((first | ((with_reducible show zT _ _ _ _ _ _);refine zA rfl fun _ => ?_) | ((with_reducible show zK _ _ _ _ _ _ _);refine zH rfl omA omA ?_) | ((with_reducible show zD _ _ _ 348 _ _);refine zB (c_compare) ?_) | ((with_reducible show zD _ _ _ 349 _ _);refine zB (zK4 hb0 pp.1 pp.2.1) ?_) | (refine zU (hq2) ?_) | (with_reducible refine zP (i:=5) [(0,[],[]),(1,[],[]),(2,[],[]),(3,[],[]),(4,[],[]),(5,[],[]),(6,[],[]),(7,[],[])] (by kernel_rfl) ?_) | (with_reducible refine zP (i:=8) [(0,[],[]),(1,[],[]),(2,[],[]),(3,[],[]),(4,[],[]),(5,[],[]),(6,[.tmp 33],[]),(7,[],[]),(8,[],[])] (by kernel_rfl) ?_)) <;> simp [-qt,-qd,-ql,rgs,hx0,hy0,hcmp]) | fail
    refine zF9 (f_joined (p:=q) (q:=false) pp.2.2.1 hq3 (by omega)) (fun f=>by simp;exact .ref _ _ _ _) (fun e he=>by simp at he;subst he;exact twg_cl _) (.cons (.same _) (.cons (.same _) (.cons (Bor.ref0 (by first | (simp;done) | (simp;rfl)) rfl (by simp)) .nil))) ?_
    try simp [-qt,-qd,-ql,rgs]
    exact yI zG (by first | omega | (simp;done) | (simp;omega)) (by omega) (by simp) rfl (by simp)
   ·have hcmp:(uX (gt b 0) (gt a 0) < 0) = False:=by simp only [eq_iff_iff,iff_false];exact fun h=>hyx (cmp_lt.1 h)
    have pp:=zK5 ha ha0
    have hl1:=mrgN_len n (a.drop ((gt a 0).lefts.toNat + 1)) b (by omega) pp.2.2.2.1 hb
    rw [mrgN_a ha0 hb0 hyx]
    have hq2:=ih p q (a.drop ((gt a 0).lefts.toNat + 1)) b (by omega) (by omega) pp.2.2.2.1 hb (zC5 hd _)
    have hq3:=mrgN_isH (n:=n) (by omega) pp.2.2.2.1 hb (zC5 hd _)
    refine FC.o1 okC Tryz.func266 rfl (zM yJ _) fun h nx hnx => ?_
    try simp [-qt,-qd,-ql,rgs,hx0,hy0,hcmp]
    repeat' first | done | ((first | ((with_reducible show zT _ _ _ _ _ _);refine zA rfl fun _ => ?_) | ((with_reducible show zK _ _ _ _ _ _ _);refine zH rfl omA omA ?_) | ((with_reducible show zD _ _ _ 348 _ _);refine zB (c_compare) ?_) | ((with_reducible show zD _ _ _ 349 _ _);refine zB (zK4 ha0 pp.1 pp.2.1) ?_) | (refine zU (hq2) ?_) | (with_reducible refine zP (i:=5) [(0,[],[]),(1,[],[]),(2,[],[]),(3,[],[]),(4,[],[]),(5,[],[]),(6,[],[]),(7,[],[])] (by kernel_rfl) ?_) | (with_reducible refine zP (i:=8) [(0,[],[]),(1,[],[]),(2,[],[]),(3,[],[]),(4,[],[]),(5,[],[]),(6,[.tmp 33],[]),(7,[],[]),(8,[],[])] (by kernel_rfl) ?_)) <;> simp [-qt,-qd,-ql,rgs,hx0,hy0,hcmp]) | fail
    refine zF9 (f_joined (p:=p) (q:=false) pp.2.2.1 hq3 (by omega)) (fun f=>by simp;exact .ref _ _ _ _) (fun e he=>by simp at he;subst he;exact twg_cl _) (.cons (.same _) (.cons (.same _) (.cons (Bor.ref0 (by first | (simp;done) | (simp;rfl)) rfl (by simp)) .nil))) ?_
    try simp [-qt,-qd,-ql,rgs]
    exact yI zG (by first | omega | (simp;done) | (simp;omega)) (by omega) (by simp) rfl (by simp)
theorem f_merge {p q:Bool} {a b:List Twg} (hl:a.length + b.length ≤ 1000) (ha:isH a) (hb:isH b) (hd:apart a b):FC ctx.P 266 [.view p 3 (a.map zZ),.view q 3 (b.map zZ)] (.ref 0 3 0 ((mrg a b).map zZ).length) [.row 3 ((mrg a b).map zZ)] :=
 f_mergeN _ p q a b (Nat.le_refl _) hl ha hb hd
theorem f_withoutN:∀ (n:Nat) (p:Bool) (a:List Twg) (s:Int),a.length ≤ n → n ≤ 900 → isH a → once a → (∃ x ∈ a,x.seq = s) → FC ctx.P 351 [.view p 3 (a.map zZ),.int .i64 s] (.ref 0 3 0 ((woN n a s).map zZ).length) [.row 3 ((woN n a s).map zZ)]:=by
 intro n
 induction n with
 | zero =>
   intro p a s hn hm ha ho hx
   obtain rfl:a = []:=List.eq_nil_of_length_eq_zero (by omega)
   obtain ⟨x,hx,_⟩:=hx
   simp at hx
 | succ n ih =>
   intro p a s hn hm ha ho hx
   have ha0:0 < a.length:=by
    obtain ⟨x,hx,_⟩:=hx
    exact List.length_pos_of_mem hx
   have pp:=zK5 ha ha0
   obtain ⟨o1,o2,o3,o4⟩:=once_part ho ha0 (k:=(gt a 0).lefts.toNat)
   by_cases h1:(gt a 0).seq = s
   ·rw [woN_1 ha0 h1]
    have h1b:((gt a 0).seq == s) = true:=by simpa using h1
    refine FC.o1 okC Tryz.func351 rfl (zM yJ _) fun h nx hnx => ?_
    try simp [-qt,-qd,-ql,rgs,zZ,h1b]
    repeat' first | done | ((first | ((with_reducible show zK _ _ _ _ _ _ _);refine zH rfl omA omA ?_) | ((with_reducible show zD _ _ _ 349 _ _);refine zB (zK4 ha0 pp.1 pp.2.1) ?_) | ((with_reducible show zD _ _ _ 266 _ _);refine zU (f_merge (by omega) pp.2.2.1 pp.2.2.2.1 o3) ?_)) <;> simp [-qt,-qd,-ql,rgs,zZ,h1b]) | fail
    exact yI zG (by first | omega | (simp;done) | (simp;omega)) (by omega) (by simp) rfl (by simp)
   ·have h1b:((gt a 0).seq == s) = false:=by simpa using h1
    by_cases h2:∃ x ∈ a.tail.take (gt a 0).lefts.toNat,x.seq = s
    ·rw [woN_2 ha0 h1 h2]
     have h2b:(0 ≤ zH3 (a.tail.take (gt a 0).lefts.toNat) s) = True:=by simp only [eq_iff_iff,iff_true];exact seqAt_pos.2 h2
     obtain ⟨w1,w2⟩:=woN_sub (n:=n) (by omega) pp.2.2.1 o1 h2
     refine FC.o1 okC Tryz.func351 rfl (zM yJ _) fun h nx hnx => ?_
     try simp [-qt,-qd,-ql,rgs,zZ,h1b,h2b]
     repeat' first | done | ((first | ((with_reducible show zK _ _ _ _ _ _ _);refine zH rfl omA omA ?_) | ((with_reducible show zD _ _ _ 349 _ _);refine zB (zK4 ha0 pp.1 pp.2.1) ?_) | ((with_reducible show zD _ _ _ 330 _ _);refine zB (c_seqAt) ?_) | (refine zU (ih p _ s (by omega) (by omega) pp.2.2.1 o1 h2) ?_)) <;> simp [-qt,-qd,-ql,rgs,zZ,h1b,h2b]) | fail
     refine zF9 (f_joined (p:=false) (q:=p) w1 pp.2.2.2.1 (by have:=pp.2.2.2.2;omega)) (fun f=>by simp;exact .ref _ _ _ _) (fun e he=>by simp at he;subst he;exact twg_cl _) (.cons (.same _) (.cons (Bor.ref0 (by first | (simp;done) | (simp;rfl)) rfl (by simp)) (.cons (.same _) .nil))) ?_
     try simp [-qt,-qd,-ql,rgs]
     exact yI zG (by first | omega | (simp;done) | (simp;omega)) (by omega) (by simp) rfl (by simp)
    ·have h3:=once_in ha0 h1 h2 hx
     rw [woN_3 ha0 h1 h2]
     have h2b:(0 ≤ zH3 (a.tail.take (gt a 0).lefts.toNat) s) = False:=by simp only [eq_iff_iff,iff_false];exact fun h=>h2 (seqAt_pos.1 h)
     obtain ⟨w1,w2⟩:=woN_sub (n:=n) (by omega) pp.2.2.2.1 o2 h3
     refine FC.o1 okC Tryz.func351 rfl (zM yJ _) fun h nx hnx => ?_
     try simp [-qt,-qd,-ql,rgs,zZ,h1b,h2b]
     repeat' first | done | ((first | ((with_reducible show zK _ _ _ _ _ _ _);refine zH rfl omA omA ?_) | ((with_reducible show zD _ _ _ 349 _ _);refine zB (zK4 ha0 pp.1 pp.2.1) ?_) | ((with_reducible show zD _ _ _ 330 _ _);refine zB (c_seqAt) ?_) | (refine zU (ih p _ s (by omega) (by omega) pp.2.2.2.1 o2 h3) ?_)) <;> simp [-qt,-qd,-ql,rgs,zZ,h1b,h2b]) | fail
     refine zF9 (f_joined (p:=p) (q:=false) pp.2.2.1 w1 (by have:=pp.2.2.2.2;omega)) (fun f=>by simp;exact .ref _ _ _ _) (fun e he=>by simp at he;subst he;exact twg_cl _) (.cons (.same _) (.cons (.same _) (.cons (Bor.ref0 (by first | (simp;done) | (simp;rfl)) rfl (by simp)) .nil))) ?_
     try simp [-qt,-qd,-ql,rgs]
     exact yI zG (by first | omega | (simp;done) | (simp;omega)) (by omega) (by simp) rfl (by simp)
theorem f_without {p:Bool} {a:List Twg} {s:Int} (hm:a.length ≤ 900) (ha:isH a) (ho:once a) (hx:∃ x ∈ a,x.seq = s):FC ctx.P 351 [.view p 3 (a.map zZ),.int .i64 s] (.ref 0 3 0 ((wo a s).map zZ).length) [.row 3 ((wo a s).map zZ)] :=
 f_withoutN _ p a s (Nat.le_refl _) hm ha ho hx
end Go.AE.Tryz
end
section
/- Contracts of the program's changes of timers. -/
set_option maxRecDepth 8000
set_option maxHeartbeats 4000000
namespace Go.AE.Tryz
open Go.Proofs
open List renaming map_take → qt,map_drop → qd,map_tail → ql
theorem m_stop {X:WI} {w:Wld} {p:Nat} {s:Int} (ht:vZ w.timers = true):AC ctx.P 267 [.ptr p 6,.int .i64 s]
 (fun h _=>h p = some (.obj (zB7 X w)) ∧ WV h X w) (TmsQ p X { w with timers:=vO w.timers s } (zF2 w.timers s)):=by
 obtain ⟨-,t2,t3,-,-,-⟩:=uO.1 ht
 refine AC.o okC Tryz.func267 rfl fun h nx hfr hnx hpre => ?_
 obtain ⟨o1,V1⟩:=hpre
 have hp:p < nx:=hnx p (by rw [o1];simp)
 have hpX:=V1.obj o1
 have hin:=V1.lt hnx
 have t5:=V1.top 5 (by omega)
 have t6:=V1.top 6 (by omega)
 simp only [zK2] at t5 t6
 have o0:=o1
 simp only [zB7] at o1
 have hl:=zB2 w.timers.list s
 have l5:=hin _ (WI.top_mem (X:=X) (k:=5) (by omega))
 have l6:=hin _ (WI.top_mem (X:=X) (k:=6) (by omega))
 have k1:∀ k,(p = nx + k) = False:=fun k=>by simp only [eq_iff_iff,iff_false];omega
 have k2:∀ k,(X.top 5 = nx + k) = False:=fun k=>by simp only [eq_iff_iff,iff_false];omega
 have k3:∀ k,(X.top 6 = nx + k) = False:=fun k=>by simp only [eq_iff_iff,iff_false];omega
 have k4:(p = X.top 5) = False:=by simp only [eq_iff_iff,iff_false];exact fun e=>hpX (e ▸ WI.top_mem (by omega))
 have k5:(p = X.top 6) = False:=by simp only [eq_iff_iff,iff_false];exact fun e=>hpX (e ▸ WI.top_mem (by omega))
 have k6:(X.top 5 = X.top 6) = False:=by simp only [eq_iff_iff,iff_false];exact fun e=>absurd (V1.top_inj (by omega) (by omega) e) (by omega)
 try simp [-qt,-qd,-ql,rgs,o1]
 refine yG (c_tmsAt (F:=FF) (t:=w.timers) (s:=s)) (.int _ _) ?hb ?_
 case hb=>exact .cons (.agg1 (.cons (.ref0 t5 (by simp) (by simp)) (.cons (.ref0 t6 (by simp) (by simp)) (.cons (.same _) .nil)))) (.cons (.same _) .nil)
 by_cases h0:0 ≤ yE w.timers.list s
 ·have hn:(yE w.timers.list s < 0) = False:=by simp only [eq_iff_iff,iff_false];omega
  have hsb:zF2 w.timers s = (gt w.timers.list (yE w.timers.list s)).armed:=by simp [zF2,h0]
  have hg:(w.timers.list.map yN)[(yE w.timers.list s).toNat]? = some (yN (gt w.timers.list (yE w.timers.list s))):=by rw [List.getElem?_map,zA9 h0 hl];rfl
  by_cases hb:zF2 w.timers s = true
  ·have ha:(gt w.timers.list (yE w.timers.list s)).armed = true:=by rw [← hsb];exact hb
   rw [hb]
   try simp [-qt,-qd,-ql,rgs,o1,t6,hn,ha,k1,k2,k3,k4,k5,k6]
   repeat' first | done | ((first | (((with_reducible show zK _ _ _ _ (.ref _ _ _ _) _ _);refine zV rfl (by omega) (by omega) ?_)) | (((with_reducible show zK8 _ _ _ _ _ _ _ _);refine vT hg ?_))) <;> simp [-qt,-qd,-ql,rgs,o1,t6,hn,ha,k1,k2,k3,k4,k5,k6]) | fail
   refine zH4 (sz:=5) (xs:=w.timers.list.map yN) (cells:=yN (gt w.timers.list (yE w.timers.list s))) (by simp [t6]) (by simp) rfl (by decide) hg ?_
   rw [show splice (yN (gt w.timers.list (yE w.timers.list s))) 4 [.bool false] = yN (offT (gt w.timers.list (yE w.timers.list s))) from rfl]
   have hsl:(w.timers.list.map yN).set (yE w.timers.list s).toNat (yN (offT (gt w.timers.list (yE w.timers.list s)))) = (vO w.timers s).list.map yN:=by rw [← List.map_set];simp [vO,hb]
   have hsh:(vO w.timers s).heap = wo w.timers.heap s:=by simp [vO,hb]
   have hsn:(vO w.timers s).next = w.timers.next:=stopT_next
   have hsll:(vO w.timers s).list.length = w.timers.list.length:=stopT_len
   rw [hsl]
   try simp [-qt,-qd,-ql,rgs,o1,k1,k2,k3,k4,k5,k6]
   refine zF9 (f_without (p:=false) (a:=w.timers.heap) (s:=s) (by omega) t3.2.2 t3.2.1 ((zQ7 ht s).2 hb)) (fun f=>by simp;exact .ref _ _ _ _) (fun e he=>by simp at he;subst he;exact twg_cl _) (.cons (Bor.ref0 (by simp [t5,k6]) (by simp) (by simp)) (.cons (.same _) .nil)) ?_
   try simp [-qt,-qd,-ql,rgs,o1,k1,k2,k3,k4,k5,k6]
   have hp6:X.top 6 ≠ p:=fun e=>hpX (e ▸ WI.top_mem (by omega))
   refine ⟨rfl,⟨X.setTop 5 (nx + 38),?_,V1.newTop [6] (by omega) (fun hm=>by have:=hin _ hm;omega) ?_ (by simp) (fun k hk => ?_) (fun k hk hS hne => ?_) rfl rfl (fun j hj hS hne => ?_),fun j hj => ?_⟩,fun j hj hjp hjX => ?_⟩
   ·rw [zJ];simp [zB7,WI.setTop,hsh,hsn,hsll]
   ·rw [zF _ _ _ _ (by omega),zJ];simp [zK2,hsh]
   ·simp only [List.mem_cons,List.not_mem_nil,or_false] at hk;subst hk
    rw [zF _ _ _ _ hp6,zF _ _ _ _ (by omega),zJ];rfl
   ·rcases lt15 hk with rfl | rfl | rfl | rfl | rfl | rfl | rfl | rfl | rfl | rfl | rfl | rfl | rfl | rfl | rfl <;> first | rfl | exact absurd (by decide) hS | exact absurd rfl hne
   ·have:=hin j hj
    rw [zF _ _ _ _ (fun (e:j = p)=>hpX (e ▸ hj)),zF _ _ _ _ (by omega),zF _ _ _ _ (hS 6 (by simp))]
   ·rcases WI.setTop_ids hj with q | q
    ·exact .inl q
    ·right;omega
   ·rw [zF _ _ _ _ hjp,zF _ _ _ _ (by omega),zF _ _ _ _ (fun (e:j = X.top 6)=>hjX (e ▸ WI.top_mem (by omega)))]
  ·have hb2:zF2 w.timers s = false:=by simpa using hb
   have ha:(gt w.timers.list (yE w.timers.list s)).armed = false:=by rw [← hsb];exact hb2
   rw [hb2,stopT_not hb]
   try simp [-qt,-qd,-ql,rgs,o1,t6,hn,ha,k1,k2,k3,k4,k5,k6]
   repeat' first | done | ((first | (((with_reducible show zK _ _ _ _ (.ref _ _ _ _) _ _);refine zV rfl (by omega) (by omega) ?_)) | (((with_reducible show zK8 _ _ _ _ _ _ _ _);refine vT hg ?_))) <;> simp [-qt,-qd,-ql,rgs,o1,t6,hn,ha,k1,k2,k3,k4,k5,k6]) | fail
   exact ⟨rfl,⟨X,o0,V1,fun id h=>.inl h⟩,fun j _ _ _=>rfl⟩
 ·have hn:(yE w.timers.list s < 0) = True:=by simp only [eq_iff_iff,iff_true];omega
  have hb:¬ zF2 w.timers s = true:=by simp [zF2];omega
  have hb2:zF2 w.timers s = false:=by simpa using hb
  rw [hb2,stopT_not hb]
  try simp [-qt,-qd,-ql,rgs,o1,hn]
  exact ⟨rfl,⟨X,o0,V1,fun id h=>.inl h⟩,fun j _ _ _=>rfl⟩
end Go.AE.Tryz
end
section
/- Contracts of the program's request to create a node. -/
set_option maxRecDepth 8000
set_option maxHeartbeats 4000000
namespace Go.AE.Tryz
open Go.Proofs
open List renaming map_take → qt,map_drop → qd,map_tail → ql
end Go.AE.Tryz
end
section
/- Contracts of the program's request to let the first timer ring. -/
set_option maxRecDepth 8000
set_option maxHeartbeats 4000000
namespace Go.AE.Tryz
open Go.Proofs
open List renaming map_take → qt,map_drop → qd,map_tail → ql
theorem m_DeleteTmr {id i:Nat} {xs:List Tmr} (hi:i < xs.length) (hl:xs.length ≤ 1048576):AC ctx.P 268 [.ref id 5 0 xs.length,.int .i64 i,.int .i64 ((i:Int) + 1)]
 (fun h _=>h id = some (.row 5 (xs.map yN)))
 (fun h nx r h' nx' => ∃ jd,r = .ref jd 5 0 (xs.eraseIdx i).length ∧ nx ≤ jd ∧ jd < nx' ∧ h' jd = some (.row 5 ((xs.eraseIdx i).map yN)) ∧ ∀ j,j < nx → j ≠ id → h' j = h j):=by
 refine AC.o okC Tryz.func268 rfl fun h nx hfr hnx hpre => ?_
 have i1:id < nx:=hnx id (by rw [hpre];simp)
 try simp [-qt,-qd,-ql,rgs,hpre]
 repeat' first | done | (((with_reducible show zT _ _ _ _ _ _);refine zA rfl fun _ => ?_) <;> simp [-qt,-qd,-ql,rgs,hpre]) | fail
 refine run_slice3 ⟨_,xs.length,i,i + 1,_,(xs.length:Int),rfl,rfl,zM3 (by simp [zF5]) (by simp [zF5];omega) (by omega),rfl,by omega,by simp;omega,by simp,?_⟩
 have hne:((i:Int) == (i:Int) + 1) = false:=by simp;omega
 try simp [-qt,-qd,-ql,rgs,hpre,hne]
 repeat' first | done | ((first | ((with_reducible show zT _ _ _ _ _ _);refine zA rfl fun _ => ?_) | (with_reducible refine zP (i:=5) [(0,[],[]),(1,[],[]),(2,[],[]),(3,[],[]),(4,[],[]),(5,[],[]),(6,[],[]),(7,[],[])] (by kernel_rfl) ?_)) <;> simp [-qt,-qd,-ql,rgs,hpre,hne]) | fail
 refine zN0 (l:=0) (h:=i) rfl (by simp [zF5]) (by simp [zF5]) (by omega) (by omega) ?_
 try simp [-qt,-qd,-ql,rgs,hpre]
 refine zN0 (l:=i + 1) (h:=xs.length) rfl (by simp [zF5];omega) (by simp [zF5]) (by omega) (by omega) ?_
 try simp [-qt,-qd,-ql,rgs,hpre]
 refine app_mid (ws:=xs.map yN) (ys:=(xs.map yN).drop (i + 1)) rfl rfl (by decide) (by decide) ?r1 ?r2 ?r3 ?r4 ?r5 ?_
 case r1=>exact hpre
 case r2 =>
  simp [hpre,-qd]
  exact ⟨by omega,List.take_of_length_le (by simp)⟩
 case r3=>simp;omega
 case r4=>simp only [yW];simp;omega
 case r5 =>
  simp only [List.all_eq_true]
  intro c hc x hx
  obtain ⟨y,_,rfl⟩:=List.mem_map.1 (List.mem_of_mem_drop hc)
  simp [yN] at hx
  rcases hx with rfl | rfl | rfl | rfl | rfl <;> rfl
 try simp [-qt,-qd,-ql,rgs,hpre]
 repeat' first | done | (((with_reducible show zT _ _ _ _ _ _);refine zA rfl fun _ => ?_) <;> simp [-qt,-qd,-ql,rgs,hpre]) | fail
 have hbd:zF5 0 (some (AV.int IntKind.i64 ((i:Int) + ((xs.length - (i + 1):Nat):Int)))) = some (xs.length - 1):=by
  simp only [zF5];rw [if_pos (by omega)];congr 1;omega
 have hrw:xs.length = (List.take i (List.map yN xs) ++ (List.drop (i + 1) (List.map yN xs) ++ List.drop (i + (xs.length - (i + 1))) (List.map yN xs))).length:=by simp;omega
 refine slice_far (l:=xs.length - 1) (h:=xs.length) rfl hbd (by simp [zF5]) (by omega) (zJ ..) (by omega) ?_
 try simp [-qt,-qd,-ql,rgs]
 refine ⟨_,rfl,_,zJ ..,rfl,by omega,by decide,?_⟩
 try simp [-qt,-qd,-ql,rgs]
 have hA:(List.take i (List.map yN xs) ++ List.drop (i + 1) (List.map yN xs)).length = xs.length - 1:=by simp;omega
 refine ⟨nx + 19,⟨rfl,by rw [List.length_eraseIdx,if_pos hi];omega⟩,by omega,by omega,?_,fun j hj hne2 => ?_⟩
 ·rw [if_pos rfl,← List.append_assoc,List.take_append_of_le_length (by omega),List.take_of_length_le (by omega),List.eraseIdx_eq_take_drop_succ,List.map_append,List.map_take,List.map_drop]
 ·rw [if_neg (by omega),if_neg (by omega),if_neg hne2]
theorem m_forget {X:WI} {w:Wld} {p:Nat} {s:Int} (ht:vZ w.timers = true):AC ctx.P 127 [.ptr p 6,.int .i64 s]
 (fun h _=>h p = some (.obj (zB7 X w)) ∧ WV h X w) (ChgQ p X (setT w (uP w.timers s)) (.bool (decide (0 ≤ yE (vO w.timers s).list s)))):=by
 obtain ⟨s1,s2⟩:=tmsOk_stop (s:=s) ht
 obtain ⟨-,u2,-,-,-,-⟩:=uO.1 s1
 have hstop:=fun X p=>m_stop (X:=X) (p:=p) (w:=w) (s:=s) ht
 have hcat:=c_tmsAt (F:=FF) (t:=vO w.timers s) (s:=s)
 have hl:=zB2 (vO w.timers s).list s
 have hW:uP w.timers s = dropT (vO w.timers s) s:=rfl
 rw [hW]
 generalize vO w.timers s = t1 at *
 refine AC.o okC Tryz.func127 rfl fun h nx hfr hnx hpre => ?_
 obtain ⟨o1,V1⟩:=hpre
 have hp:p < nx:=hnx p (by rw [o1];simp)
 try simp [-qt,-qd,-ql,rgs]
 refine yP (hstop X p) ⟨o1,V1⟩ ?_
 rintro r h1 n1 ⟨rfl,⟨X1,o2,V2,hid⟩,hf1⟩ hle1 hfr1
 dsimp only at hid hf1 hle1
 have hpX:=V2.obj o2
 have hin:∀ j ∈ X1.ids,j < n1:=fun j hj=>by rcases hid j hj with q | q;have:=V1.lt hnx j q;omega;omega
 have t5:=V2.top 5 (by omega)
 have t6:=V2.top 6 (by omega)
 simp only [zK2] at t5 t6
 have o0:=o2
 simp only [zB7] at o2
 have l6:=hin _ (WI.top_mem (X:=X1) (k:=6) (by omega))
 have k1:∀ k,(p = n1 + k) = False:=fun k=>by simp only [eq_iff_iff,iff_false];omega
 have k3:∀ k,(X1.top 6 = n1 + k) = False:=fun k=>by simp only [eq_iff_iff,iff_false];omega
 have k5:(p = X1.top 6) = False:=by simp only [eq_iff_iff,iff_false];exact fun e=>hpX (e ▸ WI.top_mem (by omega))
 try simp [-qt,-qd,-ql,rgs,o2]
 refine yG hcat (.int _ _) ?hb ?_
 case hb=>exact .cons (.agg1 (.cons (.ref0 t5 (by simp) (by simp)) (.cons (.ref0 t6 (by simp) (by simp)) (.cons (.same _) .nil)))) (.cons (.same _) .nil)
 by_cases h0:0 ≤ yE t1.list s
 ·have hn:(yE t1.list s < 0) = False:=by simp only [eq_iff_iff,iff_false];omega
  obtain ⟨i,hi⟩:∃ i:Nat,yE t1.list s = (i:Int):=⟨(yE t1.list s).toNat,by omega⟩
  have hD:dropT t1 s = ⟨t1.heap,t1.list.eraseIdx i,t1.next⟩:=by simp [dropT,h0,hi]
  have hd:decide (0 ≤ yE t1.list s) = true:=by simp [h0]
  have ew:IntKind.i64.wrap ((i:Int) + 1) = (i:Int) + 1:=zE (by omega)
  rw [hD,hd]
  rw [hi] at hn ⊢
  have hil:i < t1.list.length:=by omega
  try simp [-qt,-qd,-ql,rgs,o2,hn,ew]
  refine yP (m_DeleteTmr hil (by omega)) (by simpa using t6) ?_
  rintro r h2 n2 ⟨jd,rfl,hj1,hj2,hrow,hf⟩ hle2 hfr2
  dsimp only at hj1 hf hle2
  have o3:=hf p (by omega) (fun e=>hpX (e ▸ WI.top_mem (by omega)))
  rw [o2] at o3
  try simp [-qt,-qd,-ql,rgs,o3]
  refine ⟨rfl,⟨X1.setTop 6 jd,?_,V2.newTop [] (by omega) (fun hm=>by have:=hin _ hm;omega) ?_ (by simp) (by simp) (fun k hk _ hne => ?_) rfl rfl (fun j hj _ hne => ?_),fun j hj => ?_⟩,fun j hj hjp hjX => ?_⟩
  ·rw [zJ];simp [zB7,WI.setTop,setT,mkW]
  ·exact (zF _ _ _ _ (by omega)).trans hrow
  ·rcases lt15 hk with rfl | rfl | rfl | rfl | rfl | rfl | rfl | rfl | rfl | rfl | rfl | rfl | rfl | rfl | rfl <;> first | rfl | exact absurd rfl hne
  ·have:=hin j hj
   rw [zF _ _ _ _ (fun (e:j = p)=>hpX (e ▸ hj)),hf j (by omega) hne]
  ·rcases WI.setTop_ids hj with q | q
   ·rcases hid j q with r | r
    ·exact .inl r
    ·right;omega
   ·right;omega
  ·have hne:j ≠ X1.top 6:=fun e=>by
    rcases hid (X1.top 6) (WI.top_mem (by omega)) with r | r
    ·exact hjX (e ▸ r)
    ·omega
   rw [zF _ _ _ _ hjp,hf j (by omega) hne]
   exact hf1 j (by omega) hjp hjX
 ·have hn:(yE t1.list s < 0) = True:=by simp only [eq_iff_iff,iff_true];omega
  have hD:dropT t1 s = t1:=by simp [dropT,h0]
  have hd:decide (0 ≤ yE t1.list s) = false:=by simpa using h0
  rw [hD,hd]
  try simp [-qt,-qd,-ql,rgs,hn]
  exact ⟨rfl,⟨X1,o0,V2,fun id hm=>by rcases hid id hm with r | r <;> first | exact .inl r | (right;omega)⟩,fun j hj hjp hjX=>hf1 j (by omega) hjp hjX⟩
theorem c_Readied {k:Tsk} {reg:Int} (hpc:zB5 k = true → -9223372036854775808 ≤ k.pc ∧ k.pc < 9223372036854775807):PC ctx.P 129 [.agg (yM k),.int .i64 reg] (.agg (yM (vI k reg))):=by
 by_cases hk:zB5 k = true
 ·have ew:IntKind.i64.wrap (k.pc + 1) = k.pc + 1:=zE (by have:=hpc hk;omega)
  by_cases hs:k.state = 2
  ·have e:vI k reg = k:=by simp [vI,hk,hs]
   rw [e]
   have hsb:(k.state == 2) = true:=by simpa using hs
   refine PC.o okC Tryz.func129 rfl (.agg _ (zE0 k)) fun h nx hnx => ?_
   try simp [-qt,-qd,-ql,rgs,hk,hsb,ew,yM]
   repeat' first | done | (((with_reducible show zD _ _ _ 244 _ _);refine zB (zK3 (t:=k)) ?_) <;> simp [-qt,-qd,-ql,rgs,hk,hsb,ew,yM]) | fail
  ·have hsb:(k.state == 2) = false:=by simpa using hs
   by_cases hn:zB5 (zL9 k reg) = true
   ·have e:vI k reg = zL9 k reg:=by simp [vI,hk,hs,hn]
    have hc:=zK3 (t:=zL9 k reg)
    rw [hn] at hc
    rw [e]
    refine PC.o okC Tryz.func129 rfl (.agg _ (zE0 _)) fun h nx hnx => ?_
    try simp [-qt,-qd,-ql,rgs,hk,hsb,ew,yM,zL9]
    repeat' first | done | (((with_reducible show zD _ _ _ 244 _ _);refine zB (zK3 (t:=k)) ?_) <;> simp [-qt,-qd,-ql,rgs,hk,hsb,ew,yM,zL9]) | fail
    refine zB hc ?_
    try simp [-qt,-qd,-ql,rgs,hsb,yM,zL9]
   ·have hnf:zB5 (zL9 k reg) = false:=by simpa using hn
    have e:vI k reg = k:=by simp [vI,hk,hs,hnf]
    rw [e]
    refine PC.o okC Tryz.func129 rfl (.agg _ (zE0 k)) fun h nx hnx => ?_
    have hc:=zK3 (t:=zL9 k reg)
    rw [hnf] at hc
    try simp [-qt,-qd,-ql,rgs,hk,hsb,ew,yM]
    repeat' first | done | (((with_reducible show zD _ _ _ 244 _ _);refine zB (zK3 (t:=k)) ?_) <;> simp [-qt,-qd,-ql,rgs,hk,hsb,ew,yM]) | fail
    refine zB hc ?_
    try simp [-qt,-qd,-ql,rgs,hsb,yM,zL9]
 ·have hkf:zB5 k = false:=by simpa using hk
  have e:vI k reg = default:=by simp [vI,hkf]
  rw [e]
  refine PC.o okC Tryz.func129 rfl (.agg _ (zE0 _)) fun h nx hnx => ?_
  try simp [-qt,-qd,-ql,rgs,hkf,yM]
  repeat' first | done | (((with_reducible show zD _ _ _ 244 _ _);refine zB (zK3 (t:=k)) ?_) <;> simp [-qt,-qd,-ql,rgs,hkf,yM]) | fail
  trivial
end Go.AE.Tryz
end
section
/- Contracts of the program's request to make a step of propagation: the work. -/
set_option maxRecDepth 8000
set_option maxHeartbeats 4000000
namespace Go.AE.Tryz
open Go.Proofs
open List renaming map_take → qt,map_drop → qd,map_tail → ql
theorem f_children {p:Bool} {t:List Nod} {n:Int} (hl:t.length ≤ 60):FC ctx.P 292 [.view p 5 (t.map yS),.int .i64 n] (.ref 0 1 0 ((zL8 t n).map iv).length) [.row 1 ((zL8 t n).map iv)]:=by
 have hlim:t.length ≤ LIM:=by simp only [LIM];omega
 refine FC.o1 okC Tryz.func292 rfl (zM zA5 (zL8 t n)) fun h nx hnx => ?_
 try simp [-qt,-qd,-ql,rgs]
 repeat' first | done | (((with_reducible show zT _ _ _ _ _ _);refine zA rfl fun _ => ?_) <;> simp [-qt,-qd,-ql,rgs]) | fail
 refine zR (h0:=h) (nx0:=nx) [5,6,7,11,12,13,14,15,16,17,18,19,20,21,22,23,24] (t.length) (fun (i:Nat) a=>[(11,.int .i64 i),(5,.ref a.1 1 0 a.2.length)]) (fun (i:Nat) (a:Nat × List Int) h' n'=>nx ≤ a.1 ∧ a.1 < n' ∧ h' a.1 = some (.row 1 (a.2.map iv)) ∧ a.2.length ≤ i ∧ a.2 ++ zF3 (fun _ x=>x.up == n) (fun i _=>i) (t.drop i) i = zL8 t n) ((nx + 1,[])) (by simp) ?_ zG (by omega) ?_
 ·simp [zL8,iv]
 ·intro i a tm h' n' hle hJ hE hn' next hnx
  try dsimp only at hJ
  have hK:KeepB nx h' h:=KeepB.sub hE zG (by omega)
  simp [-qt,-qd,-ql]
  obtain ⟨id,acc⟩:=a
  obtain ⟨g0,g1,g2,g3,hJ⟩:=hJ
  dsimp only at g0 g1 g2 g3 hJ ⊢
  have k1:∀ k,(id = n' + k) = False:=fun k=>by simp only [eq_iff_iff,iff_false];omega
  by_cases hi:i < t.length
  ·have hn:=kids_rest hi hJ
   repeat' first | done | ((first | ((with_reducible show zK _ _ _ _ _ _ _);refine zH rfl omA omA ?_) | ((with_reducible show zL4 _ _ _ _ _ _ _ _);refine yO rfl rfl (by decide) (by decide) (by (simp [-qt,-qd,-ql,rgs,yS,iv,g2,k1,zE (x:=(i:Int)) (by omega)];rfl)) (by (simp [-qt,-qd,-ql,rgs,yS,iv,g2,k1,zE (x:=(i:Int)) (by omega)];rfl)) (by (simp;done)) (by (simp only [yW,LIM] at *; simp;omega)) (by simp [iv,bv]) ?_)) <;> simp [-qt,-qd,-ql,rgs,yS,iv,g2,k1,zE (x:=(i:Int)) (by omega)]) | ((with_reducible refine zC ?_ ?_) <;> intro qb <;> (have qp:=qb;try simp only [psq] at qp) <;> simp [-qt,-qd,-ql,rgs,yS,iv,g2,k1,zE (x:=(i:Int)) (by omega),qb])
   all_goals first
   | (rw [if_pos (by simp_all)] at hn
      refine hnx.go (n' + 14,acc ++ [(i:Int)]) (by omega) (by simp [zI hi hlim]) (by simp) zG (by first | omega | (simp;omega)) ?_
      dsimp only
      exact ⟨by omega,by omega,by simp [iv],by simp;omega,hn⟩)
   | (rw [if_neg (by simp_all)] at hn
      refine hnx.go (id,acc) (by omega) (by simp [zI hi hlim]) (by simp) zG (by first | omega | (simp;omega)) ?_
      dsimp only
      exact ⟨by omega,by omega,by simp [g2,k1],by omega,hn⟩)
   | omega
   | trivial
  ·have hi2:¬ ((i:Int) < t.length):=by omega
   rw [List.drop_eq_nil_of_le (by omega),zS1,List.append_nil] at hJ
   subst hJ
   try simp [-qt,-qd,-ql,rgs,iv,g2,k1,hi,hi2]
   all_goals first
   | omega
   | exact yI zG (by first | omega | (simp;omega)) (by omega) (by simp [g2,k1]) rfl (by simp)
   | trivial
theorem c_isCut {p:Bool} {t:List Nod} {i:Int} (h0:0 ≤ i) (h1:i < t.length):PC ctx.P 293 [.int .i64 i,.vptr [.view p 5 (t.map yS)]] (.bool (zA6 t i)):=by
 refine PC.o okC Tryz.func293 rfl (.bool _) fun h nx hnx => ?_
 try simp [-qt,-qd,-ql,rgs,yS,zA6]
 repeat' first | done | (((with_reducible show zK _ _ _ _ _ _ _);refine zH rfl omA omA ?_) <;> simp [-qt,-qd,-ql,rgs,yS,zA6]) | fail
theorem m_DeleteFunc {id q t0:Nat} {t:List Nod} {xs:List Int} (hx:∀ i ∈ xs,0 ≤ i ∧ i < t.length) (hl:xs.length ≤ 60):AC ctx.P 291 [.ref id 1 0 xs.length,.fn 293 [.ptr q 0]]
 (fun h _=>h id = some (.row 1 (xs.map iv)) ∧ h q = some (.obj [.ref t0 5 0 t.length]) ∧ h t0 = some (.row 5 (t.map yS)) ∧ t0 ≠ id)
 (FltQ id (xs.filter fun i => !zA6 t i)):=by
 have hn1:=zR4 (zA6 t) xs 0 (Int.le_refl 0)
 have hge:=idxI_ge (zA6 t) xs
 have hst:=del_start (keep:=fun i => !zA6 t i) (xs:=xs)
 have hff:xs.filter (fun i => !zA6 t i) = (xs.take xs.length).filter (fun i => !zA6 t i):=by rw [List.take_length]
 have hstep:=fun ys c j=>del_step (keep:=fun i => !zA6 t i) (xs:=xs) (ys:=ys) (c:=c) (j:=j)
 simp only [Bool.not_not] at hst
 have hst:0 ≤ yH (zA6 t) xs 0 → (yH (zA6 t) xs 0).toNat < xs.length ∧ xs.take (yH (zA6 t) xs 0).toNat = (xs.take ((yH (zA6 t) xs 0).toNat + 1)).filter (fun i => !zA6 t i):=hst
 have hlim:xs.length ≤ LIM:=by simp only [LIM];omega
 refine AC.o okC Tryz.func291 rfl fun h nx hfr hnx hpre => ?_
 obtain ⟨r1,r2,r3,hne⟩:=hpre
 have i1:id < nx:=hnx id (by rw [r1];simp)
 have i2:q < nx:=hnx q (by rw [r2];simp)
 have i3:t0 < nx:=hnx t0 (by rw [r3];simp)
 try simp [-qt,-qd,-ql,rgs,r1,r2]
 refine yG (zI7 (p:=false) (xs:=xs) (q:=zA6 t) (fv:=.fn 293 [.vptr [.view false 5 (t.map yS)]]) (fun i hi=>c_isCut (hx i hi).1 (hx i hi).2)) (.int _ _) ?hb ?_
 case hb=>exact .cons (.ref0 r1 (by simp) (by simp)) (.cons (.fn1 (.cons (.ptr0 r2 (.cons (.ref0 r3 (by simp) (by simp)) .nil)) .nil)) .nil)
 by_cases h0:yH (zA6 t) xs 0 < 0
 ·have hnc:=hn1.1 h0
  have he:(yH (zA6 t) xs 0 == -1) = true:=by simpa using (by omega:yH (zA6 t) xs 0 = -1)
  have hf:xs.filter (fun i => !zA6 t i) = xs:=List.filter_eq_self.2 fun i hi=>by simp [hnc i hi]
  rw [hf]
  try simp [-qt,-qd,-ql,rgs,he]
  exact ⟨rfl,r1,fun j hj hji=>rfl⟩
 ·have he:(yH (zA6 t) xs 0 == -1) = false:=by simpa using (by omega:yH (zA6 t) xs 0 ≠ -1)
  obtain ⟨s1,s2⟩:=hst (by omega)
  obtain ⟨c0,hc0⟩:∃ c:Nat,yH (zA6 t) xs 0 = (c:Int):=⟨(yH (zA6 t) xs 0).toNat,by omega⟩
  rw [hc0] at he s1 s2 ⊢
  simp only [Int.toNat_natCast] at s1 s2
  have hcall:=fun i (hi:0 ≤ i ∧ i < (t.length:Int))=>c_isCut (p:=false) (t:=t) (i:=i) hi.1 hi.2
  generalize hL:xs.filter (fun i => !zA6 t i) = L at *
  have hLl:L.length ≤ xs.length:=by rw [← hL];exact List.length_filter_le ..
  have ew:IntKind.i64.wrap ((c0:Int) + 1) = (c0:Int) + 1:=zE (by omega)
  try simp [-qt,-qd,-ql,rgs,he,ew]
  refine zR (h0:=h) (nx0:=0) [5,6,7,16,17,18,19,20,21,22,23,24,25,26,27,28,29,30,31,32,33,34,35] (xs.length - (c0 + 1)) (fun (i:Nat) a=>[(6,.int .i64 ((c0:Int) + 1 + i)),(5,.int .i64 (a.1:Nat))]) (fun (i:Nat) (a:Nat × List Int) h' n'=>nx ≤ n' ∧ h' id = some (.row 1 (a.2.map iv)) ∧ a.2.length = xs.length ∧ a.1 ≤ c0 + 1 + i ∧ a.2.take a.1 = (xs.take (c0 + 1 + i)).filter (fun i => !zA6 t i) ∧ a.2.drop (c0 + 1 + i) = xs.drop (c0 + 1 + i) ∧ ∀ j,j < nx → j ≠ id → h' j = h j) ((c0,xs)) (by simp) ?_ (fun j hj=>absurd hj (by omega)) (Nat.zero_le _) ?_
  ·exact ⟨by omega,r1,rfl,by omega,s2,rfl,fun j _ _=>rfl⟩
  ·intro i a tm h' n' hle hJ hE hn' next hnx
   try dsimp only at hJ
   simp [-qt,-qd,-ql]
   obtain ⟨c,ys⟩:=a
   obtain ⟨g0,g1,g2,g3,g4,g5,g6⟩:=hJ
   dsimp only at g1 g2 g3 g4 g5 ⊢
   have q1:=(g6 q (by omega) (fun e=>by rw [e,r1] at r2;cases r2)).trans r2
   have q2:=(g6 t0 (by omega) hne).trans r3
   by_cases hi:i < xs.length - (c0 + 1)
   ·obtain ⟨d1,d2,d3,d4,d5⟩:=hstep ys c (c0 + 1 + i) (by omega) g2 (by omega) g4 g5
    have hin:=hx _ (vR (xs:=xs) (z:=((c0 + 1 + i:Nat):Int)) (by omega) (by omega))
    have cj:((c0 + 1 + i:Nat):Int) = (c0:Int) + 1 + i:=by omega
    rw [cj] at d1 d3 d4 d5 hin
    have hlt:((c0:Int) + 1 + i < xs.length) = True:=by simp only [eq_iff_iff,iff_true];omega
    have hz:((c0:Int) + 1 + i).toNat = c0 + 1 + i:=by omega
    have hgx:(ys.map iv)[c0 + (1 + i)]? = some [AV.int .i64 (gt xs ((c0:Int) + 1 + i))]:=by
     rw [List.getElem?_map,show c0 + (1 + i) = ((c0:Int) + 1 + i).toNat by omega,zA9 (by omega) (by omega),d1];rfl
    repeat' first | done | ((first | ((with_reducible show zT _ _ _ _ _ _);refine zA rfl fun _ => ?_) | (((with_reducible show zK _ _ _ _ (.ref _ _ _ _) _ _);refine zV rfl (by omega) (by omega) ?_)) | (((with_reducible show zK8 _ _ _ _ _ _ _ _);refine vT hgx ?_))) <;> simp [-qt,-qd,-ql,rgs,iv,g1,g2,hlt,hz]) | fail
    refine yG (hcall _ hin) (.bool _) ?hb ?_
    case hb=>exact .cons (.same _) (.cons (.ptr0 q1 (.cons (.ref0 q2 (by simp) (by simp)) .nil)) .nil)
    have ew1:IntKind.i64.wrap ((c0:Int) + 1 + i + 1) = (c0:Int) + 1 + i + 1:=zE (by omega)
    have ew2:IntKind.i64.wrap ((c:Int) + 1) = (c:Int) + 1:=zE (by omega)
    cases hcut:zA6 t (gt xs ((c0:Int) + 1 + i)) with
    | true =>
      have d6:=d5 (by simp [hcut])
      try simp [-qt,-qd,-ql,rgs,hz,ew1]
      refine hnx.go (c,ys) (by omega) ?_ (by simp) (fun j hj=>absurd hj (by omega)) (Nat.zero_le _) ?_
      ·simp;omega
      dsimp only
      exact ⟨by omega,g1,g2,by omega,d6,d2,g6⟩
    | false =>
      have d6:=d4 (by simp [hcut])
      try simp [-qt,-qd,-ql,rgs,hz,ew1,ew2]
      repeat' first | done | ((((with_reducible show zK _ _ _ _ (.ref _ _ _ _) _ _);refine zV rfl (by omega) (by omega) ?_)) <;> simp [-qt,-qd,-ql,rgs,hz,ew1,ew2]) | fail
      have hcg:(ys.map iv)[c]? = some (iv (gt ys (c:Int))):=by
       rw [List.getElem?_map,yU (by omega),List.getElem?_eq_getElem (by omega)];rfl
      refine zH4 (sz:=1) (xs:=ys.map iv) (cells:=iv (gt ys (c:Int))) g1 (by simp) rfl (by decide) hcg ?_
      try simp [-qt,-qd,-ql,rgs,hz,ew1,ew2,iv]
      refine hnx.go (c + 1,ys.set c (gt xs ((c0:Int) + 1 + i))) (by omega) ?_ (by simp) (fun j hj=>absurd hj (by omega)) (Nat.zero_le _) ?_
      ·simp;omega
      dsimp only
      refine ⟨by omega,by rw [zJ,List.map_set];rfl,by simpa using g2,by omega,d6,d3,fun j hj hji => ?_⟩
      rw [zF _ _ _ _ hji];exact g6 j hj hji
   ·have hge2:((c0:Int) + 1 + i < xs.length) = False:=by simp only [eq_iff_iff,iff_false];omega
    repeat' first | done | (((with_reducible show zT _ _ _ _ _ _);refine zA rfl fun _ => ?_) <;> simp [-qt,-qd,-ql,rgs,iv,g1,g2,hge2]) | fail
    refine zM4 (l:=c) (h:=xs.length) rfl (by simp [zF5]) (by simp [zF5]) (by omega) (by omega) ?_
    try simp [-qt,-qd,-ql,rgs,iv,g1,g2,hge2]
    refine ⟨_,rfl,_,g1,rfl,by simp;omega,by decide,?_⟩
    try simp [-qt,-qd,-ql,rgs,iv,g1,g2,hge2]
    refine zM4 (l:=0) (h:=c) rfl (by simp [zF5]) (by simp [zF5]) (by omega) (by omega) ?_
    try simp [-qt,-qd,-ql,rgs,iv,g1,g2,hge2]
    have hci:c0 + 1 + i = xs.length:=by omega
    rw [hci,← hff] at g4
    have hcl:c = L.length:=by have:=congrArg List.length g4;simp at this;omega
    refine ⟨?_,?_,fun j hj hji => ?_⟩
    ·rw [hcl]
    ·rw [zJ,← List.map_take,g4]
    ·rw [zF _ _ _ _ hji];exact g6 j hj hji
theorem c_parkedOn {p:Bool} {l:List Tsk} {why what:Int} (hl60:l.length ≤ 60):PC ctx.P 177 [.view p 9 (l.map yM),.int .i64 why,.int .i64 what] (.view true 1 ((zG2 l why what).map iv)):=by
 have hlim:l.length ≤ LIM:=by simp only [LIM];omega
 refine PC.o okC Tryz.func177 rfl (.vmap zA5) fun h nx hnx => ?_
 try simp [-qt,-qd,-ql,rgs]
 repeat' first | done | (((with_reducible show zT _ _ _ _ _ _);refine zA rfl fun _ => ?_) <;> simp [-qt,-qd,-ql,rgs]) | fail
 refine zR (h0:=h) (nx0:=nx) [7,8,9,13,14,15,16,17,18,19,20,21,22,23,24,25,26,27,28,29,30,31,32,33,34,35,36,37] (l.length) (fun (i:Nat) a=>[(13,.int .i64 i),(7,.ref a.1 1 0 a.2.length)]) (fun (i:Nat) (a:Nat × List Int) h' n'=>nx ≤ a.1 ∧ a.1 < n' ∧ h' a.1 = some (.row 1 (a.2.map iv)) ∧ a.2.length ≤ i ∧ a.2 ++ zF3 (fun _ k=>zM7 why what k) (fun i _=>i) (l.drop i) i = zG2 l why what) ((nx + 1,[])) (by simp) ?_ zG (by omega) ?_
 ·simp [zG2,iv]
 ·intro i a tm h' n' hle hJ hE hn' next hnx
  try dsimp only at hJ
  have hK:KeepB nx h' h:=KeepB.sub hE zG (by omega)
  simp [-qt,-qd,-ql]
  obtain ⟨id,acc⟩:=a
  obtain ⟨g0,g1,g2,g3,hJ⟩:=hJ
  dsimp only at g0 g1 g2 g3 hJ ⊢
  have k1:∀ k,(id = n' + k) = False:=fun k=>by simp only [eq_iff_iff,iff_false];omega
  by_cases hi:i < l.length
  ·have hn:=park_rest hi hJ
   repeat' first | done | ((first | ((with_reducible show zK _ _ _ _ _ _ _);refine zH rfl omA omA ?_) | ((with_reducible show zL4 _ _ _ _ _ _ _ _);refine yO rfl rfl (by decide) (by decide) (by (simp [-qt,-qd,-ql,rgs,yM,iv,g2,k1,zE (x:=(i:Int)) (by omega)];rfl)) (by (simp [-qt,-qd,-ql,rgs,yM,iv,g2,k1,zE (x:=(i:Int)) (by omega)];rfl)) (by (simp;done)) (by (simp only [yW,LIM] at *; simp;omega)) (by simp [iv,bv]) ?_)) <;> simp [-qt,-qd,-ql,rgs,yM,iv,g2,k1,zE (x:=(i:Int)) (by omega)]) | ((first | (with_reducible refine zL ?_ ?_) | (with_reducible refine zC ?_ ?_)) <;> intro qb <;> (have qp:=qb;try simp only [psq] at qp) <;> simp [-qt,-qd,-ql,rgs,yM,iv,g2,k1,zE (x:=(i:Int)) (by omega),qb])
   all_goals first
   | (rw [if_pos (by simp_all [zM7])] at hn
      refine hnx.go (n' + 25,acc ++ [(i:Int)]) (by omega) (by simp [zI hi hlim]) (by simp) zG (by first | omega | (simp;omega)) ?_
      dsimp only
      exact ⟨by omega,by omega,by simp [iv],by simp;omega,hn⟩)
   | (rw [if_neg (by simp_all [zM7])] at hn
      refine hnx.go (id,acc) (by omega) (by simp [zI hi hlim]) (by simp) zG (by first | omega | (simp;omega)) ?_
      dsimp only
      exact ⟨by omega,by omega,by simp [g2,k1],by omega,hn⟩)
   | omega
   | trivial
  ·have hi2:¬ ((i:Int) < l.length):=by omega
   rw [List.drop_eq_nil_of_le (by omega),zS1,List.append_nil] at hJ
   subst hJ
   try simp [-qt,-qd,-ql,rgs,iv,g2,k1,hi,hi2]
   all_goals first
   | omega
   | exact zG
   | trivial
end Go.AE.Tryz
end
section
/- Contracts of the program's request to make a step of propagation: the step itself. -/
set_option maxRecDepth 8000
set_option maxHeartbeats 4000000
namespace Go.AE.Tryz
open Go.Proofs
open List renaming map_take → qt,map_drop → qd,map_tail → ql
theorem m_step {X:WI} {w:Wld} {p:Nat} (ht:uJ w.tree = true) (hs:vF w.spread w.tree = true):AC ctx.P 176 [.ptr p 4,.ref (X.top 1) 5 0 w.tree.length]
 (fun h _=>h p = some (.obj (zB7 X w)) ∧ WV h X w) (ChgQ p X (setS w (zF1 w.tree w.spread)) (.tup [.int .i64 (zJ4 w.tree w.spread),.bool (stepB w.tree w.spread)])):=by
 have hlt:=zC4 ht
 simp only [vF,Bool.and_eq_true,beq_iff_eq,decide_eq_true_eq] at hs
 obtain ⟨s1,s2,s3⟩:=hs
 refine AC.ghost ?_
 refine AC.o okC Tryz.func176 rfl fun h nx hfr hnx hpre => ?_
 obtain ⟨o1,V1⟩:=hpre
 have hp:p < nx:=hnx p (by rw [o1];simp)
 have hpX:=V1.obj o1
 have hin:=V1.lt hnx
 have t1:=V1.top 1 (by omega)
 have t3:=V1.top 3 (by omega)
 have t4:=V1.top 4 (by omega)
 simp only [zK2] at t1 t3 t4
 have o0:=o1
 simp only [zB7] at o1
 have l1:=hin _ (WI.top_mem (X:=X) (k:=1) (by omega))
 have l3:=hin _ (WI.top_mem (X:=X) (k:=3) (by omega))
 have l4:=hin _ (WI.top_mem (X:=X) (k:=4) (by omega))
 have k1:∀ k,(p = nx + k) = False:=fun k=>by simp only [eq_iff_iff,iff_false];omega
 have k2:∀ k,(X.top 1 = nx + k) = False:=fun k=>by simp only [eq_iff_iff,iff_false];omega
 have k3:∀ k,(X.top 3 = nx + k) = False:=fun k=>by simp only [eq_iff_iff,iff_false];omega
 have k4:∀ k,(X.top 4 = nx + k) = False:=fun k=>by simp only [eq_iff_iff,iff_false];omega
 have k5:(p = nx) = False:=by simp only [eq_iff_iff,iff_false];omega
 have k6:(X.top 1 = nx) = False:=by simp only [eq_iff_iff,iff_false];omega
 have k7:(X.top 3 = nx) = False:=by simp only [eq_iff_iff,iff_false];omega
 have k8:(X.top 4 = nx) = False:=by simp only [eq_iff_iff,iff_false];omega
 by_cases hl:w.spread.work.length = 0
 ·have hT:zJ3 w.tree w.spread = false:=by simp [zJ3,hl]
  have hO:zO7 w.spread = false:=by simp [zO7,hl]
  have e1:zF1 w.tree w.spread = w.spread:=by simp [zF1,hT,hO]
  have e2:zJ4 w.tree w.spread = -1:=by simp [zJ4,hT]
  have e3:stepB w.tree w.spread = false:=by simp [stepB,hT,hO]
  have hlp:((w.spread.work.length:Int) == 0) = true:=by rw [hl];rfl
  rw [e1,e2,e3]
  try simp [-qt,-qd,-ql,rgs,o1,hlp,k1,k2,k3,k4,k5,k6,k7,k8]
  repeat' first | done | (((with_reducible show zT _ _ _ _ _ _);refine zA rfl fun _ => ?_) <;> simp [-qt,-qd,-ql,rgs,o1,hlp,k1,k2,k3,k4,k5,k6,k7,k8]) | fail
  refine .done ⟨rfl,⟨X,?_,V1.keep fun id hm => ?_,fun id hm=>.inl hm⟩,fun j hj _ _ => ?_⟩
  ·rw [zF _ _ _ _ (by omega)];exact o0
  ·have:=hin id hm
   rw [zF _ _ _ _ (by omega)]
  ·rw [zF _ _ _ _ (by omega)]
 ·have hlp:((w.spread.work.length:Int) == 0) = false:=beq_eq_false_iff_ne.2 (by omega)
  have hn:uF (gt w.spread.work 0) w.tree = true:=by
   have:=s3
   simp only [Bool.not_eq_true',List.any_eq_false,Bool.not_eq_true] at this
   have:=this _ (vR (xs:=w.spread.work) (Int.le_refl 0) (by omega))
   simpa using this
  simp only [zE4] at hn
  have hg0:(w.spread.work.map iv)[0]? = some (iv (gt w.spread.work 0)):=by rw [List.getElem?_map,show (0:Nat) = (0:Int).toNat from rfl,zA9 (by omega) (by omega)];rfl
  have hgt:(w.spread.told.map bv)[(gt w.spread.work 0).toNat]? = some (bv (gt w.spread.told (gt w.spread.work 0))):=by rw [List.getElem?_map,zA9 (by omega) (by omega)];rfl
  cases htd:gt w.spread.told (gt w.spread.work 0) with
  | true =>
    have hT:zJ3 w.tree w.spread = false:=by simp [zJ3,htd]
    have hO:zO7 w.spread = true:=by simp [zO7,hl,htd]
    have e1:zF1 w.tree w.spread = ⟨w.spread.told,w.spread.work.tail⟩:=by simp [zF1,hT,hO]
    have e2:zJ4 w.tree w.spread = -1:=by simp [zJ4,hT]
    have e3:stepB w.tree w.spread = true:=by simp [stepB,hT,hO]
    rw [e1,e2,e3]
    try simp [-qt,-qd,-ql,rgs,o1,t3,t4,hlp,iv,bv,htd,k1,k2,k3,k4,k5,k6,k7,k8]
    repeat' first | done | ((first | ((with_reducible show zT _ _ _ _ _ _);refine zA rfl fun _ => ?_) | (((with_reducible show zK _ _ _ _ (.ref _ _ _ _) _ _);refine zV rfl (by omega) (by omega) ?_)) | (((with_reducible show zK8 _ _ _ _ _ _ _ _);refine vT (by first | exact hg0 | exact hgt) ?_))) <;> simp [-qt,-qd,-ql,rgs,o1,t3,t4,hlp,iv,bv,htd,k1,k2,k3,k4,k5,k6,k7,k8]) | fail
    refine zM4 (l:=1) (h:=w.spread.work.length) rfl (by simp [zF5]) (by simp [zF5]) (by omega) (by omega) ?_
    try simp [-qt,-qd,-ql,rgs,o1,k1,k5]
    have p4:p ≠ X.top 4:=fun e=>hpX (e ▸ WI.top_mem (by omega))
    refine .trim (p:=p) (i:=5) (id:=X.top 4) (sz:=1) (off:=1) (len:=w.spread.work.length - 1) (xs:=w.spread.work.map iv) (zJ ..) rfl ?_ (by simp;omega) (.done ⟨rfl,⟨X.setTop 4 (nx + 34),?_,V1.newTop [] (by omega) (fun hm=>by have:=hin _ hm;omega) ?_ (by simp) (by simp) (fun k hk _ hne => ?_) rfl rfl (fun j hj _ hne => ?_),fun j hj => ?_⟩,fun j hj hjp hjX => ?_⟩)
    ·rw [zF _ _ _ _ p4.symm,zF _ _ _ _ (by omega)];exact t4
    ·rw [zJ];simp [zB7,WI.setTop,setS,mkW]
    ·rw [zF _ _ _ _ (by omega),zJ]
     simp only [zK2,setS,mkW]
     congr 2
     rw [List.take_of_length_le (by simp),← List.map_drop,List.drop_one]
    ·rcases lt15 hk with rfl | rfl | rfl | rfl | rfl | rfl | rfl | rfl | rfl | rfl | rfl | rfl | rfl | rfl | rfl <;> first | rfl | exact absurd rfl hne
    ·have:=hin j hj
     have hjp:j ≠ p:=fun e=>hpX (e ▸ hj)
     rw [zF _ _ _ _ hjp,zF _ _ _ _ (by omega),zF _ _ _ _ hne,zF _ _ _ _ hjp,zF _ _ _ _ (by omega)]
    ·rcases WI.setTop_ids hj with q | q
     ·exact .inl q
     ·right;omega
    ·have hne:j ≠ X.top 4:=fun e=>hjX (e ▸ WI.top_mem (by omega))
     rw [zF _ _ _ _ hjp,zF _ _ _ _ (by omega),zF _ _ _ _ hne,zF _ _ _ _ hjp,zF _ _ _ _ (by omega)]
  | false =>
    have hmo:=moreI_len (t:=w.tree) (n:=gt w.spread.work 0)
    have hkl:=kidsI_len (t:=w.tree) (n:=gt w.spread.work 0)
    have hkm:∀ i ∈ zL8 w.tree (gt w.spread.work 0),0 ≤ i ∧ i < w.tree.length:=fun i hi=>kidsI_mem hi
    have hO:zO7 w.spread = false:=by simp [zO7,htd]
    have hdm:=fun id q t0=>m_DeleteFunc (id:=id) (q:=q) (t0:=t0) (t:=w.tree) (xs:=zL8 w.tree (gt w.spread.work 0)) hkm (by omega)
    have hT:zJ3 w.tree w.spread = decide (w.spread.work.length - 1 + (moreI w.tree (gt w.spread.work 0)).length ≤ 240):=by simp [zJ3,hl,htd]
    have hch:=f_children (p:=false) (t:=w.tree) (n:=gt w.spread.work 0) (by omega)
    unfold zF1 zJ4 stepB
    rw [hO,hT]
    clear hT
    unfold moreI at *
    generalize zL8 w.tree (gt w.spread.work 0) = ks at *
    generalize ks.filter (fun i => !zA6 w.tree i) = ms at *
    generalize hn0:gt w.spread.work 0 = n0 at *
    try simp [-qt,-qd,-ql,rgs,o1,t3,t4,hlp,iv,bv,htd,k1,k2,k3,k4,k5,k6,k7,k8]
    repeat' first | done | ((first | ((with_reducible show zT _ _ _ _ _ _);refine zA rfl fun _ => ?_) | (((with_reducible show zK _ _ _ _ (.ref _ _ _ _) _ _);refine zV rfl (by omega) (by omega) ?_)) | (((with_reducible show zK8 _ _ _ _ _ _ _ _);refine vT (by first | exact hg0 | exact hgt) ?_))) <;> simp [-qt,-qd,-ql,rgs,o1,t3,t4,hlp,iv,bv,htd,k1,k2,k3,k4,k5,k6,k7,k8]) | fail
    refine zF9 hch (fun f=>by simp;exact .ref ..) (fun e he=>by rw [List.mem_singleton] at he;subst he;exact rowE_cl fun x c hc=>by simp [iv] at hc;subst hc;exact .int _ _) (.cons (.ref0 (by simp [t1,k6]) (by simp) (by simp)) (.cons (.same _) .nil)) ?_
    try simp [-qt,-qd,-ql,rgs,o1,k1,k5]
    refine yP (hdm (nx + 29) nx (X.top 1)) ⟨by simp,by simp,by simp [t1,k2,k6],by omega⟩ ?_
    rintro r h1 n1 ⟨rfl,hrow,hf1⟩ hle1 hfr1
    dsimp only at hf1 hle1
    have z1:=(hf1 p (by omega) (by omega))
    simp [k1,k5,o1] at z1
    have z3:=(hf1 (X.top 3) (by omega) (by omega))
    simp [k3,k7,t3] at z3
    have z4:=(hf1 (X.top 4) (by omega) (by omega))
    simp [k4,k8,t4] at z4
    have j1:∀ k,(p = n1 + k) = False:=fun k=>by simp only [eq_iff_iff,iff_false];omega
    have j3:∀ k,(X.top 3 = n1 + k) = False:=fun k=>by simp only [eq_iff_iff,iff_false];omega
    have j4:∀ k,(X.top 4 = n1 + k) = False:=fun k=>by simp only [eq_iff_iff,iff_false];omega
    have ew1:IntKind.i64.wrap ((w.spread.work.length:Int) - 1) = (w.spread.work.length:Int) - 1:=zE (by omega)
    have ew2:IntKind.i64.wrap ((w.spread.work.length:Int) - 1 + ms.length) = (w.spread.work.length:Int) - 1 + ms.length:=zE (by omega)
    by_cases hbig:w.spread.work.length - 1 + ms.length ≤ 240
    ·have hb:(240 < (w.spread.work.length:Int) - 1 + ms.length) = False:=by simp only [eq_iff_iff,iff_false];omega
     simp only [hbig,decide_true,if_true,Bool.true_or]
     try simp [-qt,-qd,-ql,rgs,z1,z3,z4,hb,ew1,ew2,j1,j3,j4]
     repeat' first | done | ((first | ((with_reducible show zT _ _ _ _ _ _);refine zA rfl fun _ => ?_) | (((with_reducible show zK _ _ _ _ (.ref _ _ _ _) _ _);refine zV rfl (by omega) (by omega) ?_))) <;> simp [-qt,-qd,-ql,rgs,z1,z3,z4,hb,ew1,ew2,j1,j3,j4]) | fail
     refine zH4 (sz:=1) (xs:=w.spread.told.map bv) (cells:=bv (gt w.spread.told n0)) z3 (by simp) rfl (by decide) hgt ?_
     have m34:X.top 3 ≠ X.top 4:=fun e=>absurd (V1.top_inj (by omega) (by omega) e) (by omega)
     have p3:p ≠ X.top 3:=fun e=>hpX (e ▸ WI.top_mem (by omega))
     have p4:p ≠ X.top 4:=fun e=>hpX (e ▸ WI.top_mem (by omega))
     have j5:(p = X.top 3) = False:=by simp only [eq_iff_iff,iff_false];exact p3
     have j6:(p = X.top 4) = False:=by simp only [eq_iff_iff,iff_false];exact p4
     have j7:(X.top 4 = X.top 3) = False:=by simp only [eq_iff_iff,iff_false];exact m34.symm
     have j8:(nx + 29 = X.top 3) = False:=by simp only [eq_iff_iff,iff_false];omega
     rw [show (w.spread.told.map bv).set n0.toNat (splice (bv (gt w.spread.told n0)) 0 [.bool true]) = (w.spread.told.set n0.toNat true).map bv by rw [List.map_set];rfl]
     try simp [-qt,-qd,-ql,rgs,z1,z3,z4,j1,j3,j4,j5,j6,j7]
     refine zM4 (l:=1) (h:=w.spread.work.length) rfl (by simp [zF5]) (by simp [zF5]) (by omega) (by omega) ?_
     try simp [-qt,-qd,-ql,rgs,z1,z3,z4,j1,j3,j4,j5,j6,j7]
     refine app_mid (ws:=w.spread.work.map iv) (ys:=ms.map iv) rfl rfl (by decide) (by decide) ?r1 ?r2 ?r3 ?r4 ?r5 ?_
     case r1=>simp [j7,z4]
     case r2=>simp [j8,hrow]
     case r3=>simp;omega
     case r4=>simp only [yW];simp;omega
     case r5=>simp [iv]
     have hr:List.take (w.spread.work.length - 1) (List.drop 1 (List.map iv w.spread.work)) ++ List.map iv ms ++ List.drop (1 + (w.spread.work.length - 1) + (List.map iv ms).length) (List.map iv w.spread.work) = (w.spread.work.tail ++ ms).map iv:=by
      have h9:List.drop (1 + (w.spread.work.length - 1) + (List.map iv ms).length) (List.map iv w.spread.work) = []:=List.drop_eq_nil_of_le (by simp;omega)
      rw [h9,List.take_of_length_le (by simp),List.append_nil,← List.map_drop,List.drop_one,List.map_append]
     rw [hr]
     generalize hwk:w.spread.work.tail ++ ms = wk
     have hwl:w.spread.work.length - 1 + ms.length = wk.length:=by rw [← hwk];simp
     try simp [-qt,-qd,-ql,rgs,z1,z3,z4,j1,j3,j4,j5,j6,j7,hwl]
     refine .done ⟨rfl,⟨X.setTop 4 (n1 + 24),?_,V1.newTop [3] (by omega) (fun hm=>by have:=hin _ hm;omega) ?_ (by simp) (fun k hk => ?_) (fun k hk h3 hne => ?_) rfl rfl (fun j hj h3 hne => ?_),fun j hj => ?_⟩,fun j hj hjp hjX => ?_⟩
     ·rw [zJ];simp [zB7,WI.setTop,setS,mkW]
     ·rw [zF _ _ _ _ (by omega),zJ];simp [zK2,setS,mkW]
     ·rw [List.mem_singleton] at hk;subst hk
      rw [zF _ _ _ _ p3.symm,zF _ _ _ _ (by omega),zF _ _ _ _ m34,zJ];simp [zK2,setS,mkW]
     ·rcases lt15 hk with rfl | rfl | rfl | rfl | rfl | rfl | rfl | rfl | rfl | rfl | rfl | rfl | rfl | rfl | rfl <;> first | rfl | exact absurd rfl hne | exact absurd (by simp) h3
     ·have:=hin j hj
      have hjp:j ≠ p:=fun e=>hpX (e ▸ hj)
      have hj3:=h3 3 (by simp)
      rw [zF _ _ _ _ hjp,zF _ _ _ _ (by omega),zF _ _ _ _ hne,zF _ _ _ _ hj3,hf1 j (by omega) (by omega)]
      repeat rw [zF _ _ _ _ (by omega)]
     ·rcases WI.setTop_ids hj with q | q
      ·exact .inl q
      ·right;omega
     ·have hne:j ≠ X.top 4:=fun e=>hjX (e ▸ WI.top_mem (by omega))
      have hj3:j ≠ X.top 3:=fun e=>hjX (e ▸ WI.top_mem (by omega))
      rw [zF _ _ _ _ hjp,zF _ _ _ _ (by omega),zF _ _ _ _ hne,zF _ _ _ _ hj3,hf1 j (by omega) (by omega)]
      repeat rw [zF _ _ _ _ (by omega)]
    ·have hb:(240 < (w.spread.work.length:Int) - 1 + ms.length) = True:=by simp only [eq_iff_iff,iff_true];omega
     simp only [hbig,decide_false,Bool.false_eq_true,if_false,Bool.or_self]
     try simp [-qt,-qd,-ql,rgs,z1,z3,z4,hb,ew1,ew2,j1,j3,j4]
     repeat' first | done | (((with_reducible show zT _ _ _ _ _ _);refine zA rfl fun _ => ?_) <;> simp [-qt,-qd,-ql,rgs,z1,z3,z4,hb,ew1,ew2,j1,j3,j4]) | fail
     refine .done ⟨rfl,⟨X,?_,V1.keep fun id hm => ?_,fun id hm=>.inl hm⟩,fun j hj _ _ => ?_⟩
     ·rw [hf1 p (by omega) (by omega)];simp [k1,k5];exact o0
     ·have:=hin id hm
      rw [hf1 id (by omega) (by omega)]
      repeat rw [zF _ _ _ _ (by omega)]
     ·rw [hf1 j (by omega) (by omega)]
      repeat rw [zF _ _ _ _ (by omega)]
end Go.AE.Tryz
end
