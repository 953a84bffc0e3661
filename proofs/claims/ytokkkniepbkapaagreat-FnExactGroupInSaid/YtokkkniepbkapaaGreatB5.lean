/- Contracts of the seat's functions: what each answers, for all arguments. -/
import Derived.Test.YtokkkniepbkapaaGreatB4
import Derived.Test.YtokkkniepbkapaaGreatB3
import Derived.Test.YtokkkniepbkapaaGreatA3
import Derived.Test.YtokkkniepbkapaaGreatA4
set_option linter.unusedVariables false
set_option linter.unusedSimpArgs false
set_option linter.deprecated false
section
/- Contracts of the reference's request to create a node. -/
set_option maxRecDepth 8000
set_option maxHeartbeats 4000000
namespace Go.AE.Tryz
open Go.Proofs
open List renaming map_take → qt,map_drop → qd,map_tail → ql
theorem s_Grown {p:Bool} {t:List Nod} {x:Nod} (ht:vV t = true):PC ctx.P 165 [.view p 5 (t.map yC),.agg (yC x)] (.tup [.view true 5 ((if zE2 t x = true then t ++ [x] else t).map yC),.int .i64 (if zE2 t x = true then t.length else -1)]):=by
 have hl:=zB9 ht
 have hl2:t.length ≤ 1048576:=by omega
 have e:vV (t ++ [x]) = zE2 t x:=by rw [zK0,ht];rfl
 by_cases hc:zE2 t x = true
 ·rw [hc] at e
  simp only [if_pos hc]
  refine PC.o okC Tryz.func165 rfl (.tup _ (by simp only [List.mem_cons,List.not_mem_nil,or_false];rintro c (rfl | rfl);exact .vmap zI7;exact .int _ _)) fun h nx hnx => ?_
  try simp [-qt,-qd,-ql,rgs,ht,yC,yE,zP hnx]
  repeat' first | done | ((first | ((with_reducible show zU _ _ _ _ _ _);refine zB rfl fun _ => ?_) | ((with_reducible show zG _ _ _ 198 _ _);refine zD (zG1 (t:=t)) ?_) | ((with_reducible show zG _ _ _ 114 _ _);refine yD (zQ3 hl2) ?_) | ((with_reducible show vZ _ _ _ _ _ _ _ _);refine zQ rfl rfl (by decide) (by decide) (by first | (simp [-qt,-qd,-ql,rgs,ht,yC,yE,zP hnx];done) | (simp [-qt,-qd,-ql,rgs,ht,yC,yE,zP hnx];rfl)) (by first | (simp [-qt,-qd,-ql,rgs,ht,yC,yE,zP hnx];done) | (simp [-qt,-qd,-ql,rgs,ht,yC,yE,zP hnx];rfl)) (by first | (simp;done) | (simp;omega)) (by first | (simp only [zY,LIM] at *; simp;omega) | (simp only [zY];simp;omega)) (by simp [iv,bv]) ?_) | (with_reducible refine zF (i:=3) [(0,[],[]),(2,[],[]),(1,[.tmp 3],[3]),(3,[],[]),(4,[],[]),(5,[],[])] (by kernel_rfl) ?_)) <;> simp [-qt,-qd,-ql,rgs,ht,yC,yE,zP hnx]) | ((first | (with_reducible refine zA ?_ ?_)) <;> intro qb <;> (have qp:=qb;try simp only [psq] at qp) <;> simp [-qt,-qd,-ql,rgs,ht,yC,yE,zP hnx,qb])
  refine yJ (zG1 (p:=false) (t:=t ++ [x])) (.bool _) ?hb ?_
  case hb=>exact .cons (.ref0 (by simp [yC]) (by simp) (by simp)) .nil
  try simp [-qt,-qd,-ql,rgs,e,yC,yE,zP hnx]
  repeat' first | done | ((first | ((with_reducible show zU _ _ _ _ _ _);refine zB rfl fun _ => ?_) | ((with_reducible show vZ _ _ _ _ _ _ _ _);refine zQ rfl rfl (by decide) (by decide) (by first | (simp [-qt,-qd,-ql,rgs,e,yC,yE,zP hnx];done) | (simp [-qt,-qd,-ql,rgs,e,yC,yE,zP hnx];rfl)) (by first | (simp [-qt,-qd,-ql,rgs,e,yC,yE,zP hnx];done) | (simp [-qt,-qd,-ql,rgs,e,yC,yE,zP hnx];rfl)) (by first | (simp;done) | (simp;omega)) (by first | (simp only [zY,LIM] at *; simp;omega) | (simp only [zY];simp;omega)) (by simp [iv,bv]) ?_) | (with_reducible refine zF (i:=3) [(0,[],[]),(2,[],[]),(1,[.tmp 3],[3]),(3,[],[]),(4,[],[]),(5,[],[])] (by kernel_rfl) ?_)) <;> simp [-qt,-qd,-ql,rgs,e,yC,yE,zP hnx]) | ((first | (with_reducible refine zA ?_ ?_)) <;> intro qb <;> (have qp:=qb;try simp only [psq] at qp) <;> simp [-qt,-qd,-ql,rgs,e,yC,yE,zP hnx,qb])
 ·have hc2:zE2 t x = false:=by simpa using hc
  rw [hc2] at e
  simp only [if_neg hc]
  refine PC.o okC Tryz.func165 rfl (.tup _ (by simp only [List.mem_cons,List.not_mem_nil,or_false];rintro c (rfl | rfl);exact .vmap zI7;exact .int _ _)) fun h nx hnx => ?_
  try simp [-qt,-qd,-ql,rgs,ht,yC,yE,zP hnx]
  repeat' first | done | ((first | ((with_reducible show zU _ _ _ _ _ _);refine zB rfl fun _ => ?_) | ((with_reducible show zG _ _ _ 198 _ _);refine zD (zG1 (t:=t)) ?_) | ((with_reducible show zG _ _ _ 114 _ _);refine yD (zQ3 hl2) ?_) | ((with_reducible show vZ _ _ _ _ _ _ _ _);refine zQ rfl rfl (by decide) (by decide) (by first | (simp [-qt,-qd,-ql,rgs,ht,yC,yE,zP hnx];done) | (simp [-qt,-qd,-ql,rgs,ht,yC,yE,zP hnx];rfl)) (by first | (simp [-qt,-qd,-ql,rgs,ht,yC,yE,zP hnx];done) | (simp [-qt,-qd,-ql,rgs,ht,yC,yE,zP hnx];rfl)) (by first | (simp;done) | (simp;omega)) (by first | (simp only [zY,LIM] at *; simp;omega) | (simp only [zY];simp;omega)) (by simp [iv,bv]) ?_) | (with_reducible refine zF (i:=3) [(0,[],[]),(2,[],[]),(1,[.tmp 3],[3]),(3,[],[]),(4,[],[]),(5,[],[])] (by kernel_rfl) ?_)) <;> simp [-qt,-qd,-ql,rgs,ht,yC,yE,zP hnx]) | ((first | (with_reducible refine zA ?_ ?_)) <;> intro qb <;> (have qp:=qb;try simp only [psq] at qp) <;> simp [-qt,-qd,-ql,rgs,ht,yC,yE,zP hnx,qb])
  refine yJ (zG1 (p:=false) (t:=t ++ [x])) (.bool _) ?hb ?_
  case hb=>exact .cons (.ref0 (by simp [yC]) (by simp) (by simp)) .nil
  try simp [-qt,-qd,-ql,rgs,e,yC,yE,zP hnx]
  repeat' first | done | ((first | ((with_reducible show zU _ _ _ _ _ _);refine zB rfl fun _ => ?_) | ((with_reducible show zG _ _ _ 114 _ _);refine yD (zQ3 hl2) ?_) | ((with_reducible show vZ _ _ _ _ _ _ _ _);refine zQ rfl rfl (by decide) (by decide) (by first | (simp [-qt,-qd,-ql,rgs,e,yC,yE,zP hnx];done) | (simp [-qt,-qd,-ql,rgs,e,yC,yE,zP hnx];rfl)) (by first | (simp [-qt,-qd,-ql,rgs,e,yC,yE,zP hnx];done) | (simp [-qt,-qd,-ql,rgs,e,yC,yE,zP hnx];rfl)) (by first | (simp;done) | (simp;omega)) (by first | (simp only [zY,LIM] at *; simp;omega) | (simp only [zY];simp;omega)) (by simp [iv,bv]) ?_) | (with_reducible refine zF (i:=3) [(0,[],[]),(2,[],[]),(1,[.tmp 3],[3]),(3,[],[]),(4,[],[]),(5,[],[])] (by kernel_rfl) ?_)) <;> simp [-qt,-qd,-ql,rgs,e,yC,yE,zP hnx]) | ((first | (with_reducible refine zA ?_ ?_)) <;> intro qb <;> (have qp:=qb;try simp only [psq] at qp) <;> simp [-qt,-qd,-ql,rgs,e,yC,yE,zP hnx,qb])
end Go.AE.Tryz
end
section
/- Contracts of the reference's request to create a group. -/
set_option maxRecDepth 8000
set_option maxHeartbeats 4000000
namespace Go.AE.Tryz
open Go.Proofs
open List renaming map_take → qt,map_drop → qd,map_tail → ql
theorem f_Grown {p:Bool} {t:List Nod} {x:Nod} (ht:vV t = true) (hc:zE2 t x = true):FC ctx.P 165 [.view p 5 (t.map yC),.agg (yC x)] (.tup [.ref 0 5 0 (t ++ [x]).length,.int .i64 t.length]) [.row 5 ((t ++ [x]).map yC)]:=by
 have hl:=zB9 ht
 have hl2:t.length ≤ 1048576:=by omega
 have e:vV (t ++ [x]) = zE2 t x:=by rw [zK0,ht];rfl
 rw [hc] at e
 refine FC.o okC Tryz.func165 rfl ((.tup _ (by simp only [List.mem_cons,List.not_mem_nil,or_false];rintro c (rfl | rfl);exact .one _ (.ref _ _ _ _ (by simp));exact .one _ (.fz _ (.int _ _))))) ((fun e he=>by rw [List.mem_singleton] at he;subst he;exact zS zI7 _)) fun h nx hnx => ?_
 try simp [-qt,-qd,-ql,rgs,ht,yC,yE,zP hnx]
 repeat' first | done | ((first | ((with_reducible show zU _ _ _ _ _ _);refine zB rfl fun _ => ?_) | ((with_reducible show zG _ _ _ 198 _ _);refine zD (zG1 (t:=t)) ?_) | ((with_reducible show zG _ _ _ 114 _ _);refine yD (zQ3 hl2) ?_) | ((with_reducible show vZ _ _ _ _ _ _ _ _);refine zQ rfl rfl (by decide) (by decide) (by first | (simp [-qt,-qd,-ql,rgs,ht,yC,yE,zP hnx];done) | (simp [-qt,-qd,-ql,rgs,ht,yC,yE,zP hnx];rfl)) (by first | (simp [-qt,-qd,-ql,rgs,ht,yC,yE,zP hnx];done) | (simp [-qt,-qd,-ql,rgs,ht,yC,yE,zP hnx];rfl)) (by first | (simp;done) | (simp;omega)) (by first | (simp only [zY,LIM] at *; simp;omega) | (simp only [zY];simp;omega)) (by simp [iv,bv]) ?_) | (with_reducible refine zF (i:=3) [(0,[],[]),(2,[],[]),(1,[.tmp 3],[3]),(3,[],[]),(4,[],[]),(5,[],[])] (by kernel_rfl) ?_)) <;> simp [-qt,-qd,-ql,rgs,ht,yC,yE,zP hnx]) | ((first | (with_reducible refine zA ?_ ?_)) <;> intro qb <;> (have qp:=qb;try simp only [psq] at qp) <;> simp [-qt,-qd,-ql,rgs,ht,yC,yE,zP hnx,qb])
 refine yJ (zG1 (p:=false) (t:=t ++ [x])) (.bool _) ?hb ?_
 case hb=>exact .cons (.ref0 (by simp [yC]) (by simp) (by simp)) .nil
 try simp [-qt,-qd,-ql,rgs,e,yC,yE,zP hnx]
 repeat' first | done | ((first | ((with_reducible show zU _ _ _ _ _ _);refine zB rfl fun _ => ?_) | ((with_reducible show vZ _ _ _ _ _ _ _ _);refine zQ rfl rfl (by decide) (by decide) (by first | (simp [-qt,-qd,-ql,rgs,e,yC,yE,zP hnx];done) | (simp [-qt,-qd,-ql,rgs,e,yC,yE,zP hnx];rfl)) (by first | (simp [-qt,-qd,-ql,rgs,e,yC,yE,zP hnx];done) | (simp [-qt,-qd,-ql,rgs,e,yC,yE,zP hnx];rfl)) (by first | (simp;done) | (simp;omega)) (by first | (simp only [zY,LIM] at *; simp;omega) | (simp only [zY];simp;omega)) (by simp [iv,bv]) ?_) | (with_reducible refine zF (i:=3) [(0,[],[]),(2,[],[]),(1,[.tmp 3],[3]),(3,[],[]),(4,[],[]),(5,[],[])] (by kernel_rfl) ?_)) <;> simp [-qt,-qd,-ql,rgs,e,yC,yE,zP hnx]) | ((first | (with_reducible refine zA ?_ ?_)) <;> intro qb <;> (have qp:=qb;try simp only [psq] at qp) <;> simp [-qt,-qd,-ql,rgs,e,yC,yE,zP hnx,qb])
 exact finF1 (i:=nx + 10) zK (by omega) (by simp [yC]) (by simp)
theorem f_Begun {F:Nat → Bool} {p:Bool} {t:List Nod} {s:Spr} {n:Int} (ht:vV t = true) (hs:vC s t = true):FC ctx.P 167 [.view p 5 (t.map yC),.agg (zC2 F s),.int .i64 n]
 (.tup [.agg [.ref 0 1 0 (begR s n).told.length,.ref 1 1 0 (begR s n).work.length],.bool (zF2 s n)]) [.row 1 ((begR s n).told.map bv),.row 1 ((begR s n).work.map iv)]:=by
 have hl:=zB9 ht
 have h0:=hs
 simp only [vC,Bool.and_eq_true,beq_iff_eq,decide_eq_true_eq] at h0
 obtain ⟨h1,h2,-⟩:=h0
 have h3:s.told.length ≤ 1048576:=by omega
 have h4:s.work.length ≤ 1048576:=by omega
 have e1:vY n s.told = inR n 0 ((t.length:Int) - 1):=by simp only [vY,h1]
 have ew:IntKind.i64.wrap ((t.length:Int) - 1) = (t.length:Int) - 1:=zH (by omega)
 have hok:∀ (a b:Nat) (c:Bool),OkR 2 (.tup [.agg [.ref 0 1 0 a,.ref 1 1 0 b],.bool c]):=fun a b c=>.tup _ (by simp only [List.mem_cons,List.not_mem_nil,or_false];rintro c (rfl | rfl);exact .agg _ (fun c hc=>by (simp only [List.mem_cons,List.not_mem_nil,or_false] at hc);rcases hc with rfl | rfl <;> exact .ref _ _ _ _ (by simp));exact .one _ (.fz _ (.bool _)))
 have hfe:∀ (u:Spr),∀ e ∈ [Ent.row 1 (u.told.map bv),Ent.row 1 (u.work.map iv)],FzE e:=fun u e he=>by simp at he;rcases he with rfl | rfl <;> first | exact zS zE6 _ | exact zS zK1 _
 by_cases hi:inR n 0 ((t.length:Int) - 1) = true
 ·by_cases hw:s.work.length = 240
  ·have hc:zF2 s n = false:=by simp [zF2,hw]
   have hb:begR s n = s:=by simp [begR,hc]
   rw [hc,hb]
   refine FC.o okC Tryz.func167 rfl ((hok _ _ _)) ((hfe s)) fun h nx hnx => ?_
   try simp [-qt,-qd,-ql,rgs,ht,hs,ew,hi,hw,zC2,zP hnx]
   repeat' first | done | ((first | ((with_reducible show zU _ _ _ _ _ _);refine zB rfl fun _ => ?_) | ((with_reducible show zG _ _ _ 106 _ _);refine zD (zM9 (F:=F) (t:=t) (s:=s)) ?_) | ((with_reducible show zG _ _ _ 199 _ _);refine zD (zA3) ?_) | ((with_reducible show zG _ _ _ 116 _ _);refine yD (f_l7Copy (F:=F) h3 h4) ?_) | ((with_reducible show vZ _ _ _ _ _ _ _ _);refine zQ rfl rfl (by decide) (by decide) (by first | (simp [-qt,-qd,-ql,rgs,ht,hs,ew,hi,hw,zC2,zP hnx];done) | (simp [-qt,-qd,-ql,rgs,ht,hs,ew,hi,hw,zC2,zP hnx];rfl)) (by first | (simp [-qt,-qd,-ql,rgs,ht,hs,ew,hi,hw,zC2,zP hnx];done) | (simp [-qt,-qd,-ql,rgs,ht,hs,ew,hi,hw,zC2,zP hnx];rfl)) (by first | (simp;done) | (simp;omega)) (by first | (simp only [zY,LIM] at *; simp;omega) | (simp only [zY];simp;omega)) (by simp [iv,bv]) ?_)) <;> simp [-qt,-qd,-ql,rgs,ht,hs,ew,hi,hw,zC2,zP hnx]) | ((first | (with_reducible refine zE ?_ ?_) | (with_reducible refine zA ?_ ?_)) <;> intro qb <;> (have qp:=qb;try simp only [psq] at qp) <;> simp [-qt,-qd,-ql,rgs,ht,hs,ew,hi,hw,zC2,zP hnx,qb])
   exact finF2 (i:=nx + 11) (j:=nx + 12) zK (by omega) (by omega) (by omega) (by simp) (by simp) (by simp)
  ·have hc:zF2 s n = true:=by simp [zF2,e1,hi,hw]
   have hb:begR s n = ⟨s.told,s.work ++ [n]⟩:=by simp [begR,hc]
   rw [hc,hb]
   have hw2:((s.work.length:Int) == 240) = false:=by simp;omega
   refine FC.o okC Tryz.func167 rfl ((hok _ _ _)) ((hfe ⟨s.told,s.work ++ [n]⟩)) fun h nx hnx => ?_
   try simp [-qt,-qd,-ql,rgs,ht,hs,ew,hi,hw2,zC2,iv,zP hnx]
   repeat' first | done | ((first | ((with_reducible show zU _ _ _ _ _ _);refine zB rfl fun _ => ?_) | ((with_reducible show zG _ _ _ 106 _ _);refine zD (zM9 (F:=F) (t:=t) (s:=s)) ?_) | ((with_reducible show zG _ _ _ 199 _ _);refine zD (zA3) ?_) | ((with_reducible show zG _ _ _ 116 _ _);refine yD (f_l7Copy (F:=F) h3 h4) ?_) | ((with_reducible show vZ _ _ _ _ _ _ _ _);refine zQ rfl rfl (by decide) (by decide) (by first | (simp [-qt,-qd,-ql,rgs,ht,hs,ew,hi,hw2,zC2,iv,zP hnx];done) | (simp [-qt,-qd,-ql,rgs,ht,hs,ew,hi,hw2,zC2,iv,zP hnx];rfl)) (by first | (simp [-qt,-qd,-ql,rgs,ht,hs,ew,hi,hw2,zC2,iv,zP hnx];done) | (simp [-qt,-qd,-ql,rgs,ht,hs,ew,hi,hw2,zC2,iv,zP hnx];rfl)) (by first | (simp;done) | (simp;omega)) (by first | (simp only [zY,LIM] at *; simp;omega) | (simp only [zY];simp;omega)) (by simp [iv,bv]) ?_)) <;> simp [-qt,-qd,-ql,rgs,ht,hs,ew,hi,hw2,zC2,iv,zP hnx]) | ((first | (with_reducible refine zE ?_ ?_) | (with_reducible refine zA ?_ ?_)) <;> intro qb <;> (have qp:=qb;try simp only [psq] at qp) <;> simp [-qt,-qd,-ql,rgs,ht,hs,ew,hi,hw2,zC2,iv,zP hnx,qb])
   exact finF2 (i:=nx + 11) (j:=nx + 29) zK (by omega) (by omega) (by omega) (by simp) (by simp) (by simp)
 ·have hi2:inR n 0 ((t.length:Int) - 1) = false:=by simpa using hi
  have hc:zF2 s n = false:=by simp [zF2,e1,hi2]
  have hb:begR s n = s:=by simp [begR,hc]
  rw [hc,hb]
  refine FC.o okC Tryz.func167 rfl ((hok _ _ _)) ((hfe s)) fun h nx hnx => ?_
  try simp [-qt,-qd,-ql,rgs,ht,hs,ew,hi2,zC2,zP hnx]
  repeat' first | done | ((first | ((with_reducible show zU _ _ _ _ _ _);refine zB rfl fun _ => ?_) | ((with_reducible show zG _ _ _ 106 _ _);refine zD (zM9 (F:=F) (t:=t) (s:=s)) ?_) | ((with_reducible show zG _ _ _ 199 _ _);refine zD (zA3) ?_) | ((with_reducible show zG _ _ _ 116 _ _);refine yD (f_l7Copy (F:=F) h3 h4) ?_) | ((with_reducible show vZ _ _ _ _ _ _ _ _);refine zQ rfl rfl (by decide) (by decide) (by first | (simp [-qt,-qd,-ql,rgs,ht,hs,ew,hi2,zC2,zP hnx];done) | (simp [-qt,-qd,-ql,rgs,ht,hs,ew,hi2,zC2,zP hnx];rfl)) (by first | (simp [-qt,-qd,-ql,rgs,ht,hs,ew,hi2,zC2,zP hnx];done) | (simp [-qt,-qd,-ql,rgs,ht,hs,ew,hi2,zC2,zP hnx];rfl)) (by first | (simp;done) | (simp;omega)) (by first | (simp only [zY,LIM] at *; simp;omega) | (simp only [zY];simp;omega)) (by simp [iv,bv]) ?_)) <;> simp [-qt,-qd,-ql,rgs,ht,hs,ew,hi2,zC2,zP hnx]) | ((first | (with_reducible refine zE ?_ ?_) | (with_reducible refine zA ?_ ?_)) <;> intro qb <;> (have qp:=qb;try simp only [psq] at qp) <;> simp [-qt,-qd,-ql,rgs,ht,hs,ew,hi2,zC2,zP hnx,qb])
  exact finF2 (i:=nx + 11) (j:=nx + 12) zK (by omega) (by omega) (by omega) (by simp) (by simp) (by simp)
theorem m_l14Either {F:Nat → Bool} {X:WI} {w u:Wld} (hs:zC9 w ≤ 1048576):AC ctx.P 84 [.agg (wldV F w),.agg (vN X u)] (fun h _=>WV h X u)
 (ValQ X (if vG u = true then u else w) (.bool (vG u))):=by
 refine AC.o okC Tryz.func84 rfl fun h nx hfr hnx hpre => ?_
 have hin:=hpre.lt hnx
 try simp [-qt,-qd,-ql,rgs,yO,yZ,yP,yL X u,yV,yK]
 repeat' first | done | ((first | (with_reducible refine zA ?_ ?_)) <;> intro qb <;> (have qp:=qb;try simp only [psq] at qp) <;> simp [-qt,-qd,-ql,rgs,yO,yZ,yP,yL X u,yV,yK,qb])
 refine yJ (zP9 (w:=u) (F:=FF)) (.bool _) ?hb ?_
 case hb=>exact .cons (.agg1 (hpre.keep fun id hid=>by have:=hin id hid;dsimp only;repeat rw [zI _ _ _ _ (by omega)]).bors) .nil
 by_cases hu:vG u = true
 ·simp only [hu,if_true]
  try simp [-qt,-qd,-ql,rgs,yO,yZ,yP,yL X u,yV,yK]
  repeat' first | done | ((first | (with_reducible refine zA ?_ ?_)) <;> intro qb <;> (have qp:=qb;try simp only [psq] at qp) <;> simp [-qt,-qd,-ql,rgs,yO,yZ,yP,yL X u,yV,yK,qb])
  exact ⟨⟨X,rfl,hpre.keep fun id hid=>by have:=hin id hid;repeat rw [zI _ _ _ _ (by omega)],fun id hid=>.inl hid⟩,fun j hj hjX=>by repeat rw [zI _ _ _ _ (by omega)]⟩
 ·have huf:vG u = false:=by simpa using hu
  simp only [huf,Bool.false_eq_true,if_false]
  try simp [-qt,-qd,-ql,rgs,yO,yZ,yP,yL X u,yV,yK]
  repeat' first | done | ((first | (with_reducible refine zA ?_ ?_)) <;> intro qb <;> (have qp:=qb;try simp only [psq] at qp) <;> simp [-qt,-qd,-ql,rgs,yO,yZ,yP,yL X u,yV,yK,qb])
  refine zL4 (zQ2 (F:=F) hs) ?_
  intro X2 h2 n2 V2 hid2 hle2 hf2
  dsimp only at hid2 hle2 hf2
  have z2:=hf2 (nx + 2) (fun hm=>by have:=hid2 _ hm;omega)
  simp at z2
  try simp [-qt,-qd,-ql,rgs,z2,yL X2 w,yV,yK]
  repeat' first | done | ((first | (with_reducible refine zA ?_ ?_)) <;> intro qb <;> (have qp:=qb;try simp only [psq] at qp) <;> simp [-qt,-qd,-ql,rgs,z2,yL X2 w,yV,yK,qb])
  refine ⟨⟨X2,rfl,V2.keep fun id hid=>by have:=hid2 id hid;repeat rw [zI _ _ _ _ (by omega)],fun id hid=>by have:=hid2 id hid;right;omega⟩,fun j hj hjX => ?_⟩
  repeat rw [zI _ _ _ _ (by omega)]
  rw [hf2 j (fun hm=>by have:=hid2 _ hm;omega)]
  repeat rw [zI _ _ _ _ (by omega)]
theorem m_l14Node {X:WI} {w:Wld} {x:Nod} (hw:vG w = true) (hk:x.kind = 1):AC ctx.P 83 [.agg (vN X w),.agg (yC x)] (fun h _=>WV h X w)
 (ValQ X (zP0 w x) (.int .i64 (nodeI w x))):=by
 have he:=wldOk_ev hw
 have ht:=zB2 he
 have hs:vC w.spread w.tree = true:=(zQ9 hw).2.2.2.2.1
 have hlt:=zB9 ht
 have hwk:w.spread.work.length ≤ 240:=by simp only [vC,Bool.and_eq_true,decide_eq_true_eq] at hs;exact hs.2.1
 have htl:w.spread.told.length ≤ 60:=by simp only [vC,Bool.and_eq_true,beq_iff_eq] at hs;omega
 refine AC.o okC Tryz.func83 rfl fun h nx hfr hnx hpre => ?_
 have V1:=hpre
 have hin:=V1.lt hnx
 have t1:=V1.top 1 (by omega)
 have t3:=V1.top 3 (by omega)
 simp only [zH5] at t1 t3
 have i1:∀ k,k < 15 → ∀ m,(X.top k = nx + m) = False:=fun k hk m=>by simp only [eq_iff_iff,iff_false];have:=hin _ (WI.top_mem (X:=X) hk);omega
 have i2:∀ k,k < 15 → (X.top k = nx) = False:=fun k hk=>by simp only [eq_iff_iff,iff_false];have:=hin _ (WI.top_mem (X:=X) hk);omega
 have i3:∀ k,k < 15 → ∀ m,(nx + m = X.top k) = False:=fun k hk m=>by simp only [eq_iff_iff,iff_false];have:=hin _ (WI.top_mem (X:=X) hk);omega
 have i4:∀ k,k < 15 → (nx = X.top k) = False:=fun k hk=>by simp only [eq_iff_iff,iff_false];have:=hin _ (WI.top_mem (X:=X) hk);omega
 by_cases hc:zE2 w.tree x = true
 ·have ht2:vV (w.tree ++ [x]) = true:=by rw [zK0,ht];exact hc
  have hs2:=spr_add (x:=x) hs
  try simp [-qt,-qd,-ql,rgs,vN,yC]
  repeat' first | done | ((first | ((with_reducible show vZ _ _ _ _ _ _ _ _);refine zQ rfl rfl (by decide) (by decide) (by first | (simp [-qt,-qd,-ql,rgs,vN,yC];done) | (simp [-qt,-qd,-ql,rgs,vN,yC];rfl)) (by first | (simp [-qt,-qd,-ql,rgs,vN,yC];done) | (simp [-qt,-qd,-ql,rgs,vN,yC];rfl)) (by first | (simp;done) | (simp;omega)) (by first | (simp only [zY,LIM] at *; simp;omega) | (simp only [zY];simp;omega)) (by simp [iv,bv]) ?_)) <;> simp [-qt,-qd,-ql,rgs,vN,yC]) | ((first | (with_reducible refine zE ?_ ?_) | (with_reducible refine zA ?_ ?_)) <;> intro qb <;> (have qp:=qb;try simp only [psq] at qp) <;> simp [-qt,-qd,-ql,rgs,vN,yC,qb])
  have a0:((w.tree.length:Int) < 0) = False:=by simp only [eq_iff_iff,iff_false];omega
  refine zI6 (f_Grown (p:=false) ht hc) (fun f=>by simp;exact tup2_cl (.ref _ _ _ _) (.int _ _)) (fun e he=>by rw [List.mem_singleton] at he;subst he;exact rowE_cl fun x c hc=>by simp [yC] at hc;rcases hc with rfl | rfl | rfl | rfl | rfl <;> exact .int _ _) (.cons (.ref0 (by simp [t1,i1 1 (by omega),i2 1 (by omega)]) (by simp) (by simp)) (.cons (.same _) .nil)) ?_
  have i3a:=i3 3 (by omega)
  have i3b:=i4 3 (by omega)
  have i1a:=i1 3 (by omega)
  have i1b:=i2 3 (by omega)
  try simp [-qt,-qd,-ql,rgs,a0,t3,bv,i1a,i1b,i3a,i3b,zP hnx]
  repeat' first | done | ((first | ((with_reducible show vZ _ _ _ _ _ _ _ _);refine zQ rfl rfl (by decide) (by decide) (by first | (simp [-qt,-qd,-ql,rgs,a0,t3,bv,i1a,i1b,i3a,i3b,zP hnx];done) | (simp [-qt,-qd,-ql,rgs,a0,t3,bv,i1a,i1b,i3a,i3b,zP hnx];rfl)) (by first | (simp [-qt,-qd,-ql,rgs,a0,t3,bv,i1a,i1b,i3a,i3b,zP hnx];done) | (simp [-qt,-qd,-ql,rgs,a0,t3,bv,i1a,i1b,i3a,i3b,zP hnx];rfl)) (by first | (simp;done) | (simp;omega)) (by first | (simp only [zY,LIM] at *; simp;omega) | (simp only [zY];simp;omega)) (by simp [iv,bv]) ?_)) <;> simp [-qt,-qd,-ql,rgs,a0,t3,bv,i1a,i1b,i3a,i3b,zP hnx]) | ((first | (with_reducible refine zE ?_ ?_) | (with_reducible refine zA ?_ ?_)) <;> intro qb <;> (have qp:=qb;try simp only [psq] at qp) <;> simp [-qt,-qd,-ql,rgs,a0,t3,bv,i1a,i1b,i3a,i3b,zP hnx,qb])
  generalize hH:upd (upd (upd (upd _ (nx + 22) _) (X.top 3) none) (nx + 23) _) nx _ = H
  obtain ⟨X1,hX1⟩:∃ X1,X1 = (X.setTop 1 (nx + 13)).setTop 3 (nx + 23):=⟨_,rfl⟩
  have o1:H nx = some (.obj (vN X1 (uS w x))):=by rw [← hH,zL,hX1];simp [vN,WI.setTop,uS,mkW]
  have V2:WV H X1 (uS w x):=by
   rw [hX1]
   refine V1.lay2 (by omega) (by omega) (by omega) (fun hm=>by have:=hin _ hm;omega) (fun hm=>by have:=hin _ hm;omega) (by omega) ?_ ?_ (fun k hk h6 h5 => ?_) rfl rfl (fun j hj h6 h5 => ?_)
   ·rw [← hH];simp [zH5,uS,mkW,yC,i3 3 (by omega)]
   ·rw [← hH];simp [zH5,uS,mkW,bv]
   ·rcases lt15 hk with rfl | rfl | rfl | rfl | rfl | rfl | rfl | rfl | rfl | rfl | rfl | rfl | rfl | rfl | rfl <;> first | rfl | exact absurd rfl h6 | exact absurd rfl h5
   ·have:=hin j hj
    rw [← hH]
    repeat rw [zI _ _ _ _ (by first | exact h5 | omega)]
  have z1:H (nx + 1) = some (.obj (yC x)):=by rw [← hH];simp [yC,i3a]
  have z2:H (nx + 2) = some (.obj zC4):=by rw [← hH];simp [zC4,i3a]
  have KH:∀ j,j < nx → j ∉ X.ids → H j = h j:=fun j hj hjX=>by
   have h3:j ≠ X.top 3:=fun e=>hjX (e ▸ WI.top_mem (by omega))
   rw [← hH]
   repeat rw [zI _ _ _ _ (by first | exact h3 | omega)]
  have hid1:∀ j ∈ X1.ids,j ∈ X.ids ∨ nx + 13 ≤ j ∧ j < nx + 24:=fun j hj=>by
   rw [hX1] at hj
   rcases WI.setTop_ids hj with q | q
   ·rcases WI.setTop_ids q with q | q
    ·exact .inl q
    ·right;omega
   ·right;omega
  have hin1:∀ j ∈ X1.ids,j < nx ∨ nx + 13 ≤ j ∧ j < nx + 24:=fun j hj=>by rcases hid1 j hj with r | r;(exact .inl (hin j r));exact .inr r
  clear hH
  have u1:=V2.top 1 (by omega)
  have u2:=V2.top 2 (by omega)
  have u3:=V2.top 3 (by omega)
  have u4:=V2.top 4 (by omega)
  have e1:X1.top 1 = nx + 13:=by rw [hX1];rfl
  have e2:X1.top 2 = X.top 2:=by rw [hX1];rfl
  have e3:X1.top 3 = nx + 23:=by rw [hX1];rfl
  have e4:X1.top 4 = X.top 4:=by rw [hX1];rfl
  simp only [zH5] at u1 u2 u3 u4
  have o2:=o1
  simp only [vN] at o2
  refine yJ (s_l6First (p:=false) (q:=false) (t:=w.tree ++ [x]) (l:=w.events) (n:=w.tree.length) ht2 (by omega) (by simp;omega)) (.int _ _) ?hb ?_
  case hb=>exact .cons (.ref0 (by rw [e1] at u1;exact u1) (by simp) (by simp)) (.cons (.ref0 (by rw [e2] at u2;exact u2) (by simp) (by simp)) (.cons (.same _) .nil))
  have hfi:=firstOf_idx (t:=w.tree ++ [x]) (l:=w.events) (n:=w.tree.length)
  have hnW:zP0 w x = nodWS (uS w x) x w.tree.length:=by simp [zP0,hc]
  have hnB:∀ c,nodBS (uS w x) x w.tree.length = c → nodeB w x = c:=fun c h=>by simp [nodeB,hc,h]
  generalize yW (fun e=>(zI2 (w.tree ++ [x]) w.tree.length).contains e.node) w.events 0 = z at *
  by_cases hz:0 ≤ z
  ·have hz2:(z < 0) = False:=by simp only [eq_iff_iff,iff_false];omega
   have hsome:(uN (uS w x).tree (uS w x).events w.tree.length).isSome = true:=by
    show (uN (w.tree ++ [x]) w.events w.tree.length).isSome = true
    rw [hfi];simp [hz2]
   have hB:nodBS (uS w x) x w.tree.length = zF5 (uS w x) w.tree.length:=by unfold nodBS;rw [if_pos hsome]
   have hW:nodWS (uS w x) x w.tree.length = begW (uS w x) w.tree.length:=by unfold nodWS;rw [if_pos hsome]
   rw [hnW,hW]
   unfold nodeI
   rw [hnB _ hB]
   rw [begW_eq]
   try simp [-qt,-qd,-ql,rgs,hz,o2,z1,z2]
   repeat' first | done | ((first | ((with_reducible show vZ _ _ _ _ _ _ _ _);refine zQ rfl rfl (by decide) (by decide) (by first | (simp [-qt,-qd,-ql,rgs,hz,o2,z1,z2];done) | (simp [-qt,-qd,-ql,rgs,hz,o2,z1,z2];rfl)) (by first | (simp [-qt,-qd,-ql,rgs,hz,o2,z1,z2];done) | (simp [-qt,-qd,-ql,rgs,hz,o2,z1,z2];rfl)) (by first | (simp;done) | (simp;omega)) (by first | (simp only [zY,LIM] at *; simp;omega) | (simp only [zY];simp;omega)) (by simp [iv,bv]) ?_)) <;> simp [-qt,-qd,-ql,rgs,hz,o2,z1,z2]) | ((first | (with_reducible refine zE ?_ ?_) | (with_reducible refine zA ?_ ?_)) <;> intro qb <;> (have qp:=qb;try simp only [psq] at qp) <;> simp [-qt,-qd,-ql,rgs,hz,o2,z1,z2,qb])
   refine zI6 (f_Begun (F:=FF) (p:=false) (t:=w.tree ++ [x]) (s:=(uS w x).spread) (n:=w.tree.length) ht2 hs2) (fun f=>by simpa using rr_cl (f 0) (f 1) _ _ _) (spr_entcl _) (.cons (.ref0 (by rw [e1] at u1;exact u1) (by simp) (by simp)) (.cons (.agg1 (.cons (.ref0 u3 (by simp) (by simp)) (.cons (.ref0 u4 (by simp) (by simp)) .nil))) (.cons (.same _) .nil))) ?_
   have hcb:zF5 (uS w x) w.tree.length = zF2 (uS w x).spread w.tree.length:=rfl
   rw [hcb]
   generalize begR (uS w x).spread w.tree.length = B at *
   generalize zF2 (uS w x).spread w.tree.length = cb at *
   cases cb with
   | true =>
      rw [if_pos rfl]
      try simp [-qt,-qd,-ql,rgs,o2,z1,z2,zC4,bv,iv]
      repeat' first | done | ((first | ((with_reducible show vZ _ _ _ _ _ _ _ _);refine zQ rfl rfl (by decide) (by decide) (by first | (simp [-qt,-qd,-ql,rgs,o2,z1,z2,zC4,bv,iv];done) | (simp [-qt,-qd,-ql,rgs,o2,z1,z2,zC4,bv,iv];rfl)) (by first | (simp [-qt,-qd,-ql,rgs,o2,z1,z2,zC4,bv,iv];done) | (simp [-qt,-qd,-ql,rgs,o2,z1,z2,zC4,bv,iv];rfl)) (by first | (simp;done) | (simp;omega)) (by first | (simp only [zY,LIM] at *; simp;omega) | (simp only [zY];simp;omega)) (by simp [iv,bv]) ?_)) <;> simp [-qt,-qd,-ql,rgs,o2,z1,z2,zC4,bv,iv]) | ((first | (with_reducible refine zE ?_ ?_) | (with_reducible refine zA ?_ ?_)) <;> intro qb <;> (have qp:=qb;try simp only [psq] at qp) <;> simp [-qt,-qd,-ql,rgs,o2,z1,z2,zC4,bv,iv,qb])
      refine ⟨⟨(X1.setTop 3 (nx + 45)).setTop 4 (nx + 46),by simp [vN,WI.setTop,sprW,mkW],V2.lay2 (by omega) (by omega) (by omega) (fun hm=>by rcases hin1 _ hm with r | r <;> omega) (fun hm=>by rcases hin1 _ hm with r | r <;> omega) (by omega) ?_ ?_ (fun k hk h6 h5 => ?_) rfl rfl (fun j hj h6 h5 => ?_),fun id hm => ?_⟩,fun j hj hjX => ?_⟩
      ·repeat (first | exact zL .. | rw [zI _ _ _ _ (by omega)])
      ·repeat (first | exact zL .. | rw [zI _ _ _ _ (by omega)])
      ·rcases lt15 hk with rfl | rfl | rfl | rfl | rfl | rfl | rfl | rfl | rfl | rfl | rfl | rfl | rfl | rfl | rfl <;> first | rfl | exact absurd rfl h6 | exact absurd rfl h5
      ·have:=hin1 j hj
       have hjn:j ≠ nx:=fun e=>by rw [e] at hj;exact V2.obj o1 hj
       repeat rw [zI _ _ _ _ (by first | exact hjn | omega)]
      ·rcases WI.setTop_ids hm with q | q
       ·rcases WI.setTop_ids q with q | q
        ·rcases hid1 _ q with r | r
         ·exact .inl r
         ·right;omega
        ·right;omega
       ·right;omega
      ·repeat rw [zI _ _ _ _ (by omega)]
       exact KH j hj hjX
   | false =>
      rw [if_neg (by decide)]
      try simp [-qt,-qd,-ql,rgs,o2,z1,z2,zC4,bv,iv]
      repeat' first | done | ((first | ((with_reducible show vZ _ _ _ _ _ _ _ _);refine zQ rfl rfl (by decide) (by decide) (by first | (simp [-qt,-qd,-ql,rgs,o2,z1,z2,zC4,bv,iv];done) | (simp [-qt,-qd,-ql,rgs,o2,z1,z2,zC4,bv,iv];rfl)) (by first | (simp [-qt,-qd,-ql,rgs,o2,z1,z2,zC4,bv,iv];done) | (simp [-qt,-qd,-ql,rgs,o2,z1,z2,zC4,bv,iv];rfl)) (by first | (simp;done) | (simp;omega)) (by first | (simp only [zY,LIM] at *; simp;omega) | (simp only [zY];simp;omega)) (by simp [iv,bv]) ?_)) <;> simp [-qt,-qd,-ql,rgs,o2,z1,z2,zC4,bv,iv]) | ((first | (with_reducible refine zE ?_ ?_) | (with_reducible refine zA ?_ ?_)) <;> intro qb <;> (have qp:=qb;try simp only [psq] at qp) <;> simp [-qt,-qd,-ql,rgs,o2,z1,z2,zC4,bv,iv,qb])
      refine ⟨⟨(X1.setTop 3 (nx + 45)).setTop 4 (nx + 46),by simp [vN,WI.setTop,sprW,mkW],V2.lay2 (by omega) (by omega) (by omega) (fun hm=>by rcases hin1 _ hm with r | r <;> omega) (fun hm=>by rcases hin1 _ hm with r | r <;> omega) (by omega) ?_ ?_ (fun k hk h6 h5 => ?_) rfl rfl (fun j hj h6 h5 => ?_),fun id hm => ?_⟩,fun j hj hjX => ?_⟩
      ·repeat (first | exact zL .. | rw [zI _ _ _ _ (by omega)])
      ·repeat (first | exact zL .. | rw [zI _ _ _ _ (by omega)])
      ·rcases lt15 hk with rfl | rfl | rfl | rfl | rfl | rfl | rfl | rfl | rfl | rfl | rfl | rfl | rfl | rfl | rfl <;> first | rfl | exact absurd rfl h6 | exact absurd rfl h5
      ·have:=hin1 j hj
       have hjn:j ≠ nx:=fun e=>by rw [e] at hj;exact V2.obj o1 hj
       repeat rw [zI _ _ _ _ (by first | exact hjn | omega)]
      ·rcases WI.setTop_ids hm with q | q
       ·rcases WI.setTop_ids q with q | q
        ·rcases hid1 _ q with r | r
         ·exact .inl r
         ·right;omega
        ·right;omega
       ·right;omega
      ·repeat rw [zI _ _ _ _ (by omega)]
       exact KH j hj hjX
  ·have hzf:(0 ≤ z) = False:=by simp only [eq_iff_iff,iff_false];exact hz
   have hz2:z < 0:=by omega
   have hsome:¬ (uN (uS w x).tree (uS w x).events w.tree.length).isSome = true:=by
    show ¬ (uN (w.tree ++ [x]) w.events w.tree.length).isSome = true
    rw [hfi];simp [hz2]
   have hkb:(x.kind == 2) = false:=by rw [hk];rfl
   have hB:nodBS (uS w x) x w.tree.length = true:=by unfold nodBS;rw [if_neg hsome,if_pos (.inl (by rw [hk];decide))]
   have hW:nodWS (uS w x) x w.tree.length = uS w x:=by unfold nodWS;rw [if_neg hsome,if_pos (.inl (by rw [hk];decide))]
   rw [hnW,hW]
   unfold nodeI
   rw [hnB _ hB,if_pos rfl]
   try simp [-qt,-qd,-ql,rgs,hzf,hkb,o2,z1,z2,yC,zC4]
   repeat' first | done | ((first | ((with_reducible show vZ _ _ _ _ _ _ _ _);refine zQ rfl rfl (by decide) (by decide) (by first | (simp [-qt,-qd,-ql,rgs,hzf,hkb,o2,z1,z2,yC,zC4];done) | (simp [-qt,-qd,-ql,rgs,hzf,hkb,o2,z1,z2,yC,zC4];rfl)) (by first | (simp [-qt,-qd,-ql,rgs,hzf,hkb,o2,z1,z2,yC,zC4];done) | (simp [-qt,-qd,-ql,rgs,hzf,hkb,o2,z1,z2,yC,zC4];rfl)) (by first | (simp;done) | (simp;omega)) (by first | (simp only [zY,LIM] at *; simp;omega) | (simp only [zY];simp;omega)) (by simp [iv,bv]) ?_)) <;> simp [-qt,-qd,-ql,rgs,hzf,hkb,o2,z1,z2,yC,zC4]) | ((first | (with_reducible refine zE ?_ ?_) | (with_reducible refine zA ?_ ?_)) <;> intro qb <;> (have qp:=qb;try simp only [psq] at qp) <;> simp [-qt,-qd,-ql,rgs,hzf,hkb,o2,z1,z2,yC,zC4,qb])
   refine ⟨⟨X1,by simp [vN],V2.keep fun id hm=>by have:=hin1 id hm;rw [zI _ _ _ _ (by omega)],fun id hm=>by rcases hid1 id hm with r | r <;> first | exact .inl r | (right;omega)⟩,fun j hj hjX => ?_⟩
   rw [zI _ _ _ _ (by omega)]
   exact KH j hj hjX
 ·have hn:nodeB w x = false:=by simp [nodeB,hc]
  have e1:zP0 w x = w:=by simp [zP0,hc]
  have e2:nodeI w x = -1:=by simp [nodeI,hn]
  have hg:=s_Grown (p:=false) (t:=w.tree) (x:=x) ht
  simp only [if_neg hc] at hg
  rw [e1,e2]
  try simp [-qt,-qd,-ql,rgs,vN,yC]
  repeat' first | done | ((first | ((with_reducible show vZ _ _ _ _ _ _ _ _);refine zQ rfl rfl (by decide) (by decide) (by first | (simp [-qt,-qd,-ql,rgs,vN,yC];done) | (simp [-qt,-qd,-ql,rgs,vN,yC];rfl)) (by first | (simp [-qt,-qd,-ql,rgs,vN,yC];done) | (simp [-qt,-qd,-ql,rgs,vN,yC];rfl)) (by first | (simp;done) | (simp;omega)) (by first | (simp only [zY,LIM] at *; simp;omega) | (simp only [zY];simp;omega)) (by simp [iv,bv]) ?_)) <;> simp [-qt,-qd,-ql,rgs,vN,yC]) | ((first | (with_reducible refine zE ?_ ?_) | (with_reducible refine zA ?_ ?_)) <;> intro qb <;> (have qp:=qb;try simp only [psq] at qp) <;> simp [-qt,-qd,-ql,rgs,vN,yC,qb])
  refine yJ hg (tup2_cl (cl_vmap fun x c hc=>by simp [yC] at hc;rcases hc with rfl | rfl | rfl | rfl | rfl <;> exact .int _ _) (.int _ _)) ?hb ?_
  case hb=>exact .cons (.ref0 (by simp [t1,i1 1 (by omega),i2 1 (by omega)]) (by simp) (by simp)) (.cons (.same _) .nil)
  try simp [-qt,-qd,-ql,rgs,zP hnx]
  repeat' first | done | ((first | ((with_reducible show vZ _ _ _ _ _ _ _ _);refine zQ rfl rfl (by decide) (by decide) (by first | (simp [-qt,-qd,-ql,rgs,zP hnx];done) | (simp [-qt,-qd,-ql,rgs,zP hnx];rfl)) (by first | (simp [-qt,-qd,-ql,rgs,zP hnx];done) | (simp [-qt,-qd,-ql,rgs,zP hnx];rfl)) (by first | (simp;done) | (simp;omega)) (by first | (simp only [zY,LIM] at *; simp;omega) | (simp only [zY];simp;omega)) (by simp [iv,bv]) ?_)) <;> simp [-qt,-qd,-ql,rgs,zP hnx]) | ((first | (with_reducible refine zE ?_ ?_) | (with_reducible refine zA ?_ ?_)) <;> intro qb <;> (have qp:=qb;try simp only [psq] at qp) <;> simp [-qt,-qd,-ql,rgs,zP hnx,qb])
  refine ⟨⟨X,by simp [vN],V1.keep fun id hid=>by have:=hin id hid;repeat rw [zI _ _ _ _ (by omega)],fun id hid=>.inl hid⟩,fun j hj hjX => ?_⟩
  repeat rw [zI _ _ _ _ (by omega)]
end Go.AE.Tryz
end
section
/- Contracts of the reference's request to create a group: the request itself. -/
set_option maxRecDepth 8000
set_option maxHeartbeats 4000000
namespace Go.AE.Tryz
open Go.Proofs
open List renaming map_take → qt,map_drop → qd,map_tail → ql
theorem call_acE {C:Ctx} {n d g args args'} {Pre:zZ → Nat → Prop} {Q:zZ → Nat → AV → zZ → Nat → Prop} {st:St} (hc:AC C.P g args' Pre Q) (he:args = args') (hp:Pre st.h st.nx)
 (hr:∀ r h' n',Q st.h st.nx r h' n' → st.nx ≤ n' → Fr n' h' → uU C n (({ st with h:=h',nx:=n' }:St).put d r)):zG C n d g args st:=by
 subst he
 exact yX hc hp hr
theorem zA5 (X:WI) (w:Wld):(vN X w).drop 17 = []:=rfl
theorem w_NodeG {F:Nat → Bool} {w:Wld} {up:Int} (hw:vG w = true) (hs:zC9 w ≤ 1048576):AC ctx.P 15 [.agg (wldV F w),.int .i64 1,.int .i64 up,.int .i64 0,.int .i64 0] (fun _ _=>True)
 (MkQ (fun X=>.tup [.agg (vN X (zG7 w 1 up 0 0)),.int .i64 (zG5 w 1 up 0 0)]) (zG7 w 1 up 0 0)):=by
 have g1:zG7 w 1 up 0 0 = if (nodeB w ⟨1,up,vX,0,0⟩ && vG (zP0 w ⟨1,up,vX,0,0⟩)) = true then zP0 w ⟨1,up,vX,0,0⟩ else w:=by simp [zG7,hw,zI1,vF]
 have g2:zG5 w 1 up 0 0 = if (nodeB w ⟨1,up,vX,0,0⟩ && vG (zP0 w ⟨1,up,vX,0,0⟩)) = true then (w.tree.length:Int) else -1:=by simp [zG5,hw,zI1,vF]
 rw [g1,g2]
 have hI:nodeI w ⟨1,up,vX,0,0⟩ = if nodeB w ⟨1,up,vX,0,0⟩ = true then (w.tree.length:Int) else -1:=rfl
 have hL:=fun X=>m_l14Node (X:=X) (w:=w) (x:=⟨1,up,vX,0,0⟩) hw rfl
 have hlt:=zB9 (zB2 (wldOk_ev hw))
 simp only [hI] at hL
 clear g1 g2 hI
 generalize zP0 w ⟨1,up,vX,0,0⟩ = W at *
 generalize nodeB w ⟨1,up,vX,0,0⟩ = cb at *
 refine AC.o okC Tryz.func15 rfl fun h nx hfr hnx hpre => ?_
 try simp [-qt,-qd,-ql,rgs,hw,yO,yZ,yP,zP hnx]
 repeat' first | done | ((first | ((with_reducible show zG _ _ _ 33 _ _);refine zD (zP9 (w:=w) (F:=F)) ?_) | (with_reducible refine zF (i:=15) [(0,[],[7]),(2,[],[7]),(1,[.tmp 12],[7]),(3,[],[7]),(4,[],[]),(5,[],[]),(6,[],[]),(7,[],[]),(8,[],[]),(9,[],[])] (by kernel_rfl) ?_)) <;> simp [-qt,-qd,-ql,rgs,hw,yO,yZ,yP,zP hnx]) | ((first | (with_reducible refine zE ?_ ?_) | (with_reducible refine zA ?_ ?_)) <;> intro qb <;> (have qp:=qb;try simp only [psq] at qp) <;> simp [-qt,-qd,-ql,rgs,hw,yO,yZ,yP,zP hnx,qb])
 refine zL4 (zQ2 (F:=F) hs) ?_
 intro X h1 n1 V1 hid1 hle1 hf1
 dsimp only at hid1 hle1 hf1
 have nX:∀ j,j < nx + 41 → j ∉ X.ids:=fun j hj hm=>by have:=hid1 j hm;omega
 have K1:∀ j,j < nx → h1 j = h j:=fun j hj=>by rw [hf1 j (nX j (by omega))];repeat rw [zI _ _ _ _ (by omega)]
 have y0:=hf1 nx (nX _ (by omega))
 have y1:=hf1 (nx + 1) (nX _ (by omega))
 have y9:=hf1 (nx + 9) (nX _ (by omega))
 simp at y0 y1 y9
 try simp [-qt,-qd,-ql,rgs,y9,yL X w,yV,yK]
 repeat' first | done | ((first | (with_reducible refine zF (i:=15) [(0,[],[7]),(2,[],[7]),(1,[.tmp 12],[7]),(3,[],[7]),(4,[],[]),(5,[],[]),(6,[],[]),(7,[],[]),(8,[],[]),(9,[],[])] (by kernel_rfl) ?_)) <;> simp [-qt,-qd,-ql,rgs,y9,yL X w,yV,yK]) | ((first | (with_reducible refine zE ?_ ?_) | (with_reducible refine zA ?_ ?_)) <;> intro qb <;> (have qp:=qb;try simp only [psq] at qp) <;> simp [-qt,-qd,-ql,rgs,y9,yL X w,yV,yK,qb])
 refine ⟨by rw [hf1 _ (fun hm=>by have:=hid1 _ hm;omega)];simp [zP hnx],?_⟩
 refine yX (hL X) V1 ?_
 rintro r h2 n2 ⟨⟨X2,rfl,V2,hid2⟩,hf2⟩ hle2 hfr2
 dsimp only at hid2 hf2 hle2
 have J:∀ j,j < nx + 41 → h2 j = h1 j:=fun j hj=>hf2 j (by omega) (nX j hj)
 have z0:=(J nx (by omega)).trans y0
 have z1:=(J (nx + 1) (by omega)).trans y1
 have KK:∀ j,j < nx → h2 j = h j:=fun j hj=>(J j (by omega)).trans (K1 j hj)
 have lo2:∀ j ∈ X2.ids,nx + 41 ≤ j ∧ j < n2:=fun j hj=>by rcases hid2 j hj with r | r;(have:=hid1 j r;omega);omega
 clear J K1 hf1 hf2
 cases cb with
 | true =>
   have hn0:((w.tree.length:Int) < 0) = False:=by simp only [eq_iff_iff,iff_false];omega
   simp only [Bool.true_and,if_true]
   try simp [-qt,-qd,-ql,rgs,z0,z1,hn0,yL X2 W,yV,yK]
   repeat' first | done | ((first | (with_reducible refine zF (i:=15) [(0,[],[7]),(2,[],[7]),(1,[.tmp 12],[7]),(3,[],[7]),(4,[],[]),(5,[],[]),(6,[],[]),(7,[],[]),(8,[],[]),(9,[],[])] (by kernel_rfl) ?_)) <;> simp [-qt,-qd,-ql,rgs,z0,z1,hn0,yL X2 W,yV,yK]) | ((first | (with_reducible refine zE ?_ ?_) | (with_reducible refine zA ?_ ?_)) <;> intro qb <;> (have qp:=qb;try simp only [psq] at qp) <;> simp [-qt,-qd,-ql,rgs,z0,z1,hn0,yL X2 W,yV,yK,qb])
   refine yX (m_l14Either (F:=F) (X:=X2) (w:=w) (u:=W) hs) (V2.keep fun id hid=>by have:=lo2 id hid;dsimp only;repeat rw [zI _ _ _ _ (by omega)]) ?_
   rintro r h3 n3 ⟨⟨X3,rfl,V3,hid3⟩,hf3⟩ hle3 hfr3
   dsimp only at hid3 hf3 hle3
   have J3:∀ j,j < nx + 38 → h3 j = h2 j:=fun j hj=>by rw [hf3 j (by omega) (fun hm=>by have:=lo2 j hm;omega)];repeat rw [zI _ _ _ _ (by omega)]
   have t1:=(J3 (nx + 1) (by omega)).trans z1
   have lo3:∀ j ∈ X3.ids,nx + 41 ≤ j ∧ j < n3:=fun j hj=>by rcases hid3 j hj with r | r;(have:=lo2 j r;omega);omega
   have t38:=hf3 (nx + 38) (by omega) (fun hm=>by have:=lo2 _ hm;omega)
   simp at t38
   by_cases hW:vG W = true
   ·simp only [hW,if_true] at V3 ⊢
    try simp [-qt,-qd,-ql,rgs,t1,t38,yL X3 W,yV,yK,zA5]
    repeat' first | done | ((first | (with_reducible refine zF (i:=15) [(0,[],[7]),(2,[],[7]),(1,[.tmp 12],[7]),(3,[],[7]),(4,[],[]),(5,[],[]),(6,[],[]),(7,[],[]),(8,[],[]),(9,[],[])] (by kernel_rfl) ?_)) <;> simp [-qt,-qd,-ql,rgs,t1,t38,yL X3 W,yV,yK,zA5]) | ((first | (with_reducible refine zE ?_ ?_) | (with_reducible refine zA ?_ ?_)) <;> intro qb <;> (have qp:=qb;try simp only [psq] at qp) <;> simp [-qt,-qd,-ql,rgs,t1,t38,yL X3 W,yV,yK,zA5,qb])
    refine ⟨fun j hj => ?_,X3,rfl,V3.keep fun id hid => ?_,fun id hid => ?_⟩
    ·repeat rw [zI _ _ _ _ (by omega)]
     rw [J3 j (by omega),KK j hj]
    ·have:=lo3 id hid
     repeat rw [zI _ _ _ _ (by omega)]
    ·have:=lo3 id hid
     omega
   ·have hW2:vG W = false:=by simpa using hW
    simp only [hW2,Bool.false_eq_true,if_false] at V3 ⊢
    try simp [-qt,-qd,-ql,rgs,t1,t38,yL X3 w,yV,yK,zA5]
    repeat' first | done | ((first | (with_reducible refine zF (i:=15) [(0,[],[7]),(2,[],[7]),(1,[.tmp 12],[7]),(3,[],[7]),(4,[],[]),(5,[],[]),(6,[],[]),(7,[],[]),(8,[],[]),(9,[],[])] (by kernel_rfl) ?_)) <;> simp [-qt,-qd,-ql,rgs,t1,t38,yL X3 w,yV,yK,zA5]) | ((first | (with_reducible refine zE ?_ ?_) | (with_reducible refine zA ?_ ?_)) <;> intro qb <;> (have qp:=qb;try simp only [psq] at qp) <;> simp [-qt,-qd,-ql,rgs,t1,t38,yL X3 w,yV,yK,zA5,qb])
    refine ⟨fun j hj => ?_,X3,rfl,V3.keep fun id hid => ?_,fun id hid => ?_⟩
    ·repeat rw [zI _ _ _ _ (by omega)]
     rw [J3 j (by omega),KK j hj]
    ·have:=lo3 id hid
     repeat rw [zI _ _ _ _ (by omega)]
    ·have:=lo3 id hid
     omega
 | false =>
   simp only [Bool.false_and,Bool.false_eq_true,if_false]
   try simp [-qt,-qd,-ql,rgs,z0,z1,yL X2 W,yV,yK]
   repeat' first | done | ((first | (with_reducible refine zF (i:=15) [(0,[],[7]),(2,[],[7]),(1,[.tmp 12],[7]),(3,[],[7]),(4,[],[]),(5,[],[]),(6,[],[]),(7,[],[]),(8,[],[]),(9,[],[])] (by kernel_rfl) ?_)) <;> simp [-qt,-qd,-ql,rgs,z0,z1,yL X2 W,yV,yK]) | ((first | (with_reducible refine zE ?_ ?_) | (with_reducible refine zA ?_ ?_)) <;> intro qb <;> (have qp:=qb;try simp only [psq] at qp) <;> simp [-qt,-qd,-ql,rgs,z0,z1,yL X2 W,yV,yK,qb])
   refine zL4 (zQ2 (F:=F) hs) ?_
   intro X3 h3 n3 V3 hid3 hle3 hf3
   dsimp only at hid3 hle3 hf3
   have t1:=hf3 (nx + 1) (fun hm=>by have:=hid3 _ hm;omega)
   simp [z1] at t1
   try simp [-qt,-qd,-ql,rgs,t1,yL X3 w,yV,yK]
   repeat' first | done | ((first | (with_reducible refine zF (i:=15) [(0,[],[7]),(2,[],[7]),(1,[.tmp 12],[7]),(3,[],[7]),(4,[],[]),(5,[],[]),(6,[],[]),(7,[],[]),(8,[],[]),(9,[],[])] (by kernel_rfl) ?_)) <;> simp [-qt,-qd,-ql,rgs,t1,yL X3 w,yV,yK]) | ((first | (with_reducible refine zE ?_ ?_) | (with_reducible refine zA ?_ ?_)) <;> intro qb <;> (have qp:=qb;try simp only [psq] at qp) <;> simp [-qt,-qd,-ql,rgs,t1,yL X3 w,yV,yK,qb])
   refine ⟨fun j hj => ?_,X3,rfl,V3.keep fun id hid => ?_,fun id hid => ?_⟩
   ·repeat rw [zI _ _ _ _ (by omega)]
    rw [hf3 j (fun hm=>by have:=hid3 _ hm;omega)]
    repeat rw [zI _ _ _ _ (by omega)]
    exact KK j hj
   ·have:=hid3 id hid
    repeat rw [zI _ _ _ _ (by omega)]
   ·have:=hid3 id hid
    omega
theorem w_GroupS {F:Nat → Bool} {w:Wld} {up limit:Int} (hs:zC9 w ≤ 1048576):AC ctx.P 17 [.agg (wldV F w),.int .i64 up,.int .i64 limit] (fun _ _=>True)
 (MkQ (fun X=>.tup [.agg (vN X (zB5 w up limit)),.int .i64 (zE9 w up limit)]) (zB5 w up limit)):=by
 by_cases hw:vG w = true
 ·obtain ⟨e1,e2⟩:=group_ask (up:=up) (limit:=limit) hw
  rw [e1,e2]
  have hvg:(zG7 w 1 up 0 0).groups = w.groups:=by
   rw [← (grow_ask (w:=w) (kind:=1) (up:=up) (a:=0) (b:=0)).1]
   unfold askW
   rw [if_pos hw]
   split
   ·exact (zN2 w 1 up 0 0).2.1
   ·rfl
  have hN:=w_NodeG (F:=F) (up:=up) hw hs
  have hgl:w.groups.length ≤ 8:=by have h':=hw;simp only [vG,Bool.and_eq_true,decide_eq_true_eq] at h';exact h'.2.2.2.2.2.2.2.2.2.2.2.2.1
  clear e1 e2
  generalize zG7 w 1 up 0 0 = v at *
  generalize zG5 w 1 up 0 0 = n at *
  generalize hcb:(decide (0 ≤ n) && vG (addG v (zK4 n limit))) = cb
  generalize hV:addG v (zK4 n limit) = V at *
  refine AC.o okC Tryz.func17 rfl fun h nx hfr hnx hpre => ?_
  try simp [-qt,-qd,-ql,rgs,hw,yO,yZ,yP,zP hnx]
  repeat' first | done | ((first | ((with_reducible show zU _ _ _ _ _ _);refine zB rfl fun _ => ?_) | ((with_reducible show zG _ _ _ 33 _ _);refine zD (zP9 (w:=w) (F:=F)) ?_) | ((with_reducible show vZ _ _ _ _ _ _ _ _);refine zQ rfl rfl (by decide) (by decide) (by first | (simp [-qt,-qd,-ql,rgs,hw,yO,yZ,yP,zP hnx];done) | (simp [-qt,-qd,-ql,rgs,hw,yO,yZ,yP,zP hnx];rfl)) (by first | (simp [-qt,-qd,-ql,rgs,hw,yO,yZ,yP,zP hnx];done) | (simp [-qt,-qd,-ql,rgs,hw,yO,yZ,yP,zP hnx];rfl)) (by first | (simp;done) | (simp;omega)) (by first | (simp only [zY,LIM] at *; simp;omega) | (simp only [zY];simp;omega)) (by simp [iv,bv]) ?_) | (with_reducible refine zF (i:=10) [(0,[],[]),(1,[],[]),(2,[],[]),(3,[],[]),(4,[.tmp 43],[]),(5,[],[])] (by kernel_rfl) ?_)) <;> simp [-qt,-qd,-ql,rgs,hw,yO,yZ,yP,zP hnx]) | ((first | (with_reducible refine zA ?_ ?_)) <;> intro qb <;> (have qp:=qb;try simp only [psq] at qp) <;> simp [-qt,-qd,-ql,rgs,hw,yO,yZ,yP,zP hnx,qb])
  refine yX hN trivial ?_
  rintro r h1 n1 ⟨K1,X,rfl,V1,hid1⟩ hle1 hfr1
  dsimp only at hid1 K1 hle1
  have y0:=K1 nx (by omega)
  have y1:=K1 (nx + 1) (by omega)
  simp at y0 y1
  by_cases hn:0 ≤ n
  ·have hn0:(n < 0) = False:=by simp only [eq_iff_iff,iff_false];omega
   rw [decide_eq_true hn,Bool.true_and] at hcb
   have t11:=V1.top 11 (by omega)
   simp only [zH5] at t11
   have m11:=hid1 _ (WI.top_mem (X:=X) (k:=11) (by omega))
   have k2:∀ k,k < 15 → (X.top 11 = nx + k) = False:=fun k hk=>by simp only [eq_iff_iff,iff_false];omega
   have k3:∀ k,(X.top 11 = n1 + k) = False:=fun k=>by simp only [eq_iff_iff,iff_false];omega
   have k4:=k2 12 (by omega)
   have ja:∀ a k,a < 15 → (nx + a = n1 + k) = False:=fun a k ha=>by simp only [eq_iff_iff,iff_false];omega
   have jb:∀ a,a < 15 → (nx + a = n1) = False:=fun a ha=>by simp only [eq_iff_iff,iff_false];omega
   have j4:=jb 4 (by omega)
   have j5:=jb 5 (by omega)
   have j6:=jb 6 (by omega)
   have j0:∀ k,(nx = n1 + k) = False:=fun k=>by simp only [eq_iff_iff,iff_false];omega
   have j1:∀ k,(nx + 1 = n1 + k) = False:=fun k=>by simp only [eq_iff_iff,iff_false];omega
   have k5:∀ k,k < 15 → (nx + k = X.top 11) = False:=fun k hk=>by simp only [eq_iff_iff,iff_false];omega
   have k6:=k5 12 (by omega)
   have k7:=k5 1 (by omega)
   have k8:(nx = X.top 11) = False:=k5 0 (by omega)
   have hvl:v.groups.length = w.groups.length:=by rw [hvg]
   try simp [-qt,-qd,-ql,rgs,y0,y1,hn0,t11,vN,k3,k4]
   repeat' first | done | ((first | ((with_reducible show zU _ _ _ _ _ _);refine zB rfl fun _ => ?_) | ((with_reducible show vZ _ _ _ _ _ _ _ _);refine zQ rfl rfl (by decide) (by decide) (by first | (simp [-qt,-qd,-ql,rgs,y0,y1,hn0,t11,vN,k3,k4];done) | (simp [-qt,-qd,-ql,rgs,y0,y1,hn0,t11,vN,k3,k4];rfl)) (by first | (simp [-qt,-qd,-ql,rgs,y0,y1,hn0,t11,vN,k3,k4];done) | (simp [-qt,-qd,-ql,rgs,y0,y1,hn0,t11,vN,k3,k4];rfl)) (by first | (simp;done) | (simp;omega)) (by first | (simp only [zY,LIM] at *; simp;omega) | (simp only [zY];simp;omega)) (by simp [iv,bv]) ?_) | (with_reducible refine zF (i:=10) [(0,[],[]),(1,[],[]),(2,[],[]),(3,[],[]),(4,[.tmp 43],[]),(5,[],[])] (by kernel_rfl) ?_)) <;> simp [-qt,-qd,-ql,rgs,y0,y1,hn0,t11,vN,k3,k4]) | ((first | (with_reducible refine zA ?_ ?_)) <;> intro qb <;> (have qp:=qb;try simp only [psq] at qp) <;> simp [-qt,-qd,-ql,rgs,y0,y1,hn0,t11,vN,k3,k4,qb])
   have hzl:(List.zipWith uB v.groups X.gr).length = v.groups.length:=by simp [V1.gl]
   refine app_mid (ws:=List.zipWith uB v.groups X.gr) (ys:=[[AV.int .i64 n,AV.int .i64 limit,AV.int .i64 0,AV.nil,AV.int .i64 0]]) rfl rfl (by decide) (by decide) ?r1 ?r2 ?r3 ?r4 ?r5 ?_
   case r1=>simp [t11,k3,k4]
   case r2=>simp
   case r3=>rw [hzl];omega
   case r4=>simp only [zY];simp;omega
   case r5=>simp
   have hr:List.take v.groups.length (List.drop 0 (List.zipWith uB v.groups X.gr)) ++ [[AV.int .i64 n,AV.int .i64 limit,AV.int .i64 0,AV.nil,AV.int .i64 0]] ++ List.drop (0 + v.groups.length + [[AV.int .i64 n,AV.int .i64 limit,AV.int .i64 0,AV.nil,AV.int .i64 0]].length) (List.zipWith uB v.groups X.gr) = List.zipWith uB v.groups X.gr ++ [[AV.int .i64 n,AV.int .i64 limit,AV.int .i64 0,AV.nil,AV.int .i64 0]]:=by
    rw [List.drop_zero,List.take_of_length_le (by omega),List.drop_eq_nil_of_le (by rw [hzl];simp),List.append_nil]
   rw [hr]
   try simp [-qt,-qd,-ql,rgs,y0,y1,t11,vN,k3,k4,k6,k7,k8,j4,j5,j6,j0,j1]
   repeat' first | done | ((first | ((with_reducible show zU _ _ _ _ _ _);refine zB rfl fun _ => ?_) | ((with_reducible show vZ _ _ _ _ _ _ _ _);refine zQ rfl rfl (by decide) (by decide) (by first | (simp [-qt,-qd,-ql,rgs,y0,y1,t11,vN,k3,k4,k6,k7,k8,j4,j5,j6,j0,j1];done) | (simp [-qt,-qd,-ql,rgs,y0,y1,t11,vN,k3,k4,k6,k7,k8,j4,j5,j6,j0,j1];rfl)) (by first | (simp [-qt,-qd,-ql,rgs,y0,y1,t11,vN,k3,k4,k6,k7,k8,j4,j5,j6,j0,j1];done) | (simp [-qt,-qd,-ql,rgs,y0,y1,t11,vN,k3,k4,k6,k7,k8,j4,j5,j6,j0,j1];rfl)) (by first | (simp;done) | (simp;omega)) (by first | (simp only [zY,LIM] at *; simp;omega) | (simp only [zY];simp;omega)) (by simp [iv,bv]) ?_) | (with_reducible refine zF (i:=10) [(0,[],[]),(1,[],[]),(2,[],[]),(3,[],[]),(4,[.tmp 43],[]),(5,[],[])] (by kernel_rfl) ?_)) <;> simp [-qt,-qd,-ql,rgs,y0,y1,t11,vN,k3,k4,k6,k7,k8,j4,j5,j6,j0,j1]) | ((first | (with_reducible refine zA ?_ ?_)) <;> intro qb <;> (have qp:=qb;try simp only [psq] at qp) <;> simp [-qt,-qd,-ql,rgs,y0,y1,t11,vN,k3,k4,k6,k7,k8,j4,j5,j6,j0,j1,qb])
   refine call_rowNil (id:=n1 + 8) (sz:=5) (i:=v.groups.length) (j:=3) (s:=1) (c:=[AV.int .i64 n,AV.int .i64 limit,AV.int .i64 0,AV.nil,AV.int .i64 0]) ((zI _ _ _ _ (by omega)).trans (zL ..)) (by rw [List.getElem?_append_right (by omega),hzl];simp) rfl (by omega) ?_
   dsimp only
   generalize hH:upd (upd _ (n1 + 19) _) (n1 + 8) _ = H
   have V2:WV H (X.addGr (n1 + 8) (n1 + 19)) V:=by
    rw [← hV]
    refine V1.addGroup (G:=zK4 n limit) (fun hm=>by have:=hid1 _ hm;omega) (fun hm=>by have:=hid1 _ hm;omega) (by omega) ?_ ?_ (fun j hj hne => ?_)
    ·rw [← hH,zL,List.set_append_right _ _ (by omega),hzl];simp [uB,zK4]
    ·rw [← hH,zI _ _ _ _ (by omega),zL];rfl
    ·have:=hid1 j hj
     rw [← hH,zI _ _ _ _ (by omega),zI _ _ _ _ (by omega),zI _ _ _ _ (by omega),zI _ _ _ _ (by omega),zI _ _ _ _ hne,zI _ _ _ _ (by omega),zI _ _ _ _ (by omega),zI _ _ _ _ (by omega)]
   have b0:H nx = some (.obj (wldV F w)):=by rw [← hH];simp [j0,k8,y0]
   have b1:H (nx + 1) = some (.obj zC4):=by
    rw [← hH]
    repeat rw [zI _ _ _ _ (by omega)]
    exact y1
   have b2:H (nx + 12) = some (.obj (vN (X.addGr (n1 + 8) (n1 + 19)) V)):=by
    rw [← hH,← hV]
    repeat rw [zI _ _ _ _ (by omega)]
    rw [zL];simp [vN,WI.addGr,addG]
   have KH:∀ j,j < nx → H j = h j:=fun j hj=>by
    rw [← hH]
    repeat rw [zI _ _ _ _ (by omega)]
    rw [K1 j (by omega)]
    repeat rw [zI _ _ _ _ (by omega)]
   have lo:∀ j ∈ (X.addGr (n1 + 8) (n1 + 19)).ids,nx + 15 ≤ j ∧ j < n1 + 20:=fun j hj=>by
    rcases WI.addGr_ids hj with r | r | r
    ·have:=hid1 j r;omega
    ·omega
    ·omega
   clear hH K1 hid1 V1
   generalize hX:X.addGr (n1 + 8) (n1 + 19) = X1 at *
   refine call_acE (m_l14Either (F:=F) (X:=X1) (w:=w) (u:=V) hs) (by rw [← hX,← hV];simp [vN,WI.addGr,addG]) V2 ?_
   rintro r h2 n2 ⟨⟨X2,rfl,V3,hid2⟩,hf2⟩ hle2 hfr2
   dsimp only at hid2 hf2 hle2
   have lo2:∀ j ∈ X2.ids,nx + 15 ≤ j ∧ j < n2:=fun j hj=>by rcases hid2 j hj with r | r;(have:=lo j r;omega);omega
   have J2:∀ j,j < nx + 15 → h2 j = H j:=fun j hj=>hf2 j (by omega) (fun hm=>by have:=lo j hm;omega)
   have z0:=(J2 nx (by omega)).trans b0
   have z1:=(J2 (nx + 1) (by omega)).trans b1
   have z2:=(J2 (nx + 12) (by omega)).trans b2
   have KK:∀ j,j < nx → h2 j = h j:=fun j hj=>(J2 j (by omega)).trans (KH j hj)
   simp only [zC4] at z1
   simp only [wldV] at z0
   rw [hcb] at V3 ⊢
   cases cb with
   | true =>
     simp only [if_true] at V3 ⊢
     try simp [-qt,-qd,-ql,rgs,z0,z1,z2,yL X2 V,yV,yK,zA5]
     repeat' first | done | ((first | ((with_reducible show zU _ _ _ _ _ _);refine zB rfl fun _ => ?_) | ((with_reducible show vZ _ _ _ _ _ _ _ _);refine zQ rfl rfl (by decide) (by decide) (by first | (simp [-qt,-qd,-ql,rgs,z0,z1,z2,yL X2 V,yV,yK,zA5];done) | (simp [-qt,-qd,-ql,rgs,z0,z1,z2,yL X2 V,yV,yK,zA5];rfl)) (by first | (simp [-qt,-qd,-ql,rgs,z0,z1,z2,yL X2 V,yV,yK,zA5];done) | (simp [-qt,-qd,-ql,rgs,z0,z1,z2,yL X2 V,yV,yK,zA5];rfl)) (by first | (simp;done) | (simp;omega)) (by first | (simp only [zY,LIM] at *; simp;omega) | (simp only [zY];simp;omega)) (by simp [iv,bv]) ?_) | (with_reducible refine zF (i:=10) [(0,[],[]),(1,[],[]),(2,[],[]),(3,[],[]),(4,[.tmp 43],[]),(5,[],[])] (by kernel_rfl) ?_)) <;> simp [-qt,-qd,-ql,rgs,z0,z1,z2,yL X2 V,yV,yK,zA5]) | ((first | (with_reducible refine zA ?_ ?_)) <;> intro qb <;> (have qp:=qb;try simp only [psq] at qp) <;> simp [-qt,-qd,-ql,rgs,z0,z1,z2,yL X2 V,yV,yK,zA5,qb])
     refine ⟨fun j hj => ?_,X2,by simp [vN],V3.keep fun id hid => ?_,fun id hid => ?_⟩
     ·repeat rw [zI _ _ _ _ (by omega)]
      exact KK j hj
     ·have:=lo2 id hid
      repeat rw [zI _ _ _ _ (by omega)]
     ·have:=lo2 id hid
      omega
   | false =>
     simp only [Bool.false_eq_true,if_false] at V3 ⊢
     try simp [-qt,-qd,-ql,rgs,z0,z1,z2,yL X2 w,yV,yK,zA5]
     repeat' first | done | ((first | ((with_reducible show zU _ _ _ _ _ _);refine zB rfl fun _ => ?_) | ((with_reducible show vZ _ _ _ _ _ _ _ _);refine zQ rfl rfl (by decide) (by decide) (by first | (simp [-qt,-qd,-ql,rgs,z0,z1,z2,yL X2 w,yV,yK,zA5];done) | (simp [-qt,-qd,-ql,rgs,z0,z1,z2,yL X2 w,yV,yK,zA5];rfl)) (by first | (simp [-qt,-qd,-ql,rgs,z0,z1,z2,yL X2 w,yV,yK,zA5];done) | (simp [-qt,-qd,-ql,rgs,z0,z1,z2,yL X2 w,yV,yK,zA5];rfl)) (by first | (simp;done) | (simp;omega)) (by first | (simp only [zY,LIM] at *; simp;omega) | (simp only [zY];simp;omega)) (by simp [iv,bv]) ?_) | (with_reducible refine zF (i:=10) [(0,[],[]),(1,[],[]),(2,[],[]),(3,[],[]),(4,[.tmp 43],[]),(5,[],[])] (by kernel_rfl) ?_)) <;> simp [-qt,-qd,-ql,rgs,z0,z1,z2,yL X2 w,yV,yK,zA5]) | ((first | (with_reducible refine zA ?_ ?_)) <;> intro qb <;> (have qp:=qb;try simp only [psq] at qp) <;> simp [-qt,-qd,-ql,rgs,z0,z1,z2,yL X2 w,yV,yK,zA5,qb])
     refine ⟨fun j hj => ?_,X2,by simp [vN],V3.keep fun id hid => ?_,fun id hid => ?_⟩
     ·repeat rw [zI _ _ _ _ (by omega)]
      exact KK j hj
     ·have:=lo2 id hid
      repeat rw [zI _ _ _ _ (by omega)]
     ·have:=lo2 id hid
      omega
  ·have hn0:(n < 0) = True:=by simp only [eq_iff_iff,iff_true];omega
   rw [decide_eq_false hn,Bool.false_and] at hcb
   subst hcb
   simp only [Bool.false_eq_true,if_false]
   try simp [-qt,-qd,-ql,rgs,y0,y1,hn0,yL X v,yV,yK]
   repeat' first | done | ((first | ((with_reducible show zU _ _ _ _ _ _);refine zB rfl fun _ => ?_) | ((with_reducible show vZ _ _ _ _ _ _ _ _);refine zQ rfl rfl (by decide) (by decide) (by first | (simp [-qt,-qd,-ql,rgs,y0,y1,hn0,yL X v,yV,yK];done) | (simp [-qt,-qd,-ql,rgs,y0,y1,hn0,yL X v,yV,yK];rfl)) (by first | (simp [-qt,-qd,-ql,rgs,y0,y1,hn0,yL X v,yV,yK];done) | (simp [-qt,-qd,-ql,rgs,y0,y1,hn0,yL X v,yV,yK];rfl)) (by first | (simp;done) | (simp;omega)) (by first | (simp only [zY,LIM] at *; simp;omega) | (simp only [zY];simp;omega)) (by simp [iv,bv]) ?_) | (with_reducible refine zF (i:=10) [(0,[],[]),(1,[],[]),(2,[],[]),(3,[],[]),(4,[.tmp 43],[]),(5,[],[])] (by kernel_rfl) ?_)) <;> simp [-qt,-qd,-ql,rgs,y0,y1,hn0,yL X v,yV,yK]) | ((first | (with_reducible refine zA ?_ ?_)) <;> intro qb <;> (have qp:=qb;try simp only [psq] at qp) <;> simp [-qt,-qd,-ql,rgs,y0,y1,hn0,yL X v,yV,yK,qb])
   refine zL4 (zQ2 (F:=F) hs) ?_
   intro X3 h3 n3 V3 hid3 hle3 hf3
   dsimp only at hid3 hle3 hf3
   have t1:=hf3 (nx + 1) (fun hm=>by have:=hid3 _ hm;omega)
   simp [y1] at t1
   try simp [-qt,-qd,-ql,rgs,t1,yL X3 w,yV,yK]
   repeat' first | done | ((first | ((with_reducible show zU _ _ _ _ _ _);refine zB rfl fun _ => ?_) | ((with_reducible show vZ _ _ _ _ _ _ _ _);refine zQ rfl rfl (by decide) (by decide) (by first | (simp [-qt,-qd,-ql,rgs,t1,yL X3 w,yV,yK];done) | (simp [-qt,-qd,-ql,rgs,t1,yL X3 w,yV,yK];rfl)) (by first | (simp [-qt,-qd,-ql,rgs,t1,yL X3 w,yV,yK];done) | (simp [-qt,-qd,-ql,rgs,t1,yL X3 w,yV,yK];rfl)) (by first | (simp;done) | (simp;omega)) (by first | (simp only [zY,LIM] at *; simp;omega) | (simp only [zY];simp;omega)) (by simp [iv,bv]) ?_) | (with_reducible refine zF (i:=10) [(0,[],[]),(1,[],[]),(2,[],[]),(3,[],[]),(4,[.tmp 43],[]),(5,[],[])] (by kernel_rfl) ?_)) <;> simp [-qt,-qd,-ql,rgs,t1,yL X3 w,yV,yK]) | ((first | (with_reducible refine zA ?_ ?_)) <;> intro qb <;> (have qp:=qb;try simp only [psq] at qp) <;> simp [-qt,-qd,-ql,rgs,t1,yL X3 w,yV,yK,qb])
   refine ⟨fun j hj => ?_,X3,rfl,V3.keep fun id hid => ?_,fun id hid => ?_⟩
   ·repeat rw [zI _ _ _ _ (by omega)]
    rw [hf3 j (fun hm=>by have:=hid3 _ hm;omega)]
    repeat rw [zI _ _ _ _ (by omega)]
    rw [K1 j (by omega)]
    repeat rw [zI _ _ _ _ (by omega)]
   ·have:=hid3 id hid
    repeat rw [zI _ _ _ _ (by omega)]
   ·have:=hid3 id hid
    omega
 ·have g1:zB5 w up limit = default:=by simp [zB5,askW,hw]
  have g2:zE9 w up limit = -1:=by simp [zE9,askB,hw]
  rw [g1,g2]
  refine AC.ghostT ?_
  refine AC.o okC Tryz.func17 rfl fun h nx hfr hnx hpre => ?_
  try simp [-qt,-qd,-ql,rgs,hw,wldV,zC4]
  repeat' first | done | ((first | ((with_reducible show zU _ _ _ _ _ _);refine zB rfl fun _ => ?_) | ((with_reducible show zG _ _ _ 33 _ _);refine zD (zP9 (w:=w) (F:=F)) ?_) | ((with_reducible show vZ _ _ _ _ _ _ _ _);refine zQ rfl rfl (by decide) (by decide) (by first | (simp [-qt,-qd,-ql,rgs,hw,wldV,zC4];done) | (simp [-qt,-qd,-ql,rgs,hw,wldV,zC4];rfl)) (by first | (simp [-qt,-qd,-ql,rgs,hw,wldV,zC4];done) | (simp [-qt,-qd,-ql,rgs,hw,wldV,zC4];rfl)) (by first | (simp;done) | (simp;omega)) (by first | (simp only [zY,LIM] at *; simp;omega) | (simp only [zY];simp;omega)) (by simp [iv,bv]) ?_) | (with_reducible refine zF (i:=10) [(0,[],[]),(1,[],[]),(2,[],[]),(3,[],[]),(4,[.tmp 43],[]),(5,[],[])] (by kernel_rfl) ?_)) <;> simp [-qt,-qd,-ql,rgs,hw,wldV,zC4]) | ((first | (with_reducible refine zA ?_ ?_)) <;> intro qb <;> (have qp:=qb;try simp only [psq] at qp) <;> simp [-qt,-qd,-ql,rgs,hw,wldV,zC4,qb])
  refine Gt.zero fun X h' hX hid hf=>⟨fun j hj => ?_,X,rfl,hX,fun id hi=>by have:=hid id hi;omega⟩
  rw [hf j (by omega)]
  repeat rw [zI _ _ _ _ (by omega)]
theorem s_GroupIn {F:Nat → Bool} {w:Wld} {up limit:Int} (hs:zC9 w ≤ 1048576):PC ctx.P 17 [.agg (wldV F w),.int .i64 up,.int .i64 limit] (.tup [.agg (wldV (fun _=>true) (zB5 w up limit)),.int .i64 (zE9 w up limit)]) :=
 (WC.of (w_GroupS hs)).pc (.tup _ (by simp only [List.mem_cons,List.not_mem_nil,or_false];rintro c (rfl | rfl);exact wldV_fz _;exact .int _ _)) fun g X v=>.tups (.cons (.aggs v.fros) (.cons (.same _) .nil))
end Go.AE.Tryz
end
section
/- The law of groups that are created: what the program and the reference make of a world is the same, in memory of its own. -/
set_option maxRecDepth 8000
set_option maxHeartbeats 4000000
namespace Go.AE.Tryz
open Go.Proofs
open List renaming map_take → qt,map_drop → qd,map_tail → ql
theorem rrI_cl (X:WI) (w:Wld) (b:Int):Cl (.tup [.agg (vN X w),.int .i64 b]):=by
 refine .tup _ fun c hc => ?_
 simp only [List.mem_cons,List.not_mem_nil,or_false] at hc
 rcases hc with rfl | rfl
 ·have:=rrW_cl X w true
  cases this with
  | tup _ h=>exact h _ (by simp)
 ·exact .int _ _
theorem law_GroupIn {w:Wld} {up limit:Int}  : PC ctx.P 5 [.agg (wldV (fun _=>true) w),.int .i64 up,.int .i64 limit] (.bool true):=by
 by_cases hs:zC9 w ≤ 1048576
 ·have e:szR (zC9 w) 1048576 = 1048576 - zC9 w:=by rcases zA1 (zC9 w) 1048576 with q | q <;> omega
  have hs2:zC9 (zB5 w up limit) ≤ 1048576:=ask_sz hs
  have hcB:∀ (F:Nat → Bool),WC ctx.P 18 [.agg (wldV F w),.int .i64 up,.int .i64 limit] (fun X=>.tup [.agg (vN X (zB5 w up limit)),.int .i64 (zE9 w up limit)]) (zB5 w up limit):=fun F=>w_GroupIn hs
  have hcS:=s_GroupIn (F:=fun _=>true) (up:=up) (limit:=limit) hs
  generalize zB5 w up limit = W at *
  generalize zE9 w up limit = B at *
  refine PC.o okC Tryz.func5 rfl (.bool _) fun h nx hnx => ?_
  try simp [-qt,-qd,-ql,rgs,e,yO,yZ,yP]
  repeat' first | done | ((first | ((with_reducible show zG _ _ _ 8 _ _);refine zD (c_szWorld (s:=w) (F:=fun _=>true) (by omega) (by omega)) ?_) | (with_reducible refine zF (i:=10) [(0,[],[]),(1,[],[]),(2,[.tmp 10],[]),(3,[],[]),(4,[],[])] (by kernel_rfl) ?_)) <;> simp [-qt,-qd,-ql,rgs,e,yO,yZ,yP]) | ((first | (with_reducible refine zE ?_ ?_) | (with_reducible refine zA ?_ ?_)) <;> intro qb <;> (have qp:=qb;try simp only [psq] at qp) <;> simp [-qt,-qd,-ql,rgs,e,yO,yZ,yP,qb])
  all_goals first | omega | skip
  refine zD (s_toWorld (s:=w) (F:=fun _=>true) hs) ?_
  try simp [-qt,-qd,-ql,rgs,yO,yZ,yP]
  repeat' first | done | ((first | (refine zD (hcS) ?_) | (with_reducible refine zF (i:=10) [(0,[],[]),(1,[],[]),(2,[.tmp 10],[]),(3,[],[]),(4,[],[])] (by kernel_rfl) ?_)) <;> simp [-qt,-qd,-ql,rgs,yO,yZ,yP]) | ((first | (with_reducible refine zE ?_ ?_) | (with_reducible refine zA ?_ ?_)) <;> intro qb <;> (have qp:=qb;try simp only [psq] at qp) <;> simp [-qt,-qd,-ql,rgs,yO,yZ,yP,qb])
  refine yX (w_toWorld (F:=fun _=>true) hs) trivial ?_
  rintro r h1 n1 ⟨hK1,X,rfl,V1,hid1⟩ hle1 hfr1
  dsimp only at hK1 hid1 hle1
  try simp [-qt,-qd,-ql,rgs,zR X w,yI,yB]
  repeat' first | done | ((first | (with_reducible refine zF (i:=10) [(0,[],[]),(1,[],[]),(2,[.tmp 10],[]),(3,[],[]),(4,[],[])] (by kernel_rfl) ?_)) <;> simp [-qt,-qd,-ql,rgs,zR X w,yI,yB]) | ((first | (with_reducible refine zE ?_ ?_) | (with_reducible refine zA ?_ ?_)) <;> intro qb <;> (have qp:=qb;try simp only [psq] at qp) <;> simp [-qt,-qd,-ql,rgs,zR X w,yI,yB,qb])
  refine call_wcB (hcB FF) (fun X=>rrI_cl X W B) ?hb ?_
  case hb=>exact .cons (.agg1 (V1.keep fun id hid=>by have:=hid1 id hid;dsimp only;repeat rw [zI _ _ _ _ (by omega)]).bors) (.cons (.same _) (.cons (.same _) (.nil)))
  intro X2 h2 n2 V2 hid2 hle2 hf2
  dsimp only at hid2 hle2 hf2
  have nX2:∀ j,j < n1 + 10 ∨ n2 ≤ j → j ∉ X2.ids:=fun j hj hm=>by have:=hid2 j hm;omega
  have oS2:h2 (nx + 17) = some (.obj (wldV (fun _=>true) W)):=by
   rw [hf2 _ (nX2 _ (by omega))]
   repeat rw [zI _ _ _ _ (by omega)]
   rw [hK1 _ (by omega),zL]
  have n16:(nx + 17 = n1 + 7) = False:=by simp only [eq_iff_iff,iff_false];omega
  try simp [-qt,-qd,-ql,rgs,n16,oS2,yO,yZ,yP,zR X2 W,yI,yB]
  repeat' first | done | ((first | (with_reducible refine zF (i:=10) [(0,[],[]),(1,[],[]),(2,[.tmp 10],[]),(3,[],[]),(4,[],[])] (by kernel_rfl) ?_)) <;> simp [-qt,-qd,-ql,rgs,n16,oS2,yO,yZ,yP,zR X2 W,yI,yB]) | ((first | (with_reducible refine zE ?_ ?_) | (with_reducible refine zA ?_ ?_)) <;> intro qb <;> (have qp:=qb;try simp only [psq] at qp) <;> simp [-qt,-qd,-ql,rgs,n16,oS2,yO,yZ,yP,zR X2 W,yI,yB,qb])
  generalize hH:upd (upd h2 (n1 + 7) _) (n1 + 7) (some (Ent.obj (vN X2 W))) = H3
  have hX:∀ j ∈ X.ids,nx + 24 ≤ j ∧ j < n1:=hid1
  have hX2:∀ j ∈ X2.ids,n1 + 10 ≤ j ∧ j < n2:=hid2
  have nX:∀ j,j < nx + 24 ∨ n1 ≤ j → j ∉ X.ids:=fun j hj hm=>by have:=hX j hm;omega
  have V3:WV H3 X w:=hH ▸ (V1.keep fun id hid=>by have:=hX id hid;(repeat rw [zI _ _ _ _ (by omega)]);rw [hf2 id (nX2 _ (by omega))];repeat rw [zI _ _ _ _ (by omega)])
  have G3:WV H3 X2 W:=hH ▸ (V2.keep fun id hid=>by have:=hX2 id hid;repeat rw [zI _ _ _ _ (by omega)])
  have oG3:H3 (n1 + 7) = some (.obj (vN X2 W)):=by rw [← hH,zL]
  have oX3:H3 (nx + 22) = some (.obj (vN X w)):=by
   rw [← hH]
   repeat rw [zI _ _ _ _ (by omega)]
   rw [hf2 _ (nX2 _ (by omega)),zL]
  have oS3:H3 (nx + 17) = some (.obj (wldV (fun _=>true) W)):=by
   rw [← hH]
   repeat rw [zI _ _ _ _ (by omega)]
   rw [hf2 _ (nX2 _ (by omega))]
   repeat rw [zI _ _ _ _ (by omega)]
   rw [hK1 _ (by omega),zL]
  have oA3:H3 nx = some (.obj (wldV (fun _=>true) w)):=by
   rw [← hH]
   repeat rw [zI _ _ _ _ (by omega)]
   rw [hf2 _ (nX2 _ (by omega))]
   repeat rw [zI _ _ _ _ (by omega)]
   rw [hK1 _ (by omega)]
   repeat rw [zI _ _ _ _ (by omega)]
   rw [zL]
  have K3:KeepB nx H3 h:=fun j hj=>by
   rw [← hH]
   repeat rw [zI _ _ _ _ (by omega)]
   rw [hf2 _ (nX2 _ (by omega))]
   repeat rw [zI _ _ _ _ (by omega)]
   rw [hK1 _ (by omega)]
   repeat rw [zI _ _ _ _ (by omega)]
  clear hH hf2 hK1 V1 V2 hid1 hid2
  refine yJ (zQ0 (x:=W) (y:=W) (F1:=FF) (F2:=fun _=>true)) (.bool _) ?hb3 ?_
  case hb3=>exact .cons (.agg1 G3.bors) (.cons (.same _) .nil)
  try simp [-qt,-qd,-ql,rgs,oG3,oS3,oX3,oA3,yO,yZ,yP,zR X w,zR X2 W,yI,yB]
  repeat' first | done | ((first | ((with_reducible show zG _ _ _ 10 _ _);refine zD (s_toWorld (s:=w) (F:=fun _=>true) hs) ?_) | (with_reducible refine zF (i:=10) [(0,[],[]),(1,[],[]),(2,[.tmp 10],[]),(3,[],[]),(4,[],[])] (by kernel_rfl) ?_)) <;> simp [-qt,-qd,-ql,rgs,oG3,oS3,oX3,oA3,yO,yZ,yP,zR X w,zR X2 W,yI,yB]) | ((first | (with_reducible refine zE ?_ ?_) | (with_reducible refine zA ?_ ?_)) <;> intro qb <;> (have qp:=qb;try simp only [psq] at qp) <;> simp [-qt,-qd,-ql,rgs,oG3,oS3,oX3,oA3,yO,yZ,yP,zR X w,zR X2 W,yI,yB,qb])
  refine yJ (zQ0 (x:=w) (y:=w) (F1:=FF) (F2:=fun _=>true)) (.bool _) ?hb4 ?_
  case hb4=>exact .cons (.agg1 V3.bors) (.cons (.same _) .nil)
  try simp [-qt,-qd,-ql,rgs,oX3,yO,yZ,yP,zR X w,zR X2 W,yI,yB]
  repeat' first | done | ((first | (with_reducible refine zF (i:=10) [(0,[],[]),(1,[],[]),(2,[.tmp 10],[]),(3,[],[]),(4,[],[])] (by kernel_rfl) ?_)) <;> simp [-qt,-qd,-ql,rgs,oX3,yO,yZ,yP,zR X w,zR X2 W,yI,yB]) | ((first | (with_reducible refine zE ?_ ?_) | (with_reducible refine zA ?_ ?_)) <;> intro qb <;> (have qp:=qb;try simp only [psq] at qp) <;> simp [-qt,-qd,-ql,rgs,oX3,yO,yZ,yP,zR X w,zR X2 W,yI,yB,qb])
  refine yX (m_markWorld (X:=X) (w:=w) (k:=1) hs (by omega) (by omega)) V3 ?_
  rintro r H4 n4 ⟨rfl,V4,f4⟩ hle4 hfr4
  dsimp only at V4 f4 hle4
  have oG4:=f4 (n1 + 7) (by omega) (nX _ (by omega))
  have oS4:=f4 (nx + 17) (by omega) (nX _ (by omega))
  have oA4:=f4 nx (by omega) (nX _ (by omega))
  rw [oG3] at oG4
  rw [oS3] at oS4
  rw [oA3] at oA4
  have G4:WV H4 X2 W:=G3.keep fun id hid=>f4 id (by have:=hX2 id hid;omega) (nX _ (by have:=hX2 id hid;omega))
  have K4:KeepB nx H4 h:=fun j hj=>by rw [f4 j (by omega) (nX _ (by omega)),K3 j hj]
  have z4:(kZ w 1 < 0) = False:=by
   simp only [eq_iff_iff,iff_false]
   simp only [kZ,kR,kB,kV,kG,kK,kF,kU,kA,kL,kH,kW,kS,kE,kT];omega
  clear hfr4
  try simp [-qt,-qd,-ql,rgs,z4,oG4,oS4,yO,yZ,yP,zR X w,zR X2 W,yI,yB]
  repeat' first | done | ((first | (with_reducible refine zF (i:=10) [(0,[],[]),(1,[],[]),(2,[.tmp 10],[]),(3,[],[]),(4,[],[])] (by kernel_rfl) ?_)) <;> simp [-qt,-qd,-ql,rgs,z4,oG4,oS4,yO,yZ,yP,zR X w,zR X2 W,yI,yB]) | ((first | (with_reducible refine zE ?_ ?_) | (with_reducible refine zA ?_ ?_)) <;> intro qb <;> (have qp:=qb;try simp only [psq] at qp) <;> simp [-qt,-qd,-ql,rgs,z4,oG4,oS4,yO,yZ,yP,zR X w,zR X2 W,yI,yB,qb])
  refine yJ (zQ0 (x:=W) (y:=W) (F1:=FF) (F2:=fun _=>true)) (.bool _) ?hb5 ?_
  case hb5=>exact .cons (.agg1 G4.bors) (.cons (.same _) .nil)
  try simp [-qt,-qd,-ql,rgs,z4,oG4,oS4,yO,yZ,yP,zR X w,zR X2 W,yI,yB]
  repeat' first | done | ((first | (with_reducible refine zF (i:=10) [(0,[],[]),(1,[],[]),(2,[.tmp 10],[]),(3,[],[]),(4,[],[])] (by kernel_rfl) ?_)) <;> simp [-qt,-qd,-ql,rgs,z4,oG4,oS4,yO,yZ,yP,zR X w,zR X2 W,yI,yB]) | ((first | (with_reducible refine zE ?_ ?_) | (with_reducible refine zA ?_ ?_)) <;> intro qb <;> (have qp:=qb;try simp only [psq] at qp) <;> simp [-qt,-qd,-ql,rgs,z4,oG4,oS4,yO,yZ,yP,zR X w,zR X2 W,yI,yB,qb])
  refine yX (m_markWorld (X:=X2) (w:=W) (k:=1) hs2 (by omega) (by omega)) G4 ?_
  rintro r H5 n5 ⟨rfl,G5,f5⟩ hle5 hfr5
  dsimp only at G5 f5 hle5
  have oG5:=f5 (n1 + 7) (by omega) (nX2 _ (by omega))
  have oS5:=f5 (nx + 17) (by omega) (nX2 _ (by omega))
  have oA5:=f5 nx (by omega) (nX2 _ (by omega))
  rw [oG4] at oG5
  rw [oS4] at oS5
  rw [oA4] at oA5
  have K5:KeepB nx H5 h:=fun j hj=>by rw [f5 j (by omega) (nX2 _ (by omega)),K4 j hj]
  have z5:(kZ W 1 < 0) = False:=by
   simp only [eq_iff_iff,iff_false]
   simp only [kZ,kR,kB,kV,kG,kK,kF,kU,kA,kL,kH,kW,kS,kE,kT];omega
  clear hfr5
  try simp [-qt,-qd,-ql,rgs,z5,oG5,yO,yZ,yP,zR X w,zR X2 W,yI,yB]
  repeat' first | done | ((first | (with_reducible refine zF (i:=10) [(0,[],[]),(1,[],[]),(2,[.tmp 10],[]),(3,[],[]),(4,[],[])] (by kernel_rfl) ?_)) <;> simp [-qt,-qd,-ql,rgs,z5,oG5,yO,yZ,yP,zR X w,zR X2 W,yI,yB]) | ((first | (with_reducible refine zE ?_ ?_) | (with_reducible refine zA ?_ ?_)) <;> intro qb <;> (have qp:=qb;try simp only [psq] at qp) <;> simp [-qt,-qd,-ql,rgs,z5,oG5,yO,yZ,yP,zR X w,zR X2 W,yI,yB,qb])
  refine yJ (h_heldWorld (F:=FF) (w:=W) (k:=1) hs2 (by omega) (by omega)) (.int _ _) ?hb6 ?_
  case hb6=>exact .cons (.agg1 (wldR_mk X2 W 1 ▸ G5.bors)) (.cons (.same _) .nil)
  try simp [-qt,-qd,-ql,rgs,z5,oA5,yO,yZ,yP,zR X w,zR X2 W,yI,yB]
  repeat' first | done | ((first | ((with_reducible show zG _ _ _ 10 _ _);refine zD (s_toWorld (s:=w) (F:=fun _=>true) hs) ?_) | (with_reducible refine zF (i:=10) [(0,[],[]),(1,[],[]),(2,[.tmp 10],[]),(3,[],[]),(4,[],[])] (by kernel_rfl) ?_)) <;> simp [-qt,-qd,-ql,rgs,z5,oA5,yO,yZ,yP,zR X w,zR X2 W,yI,yB]) | ((first | (with_reducible refine zE ?_ ?_) | (with_reducible refine zA ?_ ?_)) <;> intro qb <;> (have qp:=qb;try simp only [psq] at qp) <;> simp [-qt,-qd,-ql,rgs,z5,oA5,yO,yZ,yP,zR X w,zR X2 W,yI,yB,qb])
  refine zL4 (hcB _) ?_
  intro X6 H6 n6 V6 hid6 hle6 f6
  dsimp only at hid6 hle6 f6
  have nX6:∀ j,j < n5 → j ∉ X6.ids:=fun j hj hm=>by have:=hid6 j hm;omega
  have oG6:=f6 (n1 + 7) (nX6 _ (by omega))
  have oS6:=f6 (nx + 17) (nX6 _ (by omega))
  rw [oG5] at oG6
  rw [oS5] at oS6
  have G6:WV H6 X2 (mkWld W 1):=G5.keep fun id hid=>f6 id (nX6 _ (by have:=hX2 id hid;omega))
  have K6:KeepB nx H6 h:=fun j hj=>by rw [f6 j (nX6 _ (by omega)),K5 j hj]
  have n17:(nx + 17 = n5 + 18) = False:=by simp only [eq_iff_iff,iff_false];omega
  have m18:∀ k,(n1 = n5 + k) = False:=fun k=>by simp only [eq_iff_iff,iff_false];omega
  have m19:∀ k,(nx = n5 + k) = False:=fun k=>by simp only [eq_iff_iff,iff_false];omega
  have m17:(n1 + 7 = n5 + 18) = False:=by simp only [eq_iff_iff,iff_false];omega
  try simp [-qt,-qd,-ql,rgs,n17,m17,m18,m19,z5,oG6,oS6,zR X6 W,yO,yZ,yP,zR X2 W,yI,yB]
  repeat' first | done | ((first | (with_reducible refine zF (i:=10) [(0,[],[]),(1,[],[]),(2,[.tmp 10],[]),(3,[],[]),(4,[],[])] (by kernel_rfl) ?_)) <;> simp [-qt,-qd,-ql,rgs,n17,m17,m18,m19,z5,oG6,oS6,zR X6 W,yO,yZ,yP,zR X2 W,yI,yB]) | ((first | (with_reducible refine zE ?_ ?_) | (with_reducible refine zA ?_ ?_)) <;> intro qb <;> (have qp:=qb;try simp only [psq] at qp) <;> simp [-qt,-qd,-ql,rgs,n17,m17,m18,m19,z5,oG6,oS6,zR X6 W,yO,yZ,yP,zR X2 W,yI,yB,qb])
  refine yJ (zQ0 (x:=W) (y:=W) (F1:=FF) (F2:=fun _=>true)) (.bool _) ?hb7 ?_
  case hb7=>exact .cons (.agg1 (V6.keep fun id hid=>by have:=hid6 id hid;dsimp only;repeat rw [zI _ _ _ _ (by omega)]).bors) (.cons (.same _) .nil)
  try simp [-qt,-qd,-ql,rgs,n17,m17,m18,m19,z5,oG6,oS6,zR X6 W,yO,yZ,yP,zR X2 W,yI,yB]
  repeat' first | done | ((first | (with_reducible refine zF (i:=10) [(0,[],[]),(1,[],[]),(2,[.tmp 10],[]),(3,[],[]),(4,[],[])] (by kernel_rfl) ?_)) <;> simp [-qt,-qd,-ql,rgs,n17,m17,m18,m19,z5,oG6,oS6,zR X6 W,yO,yZ,yP,zR X2 W,yI,yB]) | ((first | (with_reducible refine zE ?_ ?_) | (with_reducible refine zA ?_ ?_)) <;> intro qb <;> (have qp:=qb;try simp only [psq] at qp) <;> simp [-qt,-qd,-ql,rgs,n17,m17,m18,m19,z5,oG6,oS6,zR X6 W,yO,yZ,yP,zR X2 W,yI,yB,qb])
  refine yJ (h_heldWorld (F:=FF) (w:=W) (k:=1) hs2 (by omega) (by omega)) (.int _ _) ?hb8 ?_
  case hb8=>exact .cons (.agg1 (wldR_mk X2 W 1 ▸ (G6.keep fun id hid=>by have:=hX2 id hid;dsimp only;repeat rw [zI _ _ _ _ (by omega)]).bors)) (.cons (.same _) .nil)
  try simp [-qt,-qd,-ql,rgs,z5]
  repeat' first | done | ((first | (with_reducible refine zF (i:=10) [(0,[],[]),(1,[],[]),(2,[.tmp 10],[]),(3,[],[]),(4,[],[])] (by kernel_rfl) ?_)) <;> simp [-qt,-qd,-ql,rgs,z5]) | ((first | (with_reducible refine zE ?_ ?_) | (with_reducible refine zA ?_ ?_)) <;> intro qb <;> (have qp:=qb;try simp only [psq] at qp) <;> simp [-qt,-qd,-ql,rgs,z5,qb])
  exact zO8 (by omega) (zO8 (by omega) K6)
 ·have e:szR (zC9 w) 1048576 = -1:=by rcases zA1 (zC9 w) 1048576 with q | q <;> omega
  refine PC.o okC Tryz.func5 rfl (.bool _) fun h nx hnx => ?_
  try simp [-qt,-qd,-ql,rgs,e]
  repeat' first | done | ((first | ((with_reducible show zG _ _ _ 8 _ _);refine zD (c_szWorld (s:=w) (F:=fun _=>true) (by omega) (by omega)) ?_) | (with_reducible refine zF (i:=10) [(0,[],[]),(1,[],[]),(2,[.tmp 10],[]),(3,[],[]),(4,[],[])] (by kernel_rfl) ?_)) <;> simp [-qt,-qd,-ql,rgs,e]) | ((first | (with_reducible refine zE ?_ ?_) | (with_reducible refine zA ?_ ?_)) <;> intro qb <;> (have qp:=qb;try simp only [psq] at qp) <;> simp [-qt,-qd,-ql,rgs,e,qb])
end Go.AE.Tryz
end
