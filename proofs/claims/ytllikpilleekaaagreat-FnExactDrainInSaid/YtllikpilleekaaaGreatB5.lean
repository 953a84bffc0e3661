/- Contracts of the seat's functions: what each answers, for all arguments. -/
import Derived.Test.YtllikpilleekaaaGreatB4
import Derived.Test.YtllikpilleekaaaGreatB3
import Derived.Test.YtllikpilleekaaaGreatA3
import Derived.Test.YtllikpilleekaaaGreatA4
set_option linter.unusedVariables false
set_option linter.unusedSimpArgs false
set_option linter.deprecated false
section
/- Contracts of the reference's request to create a node. -/
set_option maxRecDepth 8000
set_option maxHeartbeats 4000000
namespace Go.AE.Tryz
open Go.Proofs
open List renaming map_take → qt,map_drop → qd,map_tail → ql
theorem s_Begun {F:Nat → Bool} {p:Bool} {t:List Nod} {s:Spr} {n:Int} (ht:zB1 t = true) (hs:vP s t = true):PC ctx.P 113 [.view p 5 (t.map vK),.agg (zA0 F s),.int .i64 n] (.tup [.agg (zA0 (fun _=>true) (begR s n)),.bool (zE7 s n)]):=by
 have hl:=zK5 ht
 have h0:=hs
 simp only [vP,Bool.and_eq_true,beq_iff_eq,decide_eq_true_eq] at h0
 obtain ⟨h1,h2,-⟩:=h0
 have h3:s.told.length ≤ 1048576:=by omega
 have h4:s.work.length ≤ 1048576:=by omega
 have e1:vX n s.told = inR n 0 ((t.length:Int) - 1):=by simp only [vX,h1]
 have ew:IntKind.i64.wrap ((t.length:Int) - 1) = (t.length:Int) - 1:=zI (by omega)
 by_cases hi:inR n 0 ((t.length:Int) - 1) = true
 ·by_cases hw:s.work.length = 240
  ·have hc:zE7 s n = false:=by simp [zE7,hw]
   have hb:begR s n = s:=by simp [begR,hc]
   rw [hc,hb]
   refine PC.o okC Tryz.func113 rfl (.tup _ (by simp only [List.mem_cons,List.not_mem_nil,or_false];rintro c (rfl | rfl);exact .agg _ (sprV_fz s);exact .bool _)) fun h nx hnx => ?_
   try simp [-qt,-qd,-ql,rgs,ht,hs,ew,hi,hw,zA0,zF9 hw,zO hnx]
   repeat' first | done | ((first | ((with_reducible show zT _ _ _ _ _ _);refine zB rfl fun _ => ?_) | ((with_reducible show zG _ _ _ 96 _ _);refine zD (zN8 (F:=F) (t:=t) (s:=s)) ?_) | ((with_reducible show zG _ _ _ 184 _ _);refine zD (zA2) ?_) | ((with_reducible show zG _ _ _ 106 _ _);refine yB (f_l7Copy (F:=F) h3 h4) ?_) | ((with_reducible show vS _ _ _ _ _ _ _ _);refine zP rfl rfl (by decide) (by decide) (by first | (simp [-qt,-qd,-ql,rgs,ht,hs,ew,hi,hw,zA0,zF9 hw,zO hnx];done) | (simp [-qt,-qd,-ql,rgs,ht,hs,ew,hi,hw,zA0,zF9 hw,zO hnx];rfl)) (by first | (simp [-qt,-qd,-ql,rgs,ht,hs,ew,hi,hw,zA0,zF9 hw,zO hnx];done) | (simp [-qt,-qd,-ql,rgs,ht,hs,ew,hi,hw,zA0,zF9 hw,zO hnx];rfl)) (by first | (simp;done) | (simp;omega)) (by first | (simp only [zW,LIM] at *; simp;omega) | (simp only [zW];simp;omega)) (by simp [iv,bv]) ?_)) <;> simp [-qt,-qd,-ql,rgs,ht,hs,ew,hi,hw,zA0,zF9 hw,zO hnx]) | ((first | (with_reducible refine zE ?_ ?_) | (with_reducible refine zA ?_ ?_)) <;> intro qb <;> (have qp:=qb;try simp only [psq] at qp) <;> simp [-qt,-qd,-ql,rgs,ht,hs,ew,hi,hw,zA0,zF9 hw,zO hnx,qb])
  ·have hc:zE7 s n = true:=by simp [zE7,e1,hi,hw]
   have hb:begR s n = ⟨s.told,s.work ++ [n]⟩:=by simp [begR,hc]
   rw [hc,hb]
   refine PC.o okC Tryz.func113 rfl (.tup _ (by simp only [List.mem_cons,List.not_mem_nil,or_false];rintro c (rfl | rfl);exact .agg _ (sprV_fz _);exact .bool _)) fun h nx hnx => ?_
   have hw2:((s.work.length:Int) == 240) = false:=by simp;omega
   try simp [-qt,-qd,-ql,rgs,ht,hs,ew,hi,hw2,zA0,yG,zO hnx,iv]
   repeat' first | done | ((first | ((with_reducible show zT _ _ _ _ _ _);refine zB rfl fun _ => ?_) | ((with_reducible show zG _ _ _ 96 _ _);refine zD (zN8 (F:=F) (t:=t) (s:=s)) ?_) | ((with_reducible show zG _ _ _ 184 _ _);refine zD (zA2) ?_) | ((with_reducible show zG _ _ _ 106 _ _);refine yB (f_l7Copy (F:=F) h3 h4) ?_) | ((with_reducible show vS _ _ _ _ _ _ _ _);refine zP rfl rfl (by decide) (by decide) (by first | (simp [-qt,-qd,-ql,rgs,ht,hs,ew,hi,hw2,zA0,yG,zO hnx,iv];done) | (simp [-qt,-qd,-ql,rgs,ht,hs,ew,hi,hw2,zA0,yG,zO hnx,iv];rfl)) (by first | (simp [-qt,-qd,-ql,rgs,ht,hs,ew,hi,hw2,zA0,yG,zO hnx,iv];done) | (simp [-qt,-qd,-ql,rgs,ht,hs,ew,hi,hw2,zA0,yG,zO hnx,iv];rfl)) (by first | (simp;done) | (simp;omega)) (by first | (simp only [zW,LIM] at *; simp;omega) | (simp only [zW];simp;omega)) (by simp [iv,bv]) ?_)) <;> simp [-qt,-qd,-ql,rgs,ht,hs,ew,hi,hw2,zA0,yG,zO hnx,iv]) | ((first | (with_reducible refine zE ?_ ?_) | (with_reducible refine zA ?_ ?_)) <;> intro qb <;> (have qp:=qb;try simp only [psq] at qp) <;> simp [-qt,-qd,-ql,rgs,ht,hs,ew,hi,hw2,zA0,yG,zO hnx,iv,qb])
 ·have hi2:inR n 0 ((t.length:Int) - 1) = false:=by simpa using hi
  have hc:zE7 s n = false:=by simp [zE7,e1,hi2]
  have hb:begR s n = s:=by simp [begR,hc]
  rw [hc,hb]
  refine PC.o okC Tryz.func113 rfl (.tup _ (by simp only [List.mem_cons,List.not_mem_nil,or_false];rintro c (rfl | rfl);exact .agg _ (sprV_fz s);exact .bool _)) fun h nx hnx => ?_
  try simp [-qt,-qd,-ql,rgs,ht,hs,ew,hi2,zA0,zO hnx]
  repeat' first | done | ((first | ((with_reducible show zT _ _ _ _ _ _);refine zB rfl fun _ => ?_) | ((with_reducible show zG _ _ _ 96 _ _);refine zD (zN8 (F:=F) (t:=t) (s:=s)) ?_) | ((with_reducible show zG _ _ _ 184 _ _);refine zD (zA2) ?_) | ((with_reducible show zG _ _ _ 106 _ _);refine yB (f_l7Copy (F:=F) h3 h4) ?_) | ((with_reducible show vS _ _ _ _ _ _ _ _);refine zP rfl rfl (by decide) (by decide) (by first | (simp [-qt,-qd,-ql,rgs,ht,hs,ew,hi2,zA0,zO hnx];done) | (simp [-qt,-qd,-ql,rgs,ht,hs,ew,hi2,zA0,zO hnx];rfl)) (by first | (simp [-qt,-qd,-ql,rgs,ht,hs,ew,hi2,zA0,zO hnx];done) | (simp [-qt,-qd,-ql,rgs,ht,hs,ew,hi2,zA0,zO hnx];rfl)) (by first | (simp;done) | (simp;omega)) (by first | (simp only [zW,LIM] at *; simp;omega) | (simp only [zW];simp;omega)) (by simp [iv,bv]) ?_)) <;> simp [-qt,-qd,-ql,rgs,ht,hs,ew,hi2,zA0,zO hnx]) | ((first | (with_reducible refine zE ?_ ?_) | (with_reducible refine zA ?_ ?_)) <;> intro qb <;> (have qp:=qb;try simp only [psq] at qp) <;> simp [-qt,-qd,-ql,rgs,ht,hs,ew,hi2,zA0,zO hnx,qb])
theorem s_LetGo {p q:Bool} {t:List Nod} {l:List Evt} {e:Evt}:PC ctx.P 164 [.view p 5 (t.map vK),.view q 4 (l.map yW),.agg (yW e)]
 (.tup [.view true 4 ((if zZ t l = true then (if zZ t (l ++ [e]) = true then l ++ [e] else l) else []).map yW),.bool (zZ t l && zZ t (l ++ [e]))]):=by
 by_cases h1:zZ t l = true
 ·have hl:l.length ≤ 1048576:=by have:=events_len h1;omega
  by_cases h2:zZ t (l ++ [e]) = true
  ·simp only [if_pos h1,if_pos h2,h1,h2,Bool.and_self]
   refine PC.o okC Tryz.func164 rfl (.tup _ (by simp only [List.mem_cons,List.not_mem_nil,or_false];rintro c (rfl | rfl);exact .vmap zJ7;exact .bool _)) fun h nx hnx => ?_
   try simp [-qt,-qd,-ql,rgs,h1,yW,yG,zO hnx]
   repeat' first | done | ((first | ((with_reducible show zG _ _ _ 182 _ _);refine zD (zH5 (t:=t) (l:=l)) ?_) | ((with_reducible show zG _ _ _ 105 _ _);refine yB (f_l6Copy hl) ?_) | ((with_reducible show vS _ _ _ _ _ _ _ _);refine zP rfl rfl (by decide) (by decide) (by first | (simp [-qt,-qd,-ql,rgs,h1,yW,yG,zO hnx];done) | (simp [-qt,-qd,-ql,rgs,h1,yW,yG,zO hnx];rfl)) (by first | (simp [-qt,-qd,-ql,rgs,h1,yW,yG,zO hnx];done) | (simp [-qt,-qd,-ql,rgs,h1,yW,yG,zO hnx];rfl)) (by first | (simp;done) | (simp;omega)) (by first | (simp only [zW,LIM] at *; simp;omega) | (simp only [zW];simp;omega)) (by simp [iv,bv]) ?_) | (with_reducible refine zF (i:=3) [(0,[],[]),(2,[],[]),(1,[.tmp 5],[3]),(3,[],[]),(4,[],[]),(5,[],[])] (by kernel_rfl) ?_)) <;> simp [-qt,-qd,-ql,rgs,h1,yW,yG,zO hnx]) | ((first | (with_reducible refine zA ?_ ?_)) <;> intro qb <;> (have qp:=qb;try simp only [psq] at qp) <;> simp [-qt,-qd,-ql,rgs,h1,yW,yG,zO hnx,qb])
   refine yT (zH5 (p:=p) (q:=false) (t:=t) (l:=l ++ [e])) (.bool _) ?hb ?_
   case hb=>exact .cons (.same _) (.cons (.ref0 (by simp [yW]) (by simp) (by simp)) .nil)
   try simp [-qt,-qd,-ql,rgs,h2,yW,yG]
   repeat' first | done | ((first | ((with_reducible show vS _ _ _ _ _ _ _ _);refine zP rfl rfl (by decide) (by decide) (by first | (simp [-qt,-qd,-ql,rgs,h2,yW,yG];done) | (simp [-qt,-qd,-ql,rgs,h2,yW,yG];rfl)) (by first | (simp [-qt,-qd,-ql,rgs,h2,yW,yG];done) | (simp [-qt,-qd,-ql,rgs,h2,yW,yG];rfl)) (by first | (simp;done) | (simp;omega)) (by first | (simp only [zW,LIM] at *; simp;omega) | (simp only [zW];simp;omega)) (by simp [iv,bv]) ?_) | (with_reducible refine zF (i:=3) [(0,[],[]),(2,[],[]),(1,[.tmp 5],[3]),(3,[],[]),(4,[],[]),(5,[],[])] (by kernel_rfl) ?_)) <;> simp [-qt,-qd,-ql,rgs,h2,yW,yG]) | ((first | (with_reducible refine zA ?_ ?_)) <;> intro qb <;> (have qp:=qb;try simp only [psq] at qp) <;> simp [-qt,-qd,-ql,rgs,h2,yW,yG,qb])
  ·have h3:zZ t (l ++ [e]) = false:=by simpa using h2
   simp only [if_pos h1,if_neg h2,h1,h3,Bool.and_false]
   refine PC.o okC Tryz.func164 rfl (.tup _ (by simp only [List.mem_cons,List.not_mem_nil,or_false];rintro c (rfl | rfl);exact .vmap zJ7;exact .bool _)) fun h nx hnx => ?_
   try simp [-qt,-qd,-ql,rgs,h1,yW,yG,zO hnx]
   repeat' first | done | ((first | ((with_reducible show zG _ _ _ 182 _ _);refine zD (zH5 (t:=t) (l:=l)) ?_) | ((with_reducible show zG _ _ _ 105 _ _);refine yB (f_l6Copy hl) ?_) | ((with_reducible show vS _ _ _ _ _ _ _ _);refine zP rfl rfl (by decide) (by decide) (by first | (simp [-qt,-qd,-ql,rgs,h1,yW,yG,zO hnx];done) | (simp [-qt,-qd,-ql,rgs,h1,yW,yG,zO hnx];rfl)) (by first | (simp [-qt,-qd,-ql,rgs,h1,yW,yG,zO hnx];done) | (simp [-qt,-qd,-ql,rgs,h1,yW,yG,zO hnx];rfl)) (by first | (simp;done) | (simp;omega)) (by first | (simp only [zW,LIM] at *; simp;omega) | (simp only [zW];simp;omega)) (by simp [iv,bv]) ?_) | (with_reducible refine zF (i:=3) [(0,[],[]),(2,[],[]),(1,[.tmp 5],[3]),(3,[],[]),(4,[],[]),(5,[],[])] (by kernel_rfl) ?_)) <;> simp [-qt,-qd,-ql,rgs,h1,yW,yG,zO hnx]) | ((first | (with_reducible refine zA ?_ ?_)) <;> intro qb <;> (have qp:=qb;try simp only [psq] at qp) <;> simp [-qt,-qd,-ql,rgs,h1,yW,yG,zO hnx,qb])
   refine yT (zH5 (p:=p) (q:=false) (t:=t) (l:=l ++ [e])) (.bool _) ?hb ?_
   case hb=>exact .cons (.same _) (.cons (.ref0 (by simp [yW]) (by simp) (by simp)) .nil)
   try simp [-qt,-qd,-ql,rgs,h3,yW,yG,zO hnx]
   repeat' first | done | ((first | ((with_reducible show zG _ _ _ 105 _ _);refine yB (f_l6Copy hl) ?_) | ((with_reducible show vS _ _ _ _ _ _ _ _);refine zP rfl rfl (by decide) (by decide) (by first | (simp [-qt,-qd,-ql,rgs,h3,yW,yG,zO hnx];done) | (simp [-qt,-qd,-ql,rgs,h3,yW,yG,zO hnx];rfl)) (by first | (simp [-qt,-qd,-ql,rgs,h3,yW,yG,zO hnx];done) | (simp [-qt,-qd,-ql,rgs,h3,yW,yG,zO hnx];rfl)) (by first | (simp;done) | (simp;omega)) (by first | (simp only [zW,LIM] at *; simp;omega) | (simp only [zW];simp;omega)) (by simp [iv,bv]) ?_) | (with_reducible refine zF (i:=3) [(0,[],[]),(2,[],[]),(1,[.tmp 5],[3]),(3,[],[]),(4,[],[]),(5,[],[])] (by kernel_rfl) ?_)) <;> simp [-qt,-qd,-ql,rgs,h3,yW,yG,zO hnx]) | ((first | (with_reducible refine zA ?_ ?_)) <;> intro qb <;> (have qp:=qb;try simp only [psq] at qp) <;> simp [-qt,-qd,-ql,rgs,h3,yW,yG,zO hnx,qb])
 ·have h3:zZ t l = false:=by simpa using h1
  simp only [if_neg h1,h3,Bool.false_and]
  refine PC.o okC Tryz.func164 rfl (.tup _ (by simp only [List.mem_cons,List.not_mem_nil,or_false];rintro c (rfl | rfl);exact .vmap zJ7;exact .bool _)) fun h nx hnx => ?_
  try simp [-qt,-qd,-ql,rgs,h3,yW,yG,zO hnx]
  repeat' first | done | ((first | ((with_reducible show zG _ _ _ 182 _ _);refine zD (zH5 (t:=t) (l:=l)) ?_) | ((with_reducible show vS _ _ _ _ _ _ _ _);refine zP rfl rfl (by decide) (by decide) (by first | (simp [-qt,-qd,-ql,rgs,h3,yW,yG,zO hnx];done) | (simp [-qt,-qd,-ql,rgs,h3,yW,yG,zO hnx];rfl)) (by first | (simp [-qt,-qd,-ql,rgs,h3,yW,yG,zO hnx];done) | (simp [-qt,-qd,-ql,rgs,h3,yW,yG,zO hnx];rfl)) (by first | (simp;done) | (simp;omega)) (by first | (simp only [zW,LIM] at *; simp;omega) | (simp only [zW];simp;omega)) (by simp [iv,bv]) ?_) | (with_reducible refine zF (i:=3) [(0,[],[]),(2,[],[]),(1,[.tmp 5],[3]),(3,[],[]),(4,[],[]),(5,[],[])] (by kernel_rfl) ?_)) <;> simp [-qt,-qd,-ql,rgs,h3,yW,yG,zO hnx]) | ((first | (with_reducible refine zA ?_ ?_)) <;> intro qb <;> (have qp:=qb;try simp only [psq] at qp) <;> simp [-qt,-qd,-ql,rgs,h3,yW,yG,zO hnx,qb])
theorem s_l14LetGo {w:Wld} {n er ca:Int} (ht:zB1 w.tree = true) (hs:vP w.spread w.tree = true):PC ctx.P 81 [.agg (wldV (fun _=>true) w),.int .i64 n,.int .i64 er,.int .i64 ca]
 (.tup [.agg (wldV (fun _=>true) (cutWS w ⟨n,er,ca,w.now⟩)),.bool (zG6 w ⟨n,er,ca,w.now⟩)]):=by
 by_cases h1:(zZ w.tree w.events && zZ w.tree (w.events ++ [⟨n,er,ca,w.now⟩])) = true
 ·by_cases h2:zE7 w.spread n = true
  ·have hc:zG6 w ⟨n,er,ca,w.now⟩ = true:=by simp only [zG6,h1,zJ3,h2,Bool.and_self]
   have e1:cutWS w ⟨n,er,ca,w.now⟩ = cutS w ⟨n,er,ca,w.now⟩:=by simp [cutWS,hc]
   have e2:begR w.spread n = ⟨w.spread.told,w.spread.work ++ [n]⟩:=by simp [begR,h2]
   have hb:=s_Begun (F:=fun i=>true) (p:=true) (t:=w.tree) (s:=w.spread) (n:=n) ht hs
   have hg:=s_LetGo (p:=true) (q:=true) (t:=w.tree) (l:=w.events) (e:=⟨n,er,ca,w.now⟩)
   simp only [Bool.and_eq_true] at h1
   rw [e2,h2] at hb
   simp only [if_pos h1.1,if_pos h1.2,h1.1,h1.2,Bool.and_self] at hg
   rw [hc,e1]
   refine PC.o okC Tryz.func81 rfl (.tup _ (by simp only [List.mem_cons,List.not_mem_nil,or_false];rintro c (rfl | rfl);exact wldV_fz _;exact .bool _)) fun h nx hnx => ?_
   try simp [-qt,-qd,-ql,rgs,wldV,zA0,yW,cutS,mkW]
   repeat' first | done | ((first | (refine zD (hb) ?_) | (refine zD (hg) ?_)) <;> simp [-qt,-qd,-ql,rgs,wldV,zA0,yW,cutS,mkW]) | ((first | (with_reducible refine zE ?_ ?_) | (with_reducible refine zA ?_ ?_)) <;> intro qb <;> (have qp:=qb;try simp only [psq] at qp) <;> simp [-qt,-qd,-ql,rgs,wldV,zA0,yW,cutS,mkW,qb])
  ·have h3:zE7 w.spread n = false:=by simpa using h2
   have hc:zG6 w ⟨n,er,ca,w.now⟩ = false:=by simp only [zG6,zJ3,h3,Bool.and_false]
   have e1:cutWS w ⟨n,er,ca,w.now⟩ = w:=by simp [cutWS,hc]
   have e2:begR w.spread n = w.spread:=by simp [begR,h3]
   have hb:=s_Begun (F:=fun i=>true) (p:=true) (t:=w.tree) (s:=w.spread) (n:=n) ht hs
   have hg:=s_LetGo (p:=true) (q:=true) (t:=w.tree) (l:=w.events) (e:=⟨n,er,ca,w.now⟩)
   simp only [Bool.and_eq_true] at h1
   rw [e2,h3] at hb
   simp only [if_pos h1.1,if_pos h1.2,h1.1,h1.2,Bool.and_self] at hg
   rw [hc,e1]
   refine PC.o okC Tryz.func81 rfl (.tup _ (by simp only [List.mem_cons,List.not_mem_nil,or_false];rintro c (rfl | rfl);exact wldV_fz _;exact .bool _)) fun h nx hnx => ?_
   try simp [-qt,-qd,-ql,rgs,wldV,zA0,yW]
   repeat' first | done | ((first | (refine zD (hb) ?_) | (refine zD (hg) ?_)) <;> simp [-qt,-qd,-ql,rgs,wldV,zA0,yW]) | ((first | (with_reducible refine zE ?_ ?_) | (with_reducible refine zA ?_ ?_)) <;> intro qb <;> (have qp:=qb;try simp only [psq] at qp) <;> simp [-qt,-qd,-ql,rgs,wldV,zA0,yW,qb])
 ·have h3:(zZ w.tree w.events && zZ w.tree (w.events ++ [⟨n,er,ca,w.now⟩])) = false:=by simpa using h1
  have hc:zG6 w ⟨n,er,ca,w.now⟩ = false:=by simp only [zG6,h3,Bool.false_and]
  have e1:cutWS w ⟨n,er,ca,w.now⟩ = w:=by simp [cutWS,hc]
  have hb:=s_Begun (F:=fun i=>true) (p:=true) (t:=w.tree) (s:=w.spread) (n:=n) ht hs
  have hg:=s_LetGo (p:=true) (q:=true) (t:=w.tree) (l:=w.events) (e:=⟨n,er,ca,w.now⟩)
  rw [h3] at hg
  rw [hc,e1]
  refine PC.o okC Tryz.func81 rfl (.tup _ (by simp only [List.mem_cons,List.not_mem_nil,or_false];rintro c (rfl | rfl);exact wldV_fz _;exact .bool _)) fun h nx hnx => ?_
  try simp [-qt,-qd,-ql,rgs,wldV,zA0,yW]
  repeat' first | done | ((first | (refine zD (hb) ?_) | (refine zD (hg) ?_)) <;> simp [-qt,-qd,-ql,rgs,wldV,zA0,yW]) | ((first | (with_reducible refine zE ?_ ?_) | (with_reducible refine zA ?_ ?_)) <;> intro qb <;> (have qp:=qb;try simp only [psq] at qp) <;> simp [-qt,-qd,-ql,rgs,wldV,zA0,yW,qb])
theorem zI8 {F:Nat → Bool} {w u:Wld} (hs:zD4 w ≤ 1048576):PC ctx.P 33 [.agg (wldV F w),.agg (wldV (fun _=>true) u)] (.tup [.agg (wldV (fun _=>true) (if zA8 u = true then u else w)),.bool (zA8 u)]):=by
 by_cases hw:zA8 u = true
 ·rw [if_pos hw,hw]
  refine PC.o okC Tryz.func33 rfl (.tup _ (by simp only [List.mem_cons,List.not_mem_nil,or_false];rintro c (rfl | rfl);exact wldV_fz _;exact .bool _)) fun h nx hnx => ?_
  try simp [-qt,-qd,-ql,rgs,hw,wldV]
  repeat' first | done | ((first | ((with_reducible show zG _ _ _ 30 _ _);refine zD (zC6 (w:=u) (F:=fun _=>true)) ?_)) <;> simp [-qt,-qd,-ql,rgs,hw,wldV]) | ((first | (with_reducible refine zA ?_ ?_)) <;> intro qb <;> (have qp:=qb;try simp only [psq] at qp) <;> simp [-qt,-qd,-ql,rgs,hw,wldV,qb])
 ·have h2:zA8 u = false:=by simpa using hw
  rw [if_neg hw,h2]
  refine PC.o okC Tryz.func33 rfl (.tup _ (by simp only [List.mem_cons,List.not_mem_nil,or_false];rintro c (rfl | rfl);exact wldV_fz _;exact .bool _)) fun h nx hnx => ?_
  try simp [-qt,-qd,-ql,rgs,h2,wldV]
  repeat' first | done | ((first | ((with_reducible show zG _ _ _ 30 _ _);refine zD (zC6 (w:=u) (F:=fun _=>true)) ?_) | ((with_reducible show zG _ _ _ 31 _ _);refine zD (s_l13Copy (w:=w) (F:=F) hs) ?_)) <;> simp [-qt,-qd,-ql,rgs,h2,wldV]) | ((first | (with_reducible refine zA ?_ ?_)) <;> intro qb <;> (have qp:=qb;try simp only [psq] at qp) <;> simp [-qt,-qd,-ql,rgs,h2,wldV,qb])
end Go.AE.Tryz
end
section
/- Contracts of the reference's request to let the first timer ring. -/
set_option maxRecDepth 8000
set_option maxHeartbeats 4000000
namespace Go.AE.Tryz
open Go.Proofs
open List renaming map_take → qt,map_drop → qd,map_tail → ql
theorem s_Shifted {p:Bool} {a:List Twg} (hk:zC9 a = true) (hl:a.length ≠ 0):PC ctx.P 162 [.view p 3 (a.map yD)] (.tup [.agg (yD ⟨(gt a 0).due,(gt a 0).seq,0⟩),.view true 3 ((wo a (gt a 0).seq).map yD),.bool true]):=by
 obtain ⟨h1,h2,h3⟩:=zK3.1 hk
 have ha0:0 < a.length:=by omega
 have pp:=zJ6 h3 ha0
 obtain ⟨o1,o2,o3,o4⟩:=once_part h2 ha0 (k:=(gt a 0).lefts.toNat)
 have sp:=zK0 ha0 (gt a 0).lefts.toNat
 have hx0:((a.length:Int) == 0) = false:=beq_eq_false_iff_ne.2 (by omega)
 have hwo:wo a (gt a 0).seq = mrg (a.tail.take (gt a 0).lefts.toNat) (a.drop ((gt a 0).lefts.toNat + 1)):=by
  unfold wo
  obtain ⟨n,hn⟩:=Nat.exists_eq_succ_of_ne_zero hl
  rw [hn]
  exact woN_1 ha0 rfl
 rw [hwo]
 have hlen:=congrArg List.length sp
 simp only [List.length_cons,List.length_append] at hlen
 have hpa:=zI1 (p:=p) (l:=a) ha0 pp.1 pp.2.1
 have hme:=s_l3Merge (p:=p) (q:=p) (a:=a.tail.take (gt a 0).lefts.toNat) (b:=a.drop ((gt a 0).lefts.toNat + 1)) (by omega) pp.2.2.1 pp.2.2.2.1 o3
 generalize a.tail.take (gt a 0).lefts.toNat = l at *
 generalize a.drop ((gt a 0).lefts.toNat + 1) = r at *
 generalize mrg l r = m at *
 have hg0:(a.map yD)[0]? = some (yD (gt a 0)):=by rw [List.getElem?_map,show (0:Nat) = (0:Int).toNat from rfl,zF6 (by omega) (by omega)];rfl
 refine PC.o okC Tryz.func162 rfl (.tup _ (by simp only [List.mem_cons,List.not_mem_nil,or_false];rintro c (rfl | rfl | rfl);exact .agg _ (yV _);exact .vmap yV;exact .bool _)) fun h nx hnx => ?_
 try simp [-qt,-qd,-ql,rgs,hk,hx0,yD,zO hnx]
 repeat' first | done | ((first | ((with_reducible show zT _ _ _ _ _ _);refine zB rfl fun _ => ?_) | ((with_reducible show zH _ _ _ _ _ _ _);refine zC rfl omA omA ?_) | ((with_reducible show zG _ _ _ 244 _ _);refine zD (s_HeapOk (l:=a)) ?_) | (refine zD (hpa) ?_) | (refine zD (hme) ?_) | (with_reducible refine zF (i:=4) [(0,[],[]),(1,[],[]),(2,[],[]),(3,[],[]),(4,[],[]),(5,[],[]),(6,[],[]),(7,[],[]),(8,[],[]),(9,[],[]),(10,[],[]),(11,[.tmp 26,.tmp 30],[]),(12,[],[]),(13,[],[]),(14,[],[])] (by kernel_rfl) ?_)) <;> simp [-qt,-qd,-ql,rgs,hk,hx0,yD,zO hnx]) | ((first | (with_reducible refine zE ?_ ?_) | (with_reducible refine zA ?_ ?_)) <;> intro qb <;> (have qp:=qb;try simp only [psq] at qp) <;> simp [-qt,-qd,-ql,rgs,hk,hx0,yD,zO hnx,qb])
theorem s_Fired {F:Nat → Bool} {t:Tms} {now:Int} (ht:vR t = true):PC ctx.P 79 [.agg (yN F t),.int .i64 now] (.tup [.agg (yN (fun _=>true) (uK t now)),.agg (zX (zJ1 t now)),.bool (zH2 t now)]):=by
 obtain ⟨-,t2,t3,-,-,-⟩:=zC7.1 ht
 have hk:zC9 t.heap = true:=zK3.2 t3
 have hz:∀ (u:Tms) (x:Tmr) (b:Bool),Fz (.tup [.agg (yN (fun _=>true) u),.agg (zX x),.bool b]):=fun u x b=>.tup _ (by simp only [List.mem_cons,List.not_mem_nil,or_false];rintro c (rfl | rfl | rfl);exact .agg _ (tmsV_fz _);exact .agg _ (zA3 _);exact .bool _)
 by_cases hl:t.heap.length = 0
 ·have hC:zH2 t now = false:=by simp [zH2,hl]
  have hT:uK t now = t:=by simp [uK,hC]
  have hR:zJ1 t now = default:=by simp [zJ1,hC]
  have hlp:((t.heap.length:Int) == 0) = true:=by rw [hl];rfl
  rw [hC,hT,hR,show (default:Tmr) = ⟨0,0,0,0,false⟩ from rfl]
  refine PC.o okC Tryz.func79 rfl (hz _ _ _) fun h nx hnx => ?_
  try simp [-qt,-qd,-ql,rgs,ht,hlp,yN,zX,zO hnx]
  repeat' first | done | ((first | ((with_reducible show zT _ _ _ _ _ _);refine zB rfl fun _ => ?_) | ((with_reducible show zH _ _ _ _ _ _ _);refine zC rfl omA omA ?_) | ((with_reducible show zG _ _ _ 160 _ _);refine zD (zH3 (t:=t) (F:=F)) ?_) | ((with_reducible show zG _ _ _ 107 _ _);refine yB (zQ9 (F:=F) (s:=t) (by omega) (by omega)) ?_) | (with_reducible refine zF (i:=6) [(0,[],[]),(1,[],[]),(2,[],[]),(3,[],[]),(4,[],[]),(5,[],[]),(6,[],[]),(7,[],[])] (by kernel_rfl) ?_) | (with_reducible refine zF (i:=9) [(0,[],[]),(1,[],[]),(2,[],[]),(3,[],[]),(4,[],[]),(5,[],[]),(6,[.tmp 53,.tmp 56],[]),(7,[],[]),(8,[],[])] (by kernel_rfl) ?_)) <;> simp [-qt,-qd,-ql,rgs,ht,hlp,yN,zX,zO hnx]) | ((first | (with_reducible refine zE ?_ ?_) | (with_reducible refine zA ?_ ?_)) <;> intro qb <;> (have qp:=qb;try simp only [psq] at qp) <;> simp [-qt,-qd,-ql,rgs,ht,hlp,yN,zX,zO hnx,qb])
 ·have hlp:((t.heap.length:Int) == 0) = false:=beq_eq_false_iff_ne.2 (by omega)
  obtain ⟨f1,f2,f3⟩:=fire_at ht hl
  have hlt:=zB4 t.list (gt t.heap 0).seq
  have hsh:=s_Shifted (p:=F 6) hk hl
  have hg:(t.list.map zX)[(yM t.list (gt t.heap 0).seq).toNat]? = some (zX (gt t.list (yM t.list (gt t.heap 0).seq))):=by rw [List.getElem?_map,zF6 f1 hlt,Option.map_some]
  by_cases hd:isDue now (gt t.heap 0).due = true
  ·have hC:zH2 t now = true:=by simp [zH2,hl,hd]
   have hT:uK t now = uE t (gt t.heap 0).seq:=by simp [uK,hC]
   have hR:zJ1 t now = vI t:=by simp [zJ1,hC]
   have hS:uE t (gt t.heap 0).seq = ⟨wo t.heap (gt t.heap 0).seq,t.list.set (yM t.list (gt t.heap 0).seq).toNat (offT (gt t.list (yM t.list (gt t.heap 0).seq))),t.next⟩:=by unfold uE;rw [if_pos f2]
   have hll:(t.list.set (yM t.list (gt t.heap 0).seq).toNat (offT (gt t.list (yM t.list (gt t.heap 0).seq)))).length = t.list.length:=by simp
   rw [hC,hT,hR,hS]
   generalize hls:t.list.set (yM t.list (gt t.heap 0).seq).toNat (offT (gt t.list (yM t.list (gt t.heap 0).seq))) = lst at *
   refine PC.o okC Tryz.func79 rfl (hz _ _ _) fun h nx hnx => ?_
   try simp [-qt,-qd,-ql,rgs,ht,hlp,hd,yN,zO hnx]
   repeat' first | done | ((first | ((with_reducible show zT _ _ _ _ _ _);refine zB rfl fun _ => ?_) | ((with_reducible show zH _ _ _ _ _ _ _);refine zC rfl omA omA ?_) | ((with_reducible show zG _ _ _ 160 _ _);refine zD (zH3 (t:=t) (F:=F)) ?_) | ((with_reducible show zG _ _ _ 107 _ _);refine yB (zQ9 (F:=F) (s:=t) (by omega) (by omega)) ?_) | ((with_reducible show zG _ _ _ 114 _ _);refine zD (s_IsDue) ?_) | ((with_reducible show zG _ _ _ 161 _ _);refine zD (s_l4At (t:=t) (F:=F)) ?_) | (((with_reducible show zH _ _ _ _ (.ref _ _ _ _) _ _);refine yK rfl (by omega) (by omega) ?_)) | (with_reducible refine zF (i:=6) [(0,[],[]),(1,[],[]),(2,[],[]),(3,[],[]),(4,[],[]),(5,[],[]),(6,[],[]),(7,[],[])] (by kernel_rfl) ?_) | (with_reducible refine zF (i:=9) [(0,[],[]),(1,[],[]),(2,[],[]),(3,[],[]),(4,[],[]),(5,[],[]),(6,[.tmp 53,.tmp 56],[]),(7,[],[]),(8,[],[])] (by kernel_rfl) ?_)) <;> simp [-qt,-qd,-ql,rgs,ht,hlp,hd,yN,zO hnx]) | ((first | (with_reducible refine zE ?_ ?_) | (with_reducible refine zA ?_ ?_)) <;> intro qb <;> (have qp:=qb;try simp only [psq] at qp) <;> simp [-qt,-qd,-ql,rgs,ht,hlp,hd,yN,zO hnx,qb])
   refine storeE_at (sz:=5) (xs:=t.list.map zX) (cells:=zX (gt t.list (yM t.list (gt t.heap 0).seq))) (by simp) (by simp) rfl (by decide) hg ?_
   rw [show splice (zX (gt t.list (yM t.list (gt t.heap 0).seq))) 4 [.bool false] = zX (offT (gt t.list (yM t.list (gt t.heap 0).seq))) from rfl,← List.map_set,hls]
   try simp [-qt,-qd,-ql,rgs,ht,hlp,hd,yN,zX,zF9 hll,hll,zO hnx]
   repeat' first | done | ((first | ((with_reducible show zT _ _ _ _ _ _);refine zB rfl fun _ => ?_) | ((with_reducible show zH _ _ _ _ _ _ _);refine zC rfl omA omA ?_) | (refine zD (hsh) ?_) | (with_reducible refine zF (i:=6) [(0,[],[]),(1,[],[]),(2,[],[]),(3,[],[]),(4,[],[]),(5,[],[]),(6,[],[]),(7,[],[])] (by kernel_rfl) ?_) | (with_reducible refine zF (i:=9) [(0,[],[]),(1,[],[]),(2,[],[]),(3,[],[]),(4,[],[]),(5,[],[]),(6,[.tmp 53,.tmp 56],[]),(7,[],[]),(8,[],[])] (by kernel_rfl) ?_)) <;> simp [-qt,-qd,-ql,rgs,ht,hlp,hd,yN,zX,zF9 hll,hll,zO hnx]) | ((first | (with_reducible refine zE ?_ ?_) | (with_reducible refine zA ?_ ?_)) <;> intro qb <;> (have qp:=qb;try simp only [psq] at qp) <;> simp [-qt,-qd,-ql,rgs,ht,hlp,hd,yN,zX,zF9 hll,hll,zO hnx,qb])
   trivial
  ·have hdf:isDue now (gt t.heap 0).due = false:=by simpa using hd
   have hC:zH2 t now = false:=by simp [zH2,hdf]
   have hT:uK t now = t:=by simp [uK,hC]
   have hR:zJ1 t now = default:=by simp [zJ1,hC]
   rw [hC,hT,hR,show (default:Tmr) = ⟨0,0,0,0,false⟩ from rfl]
   refine PC.o okC Tryz.func79 rfl (hz _ _ _) fun h nx hnx => ?_
   try simp [-qt,-qd,-ql,rgs,ht,hlp,hdf,yN,zX,zO hnx]
   repeat' first | done | ((first | ((with_reducible show zT _ _ _ _ _ _);refine zB rfl fun _ => ?_) | ((with_reducible show zH _ _ _ _ _ _ _);refine zC rfl omA omA ?_) | ((with_reducible show zG _ _ _ 160 _ _);refine zD (zH3 (t:=t) (F:=F)) ?_) | ((with_reducible show zG _ _ _ 107 _ _);refine yB (zQ9 (F:=F) (s:=t) (by omega) (by omega)) ?_) | ((with_reducible show zG _ _ _ 114 _ _);refine zD (s_IsDue) ?_) | (with_reducible refine zF (i:=6) [(0,[],[]),(1,[],[]),(2,[],[]),(3,[],[]),(4,[],[]),(5,[],[]),(6,[],[]),(7,[],[])] (by kernel_rfl) ?_) | (with_reducible refine zF (i:=9) [(0,[],[]),(1,[],[]),(2,[],[]),(3,[],[]),(4,[],[]),(5,[],[]),(6,[.tmp 53,.tmp 56],[]),(7,[],[]),(8,[],[])] (by kernel_rfl) ?_)) <;> simp [-qt,-qd,-ql,rgs,ht,hlp,hdf,yN,zX,zO hnx]) | ((first | (with_reducible refine zE ?_ ?_) | (with_reducible refine zA ?_ ?_)) <;> intro qb <;> (have qp:=qb;try simp only [psq] at qp) <;> simp [-qt,-qd,-ql,rgs,ht,hlp,hdf,yN,zX,zO hnx,qb])
theorem s_Forgotten {F:Nat → Bool} {t:Tms} {s:Int} (ht:vR t = true) (h0:0 ≤ yM t.list s):PC ctx.P 80 [.agg (yN F t),.int .i64 s] (.tup [.agg (yN (fun _=>true) (uC t s)),.bool true]):=by
 obtain ⟨-,t2,t3,-,-,-⟩:=zC7.1 ht
 have hst:=f_Stopped (F:=F) (t:=t) (s:=s) ht h0
 have hsq:=stopT_seq h0 s
 have hsl:=stopT_len (t:=t) (s:=s)
 have hsn:(uE t s).next = t.next:=stopT_next
 have hl:=zB4 t.list s
 obtain ⟨i,hi⟩:∃ i:Nat,yM t.list s = (i:Int):=⟨(yM t.list s).toNat,by omega⟩
 have hF:uC t s = ⟨(uE t s).heap,(uE t s).list.take i ++ (uE t s).list.drop (i + 1),(uE t s).next⟩:=by
  unfold uC dropT
  rw [hsq,if_pos h0,hi,List.eraseIdx_eq_take_drop_succ];rfl
 have hcat:=s_l4At (t:=t) (F:=F) (s:=s)
 rw [hi] at hcat hl h0
 obtain ⟨L,hL⟩:∃ L,L = (uE t s).list.take i ++ (uE t s).list.drop (i + 1):=⟨_,rfl⟩
 rw [hF,← hL]
 clear hF hi hsq
 generalize uE t s = u at *
 generalize zG7 t s = b at *
 rw [← hsl] at hst hl
 have hi1:(i ≤ u.list.length) = True:=by simp only [eq_iff_iff,iff_true];omega
 have hi2:(i + 1 + (u.list.length - (i + 1)) ≤ u.list.length) = True:=by simp only [eq_iff_iff,iff_true];omega
 have hn:((i:Int) < 0) = False:=by simp only [eq_iff_iff,iff_false];omega
 have ew:IntKind.i64.wrap ((i:Int) + 1) = (i:Int) + 1:=zI (by omega)
 refine PC.o okC Tryz.func80 rfl (.tup _ (by simp only [List.mem_cons,List.not_mem_nil,or_false];rintro c (rfl | rfl);exact .agg _ (tmsV_fz _);exact .bool _)) fun h nx hnx => ?_
 try simp [-qt,-qd,-ql,rgs,ht,yN,zO hnx]
 repeat' first | done | ((first | ((with_reducible show yC _ _ _ _ _ _ _ _);refine vF rfl omA omA ?_) | ((with_reducible show yC _ _ _ _ _ _ _ _);refine yS rfl omA omA ?_) | ((with_reducible show yC _ _ _ _ _ _ _ _);refine vA rfl omA omA omA ?_) | ((with_reducible show yI _ _ _ _ _ _ _ _ _ _ _);refine vD rfl omA omA ?_) | ((with_reducible show yI _ _ _ _ _ _ _ _ _ _ _);refine yP rfl omA omA ?_) | ((with_reducible show yI _ _ _ _ _ _ _ _ _ _ _);refine yX rfl omA omA omA ?_) | ((with_reducible show zG _ _ _ 160 _ _);refine zD (zH3 (t:=t) (F:=F)) ?_) | ((with_reducible show vS _ _ _ _ _ _ _ _);refine zP rfl rfl (by decide) (by decide) (by first | (simp [-qt,-qd,-ql,rgs,ht,yN,zO hnx];done) | (simp [-qt,-qd,-ql,rgs,ht,yN,zO hnx];rfl)) (by first | (simp [-qt,-qd,-ql,rgs,ht,yN,zO hnx];done) | (simp [-qt,-qd,-ql,rgs,ht,yN,zO hnx];rfl)) (by first | (simp;done) | (simp;omega)) (by first | (simp only [zW,LIM] at *; simp;omega) | (simp only [zW];simp;omega)) (by simp [iv,bv]) ?_) | (with_reducible refine zF (i:=7) [(1,[],[]),(2,[],[0]),(3,[],[]),(4,[],[]),(6,[],[]),(7,[],[0]),(8,[],[]),(9,[],[]),(10,[],[]),(0,[],[]),(5,[.tmp 31],[]),(11,[],[]),(12,[],[]),(13,[],[])] (by kernel_rfl) ?_)) <;> simp [-qt,-qd,-ql,rgs,ht,yN,zO hnx]) | ((first | (with_reducible refine zA ?_ ?_)) <;> intro qb <;> (have qp:=qb;try simp only [psq] at qp) <;> simp [-qt,-qd,-ql,rgs,ht,yN,zO hnx,qb])
 refine yB hst ?_
 try simp [-qt,-qd,-ql,rgs,hn,ew,yN,zX,zO hnx]
 repeat' first | done | ((first | ((with_reducible show yC _ _ _ _ _ _ _ _);refine vF rfl omA omA ?_) | ((with_reducible show yC _ _ _ _ _ _ _ _);refine yS rfl omA omA ?_) | ((with_reducible show yC _ _ _ _ _ _ _ _);refine vA rfl omA omA omA ?_) | ((with_reducible show yI _ _ _ _ _ _ _ _ _ _ _);refine vD rfl omA omA ?_) | ((with_reducible show yI _ _ _ _ _ _ _ _ _ _ _);refine yP rfl omA omA ?_) | ((with_reducible show yI _ _ _ _ _ _ _ _ _ _ _);refine yX rfl omA omA omA ?_) | (refine zD (hcat) ?_) | ((with_reducible show vS _ _ _ _ _ _ _ _);refine zP rfl rfl (by decide) (by decide) (by first | (simp [-qt,-qd,-ql,rgs,hn,ew,yN,zX,zO hnx];done) | (simp [-qt,-qd,-ql,rgs,hn,ew,yN,zX,zO hnx];rfl)) (by first | (simp [-qt,-qd,-ql,rgs,hn,ew,yN,zX,zO hnx];done) | (simp [-qt,-qd,-ql,rgs,hn,ew,yN,zX,zO hnx];rfl)) (by first | (simp;done) | (simp;omega)) (by first | (simp only [zW,LIM] at *; simp;omega) | (simp only [zW];simp;omega)) (by simp [iv,bv]) ?_) | (with_reducible refine zF (i:=7) [(1,[],[]),(2,[],[0]),(3,[],[]),(4,[],[]),(6,[],[]),(7,[],[0]),(8,[],[]),(9,[],[]),(10,[],[]),(0,[],[]),(5,[.tmp 31],[]),(11,[],[]),(12,[],[]),(13,[],[])] (by kernel_rfl) ?_)) <;> simp [-qt,-qd,-ql,rgs,hn,ew,yN,zX,zO hnx]) | ((first | (with_reducible refine zA ?_ ?_)) <;> intro qb <;> (have qp:=qb;try simp only [psq] at qp) <;> simp [-qt,-qd,-ql,rgs,hn,ew,yN,zX,zO hnx,qb])
 refine zO4 (l:=0) (h:=i) rfl (by simp [zJ5]) (by simp [zJ5]) (by omega) (by omega) ?_
 try simp [-qt,-qd,-ql,rgs,hn,ew,hi1,hi2,yN,zO hnx]
 repeat' first | done | ((first | ((with_reducible show yC _ _ _ _ _ _ _ _);refine vF rfl omA omA ?_) | ((with_reducible show yC _ _ _ _ _ _ _ _);refine yS rfl omA omA ?_) | ((with_reducible show yC _ _ _ _ _ _ _ _);refine vA rfl omA omA omA ?_) | ((with_reducible show yI _ _ _ _ _ _ _ _ _ _ _);refine vD rfl omA omA ?_) | ((with_reducible show yI _ _ _ _ _ _ _ _ _ _ _);refine yP rfl omA omA ?_) | ((with_reducible show yI _ _ _ _ _ _ _ _ _ _ _);refine yX rfl omA omA omA ?_) | ((with_reducible show vS _ _ _ _ _ _ _ _);refine zP rfl rfl (by decide) (by decide) (by first | (simp [-qt,-qd,-ql,rgs,hn,ew,hi1,hi2,yN,zO hnx];done) | (simp [-qt,-qd,-ql,rgs,hn,ew,hi1,hi2,yN,zO hnx];rfl)) (by first | (simp [-qt,-qd,-ql,rgs,hn,ew,hi1,hi2,yN,zO hnx];done) | (simp [-qt,-qd,-ql,rgs,hn,ew,hi1,hi2,yN,zO hnx];rfl)) (by first | (simp;done) | (simp;omega)) (by first | (simp only [zW,LIM] at *; simp;omega) | (simp only [zW];simp;omega)) (by simp [iv,bv]) ?_) | (with_reducible refine zF (i:=7) [(1,[],[]),(2,[],[0]),(3,[],[]),(4,[],[]),(6,[],[]),(7,[],[0]),(8,[],[]),(9,[],[]),(10,[],[]),(0,[],[]),(5,[.tmp 31],[]),(11,[],[]),(12,[],[]),(13,[],[])] (by kernel_rfl) ?_)) <;> simp [-qt,-qd,-ql,rgs,hn,ew,hi1,hi2,yN,zO hnx]) | ((first | (with_reducible refine zA ?_ ?_)) <;> intro qb <;> (have qp:=qb;try simp only [psq] at qp) <;> simp [-qt,-qd,-ql,rgs,hn,ew,hi1,hi2,yN,zO hnx,qb])
 refine zO4 (l:=i + 1) (h:=u.list.length) rfl (by simp [zJ5];omega) (by simp [zJ5]) (by omega) (by omega) ?_
 try simp [-qt,-qd,-ql,rgs,hn,ew,hi1,hi2,yN,zO hnx]
 repeat' first | done | ((first | ((with_reducible show yC _ _ _ _ _ _ _ _);refine vF rfl omA omA ?_) | ((with_reducible show yC _ _ _ _ _ _ _ _);refine yS rfl omA omA ?_) | ((with_reducible show yC _ _ _ _ _ _ _ _);refine vA rfl omA omA omA ?_) | ((with_reducible show yI _ _ _ _ _ _ _ _ _ _ _);refine vD rfl omA omA ?_) | ((with_reducible show yI _ _ _ _ _ _ _ _ _ _ _);refine yP rfl omA omA ?_) | ((with_reducible show yI _ _ _ _ _ _ _ _ _ _ _);refine yX rfl omA omA omA ?_) | ((with_reducible show vS _ _ _ _ _ _ _ _);refine zP rfl rfl (by decide) (by decide) (by first | (simp [-qt,-qd,-ql,rgs,hn,ew,hi1,hi2,yN,zO hnx];done) | (simp [-qt,-qd,-ql,rgs,hn,ew,hi1,hi2,yN,zO hnx];rfl)) (by first | (simp [-qt,-qd,-ql,rgs,hn,ew,hi1,hi2,yN,zO hnx];done) | (simp [-qt,-qd,-ql,rgs,hn,ew,hi1,hi2,yN,zO hnx];rfl)) (by first | (simp;done) | (simp;omega)) (by first | (simp only [zW,LIM] at *; simp;omega) | (simp only [zW];simp;omega)) (by simp [iv,bv]) ?_) | (with_reducible refine zF (i:=7) [(1,[],[]),(2,[],[0]),(3,[],[]),(4,[],[]),(6,[],[]),(7,[],[0]),(8,[],[]),(9,[],[]),(10,[],[]),(0,[],[]),(5,[.tmp 31],[]),(11,[],[]),(12,[],[]),(13,[],[])] (by kernel_rfl) ?_)) <;> simp [-qt,-qd,-ql,rgs,hn,ew,hi1,hi2,yN,zO hnx]) | ((first | (with_reducible refine zA ?_ ?_)) <;> intro qb <;> (have qp:=qb;try simp only [psq] at qp) <;> simp [-qt,-qd,-ql,rgs,hn,ew,hi1,hi2,yN,zO hnx,qb])
 refine app_mid (ws:=(u.list.map zX).take i) (ys:=(u.list.map zX).drop (i + 1)) rfl rfl (by decide) (by decide) ?r1 ?r2 ?r3 ?r4 ?r5 ?_
 case r1=>simp
 case r2 =>
  simp [-qd]
  exact ⟨by omega,List.take_of_length_le (by simp)⟩
 case r3=>simp;omega
 case r4=>simp only [zW];simp;omega
 case r5 =>
  simp only [List.all_eq_true]
  intro c hc x hx
  obtain ⟨y,_,rfl⟩:=List.mem_map.1 (List.mem_of_mem_drop hc)
  exact tmr_one y x hx
 have hr:List.take i (List.drop 0 (List.take i (List.map zX u.list))) ++ List.drop (i + 1) (List.map zX u.list) ++ List.drop (0 + i + (List.drop (i + 1) (List.map zX u.list)).length) (List.take i (List.map zX u.list)) = L.map zX:=by
  have h9:List.drop (0 + i + (List.drop (i + 1) (List.map zX u.list)).length) (List.take i (List.map zX u.list)) = []:=List.drop_eq_nil_of_le (by simp;omega)
  rw [h9,hL]
  simp [List.map_take,List.map_drop,List.take_take]
 have hlen:i + (List.drop (i + 1) (List.map zX u.list)).length = L.length:=by rw [hL];simp;omega
 rw [hr,hlen]
 try simp [-qt,-qd,-ql,rgs,yN,zO hnx]
 repeat' first | done | ((first | ((with_reducible show yC _ _ _ _ _ _ _ _);refine vF rfl omA omA ?_) | ((with_reducible show yC _ _ _ _ _ _ _ _);refine yS rfl omA omA ?_) | ((with_reducible show yC _ _ _ _ _ _ _ _);refine vA rfl omA omA omA ?_) | ((with_reducible show yI _ _ _ _ _ _ _ _ _ _ _);refine vD rfl omA omA ?_) | ((with_reducible show yI _ _ _ _ _ _ _ _ _ _ _);refine yP rfl omA omA ?_) | ((with_reducible show yI _ _ _ _ _ _ _ _ _ _ _);refine yX rfl omA omA omA ?_) | ((with_reducible show vS _ _ _ _ _ _ _ _);refine zP rfl rfl (by decide) (by decide) (by first | (simp [-qt,-qd,-ql,rgs,yN,zO hnx];done) | (simp [-qt,-qd,-ql,rgs,yN,zO hnx];rfl)) (by first | (simp [-qt,-qd,-ql,rgs,yN,zO hnx];done) | (simp [-qt,-qd,-ql,rgs,yN,zO hnx];rfl)) (by first | (simp;done) | (simp;omega)) (by first | (simp only [zW,LIM] at *; simp;omega) | (simp only [zW];simp;omega)) (by simp [iv,bv]) ?_) | (with_reducible refine zF (i:=7) [(1,[],[]),(2,[],[0]),(3,[],[]),(4,[],[]),(6,[],[]),(7,[],[0]),(8,[],[]),(9,[],[]),(10,[],[]),(0,[],[]),(5,[.tmp 31],[]),(11,[],[]),(12,[],[]),(13,[],[])] (by kernel_rfl) ?_)) <;> simp [-qt,-qd,-ql,rgs,yN,zO hnx]) | ((first | (with_reducible refine zA ?_ ?_)) <;> intro qb <;> (have qp:=qb;try simp only [psq] at qp) <;> simp [-qt,-qd,-ql,rgs,yN,zO hnx,qb])
 exact hsn.symm
theorem s_l10Free {k:Tsk} {st:Int}:PC ctx.P 166 [.agg (yR k),.int .i64 st] (.agg (yR ⟨k.prog,k.pc,st,0,0,-1,k.reg,k.group,k.err⟩)):=by
 refine PC.o okC Tryz.func166 rfl (.agg _ (zG4 _)) fun h nx hnx => ?_
 try simp [-qt,-qd,-ql,rgs,yR]
theorem s_l10Either {k x:Tsk}:PC ctx.P 167 [.agg (yR k),.agg (yR x)] (.agg (yR (if zD2 x = true then x else k))):=by
 refine PC.o okC Tryz.func167 rfl (.agg _ (zG4 _)) fun h nx hnx => ?_
 by_cases h:zD2 x = true
 ·rw [if_pos h]
  try simp [-qt,-qd,-ql,rgs,h,yR]
  repeat' first | done | ((first | ((with_reducible show zG _ _ _ 165 _ _);refine zD (zO0 (t:=x)) ?_)) <;> simp [-qt,-qd,-ql,rgs,h,yR]) | ((first | (with_reducible refine zA ?_ ?_)) <;> intro qb <;> (have qp:=qb;try simp only [psq] at qp) <;> simp [-qt,-qd,-ql,rgs,h,yR,qb])
 ·have hf:zD2 x = false:=by simpa using h
  rw [if_neg h]
  try simp [-qt,-qd,-ql,rgs,hf,yR]
  repeat' first | done | ((first | ((with_reducible show zG _ _ _ 165 _ _);refine zD (zO0 (t:=x)) ?_)) <;> simp [-qt,-qd,-ql,rgs,hf,yR]) | ((first | (with_reducible refine zA ?_ ?_)) <;> intro qb <;> (have qp:=qb;try simp only [psq] at qp) <;> simp [-qt,-qd,-ql,rgs,hf,yR,qb])
theorem s_Readied {k:Tsk} {reg:Int} (hpc:zD2 k = true → -9223372036854775808 ≤ k.pc ∧ k.pc < 9223372036854775807):PC ctx.P 82 [.agg (yR k),.int .i64 reg] (.agg (yR (uY k reg))):=by
 refine PC.o okC Tryz.func82 rfl (.agg _ (zG4 _)) fun h nx hnx => ?_
 by_cases hk:zD2 k = true
 ·have ew:IntKind.i64.wrap (k.pc + 1) = k.pc + 1:=zI (by have:=hpc hk;omega)
  by_cases hs:k.state = 2
  ·have e:uY k reg = k:=by simp [uY,hk,hs]
   have hsb:(k.state == 2) = true:=by simpa using hs
   rw [e]
   try simp [-qt,-qd,-ql,rgs,hk,hsb,yR]
   repeat' first | done | ((first | ((with_reducible show zG _ _ _ 165 _ _);refine zD (zO0 (t:=k)) ?_)) <;> simp [-qt,-qd,-ql,rgs,hk,hsb,yR]) | ((first | (with_reducible refine zA ?_ ?_)) <;> intro qb <;> (have qp:=qb;try simp only [psq] at qp) <;> simp [-qt,-qd,-ql,rgs,hk,hsb,yR,qb])
  ·have hsb:(k.state == 2) = false:=by simpa using hs
   have e:uY k reg = if zD2 (zJ2 k reg) = true then zJ2 k reg else k:=by unfold uY;rw [if_pos hk];simp only [ne_eq,hs,not_false_eq_true,true_and]
   have hei:=s_l10Either (k:=k) (x:=zJ2 k reg)
   have hfr:=s_l10Free (k:=k) (st:=0)
   rw [e]
   generalize (if zD2 (zJ2 k reg) = true then zJ2 k reg else k) = y at *
   try simp [-qt,-qd,-ql,rgs,hk,hsb,ew,yR,zJ2]
   repeat' first | done | ((first | ((with_reducible show zG _ _ _ 165 _ _);refine zD (zO0 (t:=k)) ?_) | (refine zD (hfr) ?_) | (refine zD (hei) ?_)) <;> simp [-qt,-qd,-ql,rgs,hk,hsb,ew,yR,zJ2]) | ((first | (with_reducible refine zA ?_ ?_)) <;> intro qb <;> (have qp:=qb;try simp only [psq] at qp) <;> simp [-qt,-qd,-ql,rgs,hk,hsb,ew,yR,zJ2,qb])
 ·have hkf:zD2 k = false:=by simpa using hk
  have e:uY k reg = default:=by simp [uY,hkf]
  rw [e]
  try simp [-qt,-qd,-ql,rgs,hkf,yR]
  repeat' first | done | ((first | ((with_reducible show zG _ _ _ 165 _ _);refine zD (zO0 (t:=k)) ?_)) <;> simp [-qt,-qd,-ql,rgs,hkf,yR]) | ((first | (with_reducible refine zA ?_ ?_)) <;> intro qb <;> (have qp:=qb;try simp only [psq] at qp) <;> simp [-qt,-qd,-ql,rgs,hkf,yR,qb])
  trivial
theorem s_DrainIn {F:Nat → Bool} {w:Wld} (hs:zD4 w ≤ 1048576):PC ctx.P 16 [.agg (wldV F w)] (.tup [.agg (wldV (fun _=>true) (zR4 w)),.bool (ringB w)]):=by
 have hz:∀ (u:Wld) (b:Bool),Fz (.tup [.agg (wldV (fun _=>true) u),.bool b]):=fun u b=>.tup _ (by simp only [List.mem_cons,List.not_mem_nil,or_false];rintro c (rfl | rfl);exact wldV_fz _;exact .bool _)
 by_cases hw:zA8 w = true
 ·have he:=wldOk_ev hw
  have ht:=zB3 he
  have hsp:vP w.spread w.tree = true:=(zH8 hw).2.2.2.2.1
  have htm:vR w.timers = true:=(zH8 hw).2.2.2.2.2.2.1
  have htl:w.timers.list.all (uA w) = true:=(zH8 hw).2.2.2.2.2.2.2.1
  have hrl:w.rang.length ≤ 2000:=by have h':=hw;simp only [zA8,Bool.and_eq_true,decide_eq_true_eq] at h';exact h'.2.2.2.2.2.2.2.2.2.2.2.2.2.2.2.2.1
  have hf:=s_Fired (F:=F) (t:=w.timers) (now:=w.now) htm
  have hl13:=s_l13Copy (w:=w) (F:=F) hs
  have hT1:=fireT_ok (now:=w.now) htm
  by_cases hC:zH2 w.timers w.now = true
  ·have hl:w.timers.heap.length ≠ 0:=by intro e;simp [zH2,e] at hC
   obtain ⟨f1,f2,f3⟩:=fire_at htm hl
   have hlt:=zB4 w.timers.list (gt w.timers.heap 0).seq
   have hit:uA w (vI w.timers) = true:=List.all_eq_true.1 htl _ (zD0 f1 hlt)
   have hR:zJ1 w.timers w.now = vI w.timers:=by simp [zJ1,hC]
   have hTT:uK w.timers w.now = uE w.timers (gt w.timers.heap 0).seq:=by simp [uK,hC]
   have hat:0 ≤ yM (uK w.timers w.now).list (vI w.timers).seq:=by rw [hTT,f3,stopT_seq f1];exact f1
   have hfo:=s_Forgotten (F:=fun _=>true) (t:=uK w.timers w.now) (s:=(vI w.timers).seq) hT1 hat
   obtain ⟨r1,r2⟩:=ring_ask hw hC
   rw [hR,hC] at hf
   rw [r1,r2]
   by_cases h0:(vI w.timers).what = 0
   ·have hb0:((vI w.timers).what == 0) = true:=by simpa using h0
    have hW:zE2 w = cutWS (zQ0 w (uC (uK w.timers w.now) (vI w.timers).seq)) ⟨(vI w.timers).whom,2,0,w.now⟩:=by
     rw [← (cut_same (w:=zQ0 w (uC (uK w.timers w.now) (vI w.timers).seq)) he).2]
     unfold zE2;rw [if_pos hC,if_pos h0];rfl
    have hlg:=s_l14LetGo (w:=zQ0 w (uC (uK w.timers w.now) (vI w.timers).seq)) (n:=(vI w.timers).whom) (er:=2) (ca:=0) ht hsp
    rw [show (zQ0 w (uC (uK w.timers w.now) (vI w.timers).seq)).now = w.now from rfl] at hlg
    rw [hW]
    generalize cutWS (zQ0 w (uC (uK w.timers w.now) (vI w.timers).seq)) ⟨(vI w.timers).whom,2,0,w.now⟩ = W at *
    generalize zG6 (zQ0 w (uC (uK w.timers w.now) (vI w.timers).seq)) ⟨(vI w.timers).whom,2,0,w.now⟩ = cb at *
    generalize uC (uK w.timers w.now) (vI w.timers).seq = T at *
    generalize vI w.timers = x at *
    generalize uK w.timers w.now = t1 at *
    have hE:=zI8 (w:=w) (u:=W) (F:=F) hs
    generalize (if zA8 W = true then W else w) = V at *
    generalize zA8 W = vb at *
    refine PC.o okC Tryz.func16 rfl (hz _ _) fun h nx hnx => ?_
    try simp [-qt,-qd,-ql,rgs,hw,hb0,wldV,yN,zX]
    repeat' first | done | ((first | ((with_reducible show zT _ _ _ _ _ _);refine zB rfl fun _ => ?_) | ((with_reducible show zH _ _ _ _ _ _ _);refine zC rfl omA omA ?_) | ((with_reducible show zG _ _ _ 30 _ _);refine zD (zC6 (w:=w) (F:=F)) ?_) | (refine zD (hl13) ?_) | (refine zD (hf) ?_) | (refine zD (hfo) ?_) | (refine zD (hlg) ?_) | (refine zD (hE) ?_) | ((with_reducible show vS _ _ _ _ _ _ _ _);refine zP rfl rfl (by decide) (by decide) (by first | (simp [-qt,-qd,-ql,rgs,hw,hb0,wldV,yN,zX];done) | (simp [-qt,-qd,-ql,rgs,hw,hb0,wldV,yN,zX];rfl)) (by first | (simp [-qt,-qd,-ql,rgs,hw,hb0,wldV,yN,zX];done) | (simp [-qt,-qd,-ql,rgs,hw,hb0,wldV,yN,zX];rfl)) (by first | (simp;done) | (simp;omega)) (by first | (simp only [zW,LIM] at *; simp;omega) | (simp only [zW];simp;omega)) (by simp [iv,bv]) ?_) | (with_reducible refine zF (i:=16) [(0,[],[]),(1,[],[]),(2,[],[]),(3,[],[]),(4,[],[]),(5,[.tmp 74,.tmp 76],[]),(6,[],[]),(7,[],[])] (by kernel_rfl) ?_)) <;> simp [-qt,-qd,-ql,rgs,hw,hb0,wldV,yN,zX]) | ((first | (with_reducible refine zE ?_ ?_) | (with_reducible refine zA ?_ ?_)) <;> intro qb <;> (have qp:=qb;try simp only [psq] at qp) <;> simp [-qt,-qd,-ql,rgs,hw,hb0,wldV,yN,zX,qb])
   ·have hb0:((vI w.timers).what == 0) = false:=by simpa using h0
    by_cases h1w:(vI w.timers).what = 1
    ·have hb1:((vI w.timers).what == 1) = true:=by simpa using h1w
     have hwh:vX (vI w.timers).whom w.tasks = true:=by simpa [uA,h1w] using hit
     simp only [zL3] at hwh
     have hW:zE2 w = zP7 w (uC (uK w.timers w.now) (vI w.timers).seq) (if wakes w (vI w.timers) = true then w.tasks.set (vI w.timers).whom.toNat (uY (gt w.tasks (vI w.timers).whom) 1) else w.tasks) w.rang:=by unfold zE2;rw [if_pos hC,if_neg h0,if_pos h1w]
     rw [hW]
     generalize uC (uK w.timers w.now) (vI w.timers).seq = T at *
     generalize vI w.timers = x at *
     generalize uK w.timers w.now = t1 at *
     clear hW r1 r2 hit hR hTT hat f3
     by_cases hwk:wakes w x = true
     ·rw [if_pos hwk]
      simp only [wakes,Bool.and_eq_true] at hwk
      have hrd:=s_Readied (k:=gt w.tasks x.whom) (reg:=1) (fun h=>by simp only [zD2,Bool.and_eq_true,uT] at h;omega)
      generalize uY (gt w.tasks x.whom) 1 = y at *
      have hE:=zI8 (w:=w) (u:=zP7 w T (w.tasks.set x.whom.toNat y) w.rang) (F:=F) hs
      have hgt:(w.tasks.map yR)[x.whom.toNat]? = some (yR (gt w.tasks x.whom)):=by rw [List.getElem?_map,zF6 hwh.1 hwh.2];rfl
      refine PC.o okC Tryz.func16 rfl (hz _ _) fun h nx hnx => ?_
      try simp [-qt,-qd,-ql,rgs,hw,wldV]
      repeat' first | done | ((first | ((with_reducible show zT _ _ _ _ _ _);refine zB rfl fun _ => ?_) | ((with_reducible show zH _ _ _ _ _ _ _);refine zC rfl omA omA ?_) | ((with_reducible show zG _ _ _ 30 _ _);refine zD (zC6 (w:=w) (F:=F)) ?_) | ((with_reducible show vS _ _ _ _ _ _ _ _);refine zP rfl rfl (by decide) (by decide) (by first | (simp [-qt,-qd,-ql,rgs,hw,wldV];done) | (simp [-qt,-qd,-ql,rgs,hw,wldV];rfl)) (by first | (simp [-qt,-qd,-ql,rgs,hw,wldV];done) | (simp [-qt,-qd,-ql,rgs,hw,wldV];rfl)) (by first | (simp;done) | (simp;omega)) (by first | (simp only [zW,LIM] at *; simp;omega) | (simp only [zW];simp;omega)) (by simp [iv,bv]) ?_) | (with_reducible refine zF (i:=16) [(0,[],[]),(1,[],[]),(2,[],[]),(3,[],[]),(4,[],[]),(5,[.tmp 74,.tmp 76],[]),(6,[],[]),(7,[],[])] (by kernel_rfl) ?_)) <;> simp [-qt,-qd,-ql,rgs,hw,wldV]) | ((first | (with_reducible refine zE ?_ ?_) | (with_reducible refine zA ?_ ?_)) <;> intro qb <;> (have qp:=qb;try simp only [psq] at qp) <;> simp [-qt,-qd,-ql,rgs,hw,wldV,qb])
      refine call_wc (w_l13Copy (F:=F) hs) ?_
      intro X h1 n1 V1 hid1 hle1 hf1
      dsimp only at hid1 hle1 hf1
      have nX:∀ j,j < nx + 10 → j ∉ X.ids:=fun j hj hm=>by have:=hid1 j hm;omega
      have z0:h1 nx = some (.obj (wldV F w)):=by rw [hf1 nx (nX _ (by omega))];simp [wldV]
      have z1:h1 (nx + 1) = some (.obj zG8):=by rw [hf1 _ (nX _ (by omega))];simp [zG8]
      have z8:h1 (nx + 8) = none:=by rw [hf1 _ (nX _ (by omega))];simp [zO hnx]
      have K1:∀ j,j < nx → h1 j = h j:=fun j hj=>by rw [hf1 j (nX j (by omega))];repeat rw [zJ _ _ _ _ (by omega)]
      have t10:=V1.top 10 (by omega)
      simp only [zM5] at t10
      have m10:=hid1 _ (WI.top_mem (X:=X) (k:=10) (by omega))
      have i0:∀ k,(nx = n1 + k) = False:=fun k=>by simp only [eq_iff_iff,iff_false];omega
      have i1:∀ k,(nx + 1 = n1 + k) = False:=fun k=>by simp only [eq_iff_iff,iff_false];omega
      have i2:∀ k,(X.top 10 = n1 + k) = False:=fun k=>by simp only [eq_iff_iff,iff_false];omega
      have i3:(X.top 10 = nx + 8) = False:=by simp only [eq_iff_iff,iff_false];omega
      have i4:∀ k,(nx + 8 = n1 + k) = False:=fun k=>by simp only [eq_iff_iff,iff_false];omega
      have i5:(nx + 8 = X.top 10) = False:=by simp only [eq_iff_iff,iff_false];omega
      have i6:(nx = X.top 10) = False:=by simp only [eq_iff_iff,iff_false];omega
      have i7:(nx + 1 = X.top 10) = False:=by simp only [eq_iff_iff,iff_false];omega
      have i8:∀ k,(n1 + k = nx + 8) = False:=fun k=>by simp only [eq_iff_iff,iff_false];omega
      have i9:∀ k,(n1 + k = nx) = False:=fun k=>by simp only [eq_iff_iff,iff_false];omega
      have ia:∀ k,(n1 + k = X.top 10) = False:=fun k=>by simp only [eq_iff_iff,iff_false];omega
      simp only [wldV] at z0
      simp only [zG8] at z1
      try simp [-qt,-qd,-ql,rgs,z0,z1,z8,t10,hb0,hb1,hwk.1,hwk.2,uL,wldV,yN,zX,yR,i0,i1,i2,i3,i4,i5,i6,i7,i8,i9,ia]
      repeat' first | done | ((first | ((with_reducible show zT _ _ _ _ _ _);refine zB rfl fun _ => ?_) | ((with_reducible show zH _ _ _ _ _ _ _);refine zC rfl omA omA ?_) | (refine zD (hf) ?_) | (refine zD (hfo) ?_) | (((with_reducible show zH _ _ _ _ (.ref _ _ _ _) _ _);refine yK rfl (by omega) (by omega) ?_)) | (((with_reducible show zQ8 _ _ _ _ _ _ _ _);refine zC5 hgt ?_)) | ((with_reducible show vS _ _ _ _ _ _ _ _);refine zP rfl rfl (by decide) (by decide) (by first | (simp [-qt,-qd,-ql,rgs,z0,z1,z8,t10,hb0,hb1,hwk.1,hwk.2,uL,wldV,yN,zX,yR,i0,i1,i2,i3,i4,i5,i6,i7,i8,i9,ia];done) | (simp [-qt,-qd,-ql,rgs,z0,z1,z8,t10,hb0,hb1,hwk.1,hwk.2,uL,wldV,yN,zX,yR,i0,i1,i2,i3,i4,i5,i6,i7,i8,i9,ia];rfl)) (by first | (simp [-qt,-qd,-ql,rgs,z0,z1,z8,t10,hb0,hb1,hwk.1,hwk.2,uL,wldV,yN,zX,yR,i0,i1,i2,i3,i4,i5,i6,i7,i8,i9,ia];done) | (simp [-qt,-qd,-ql,rgs,z0,z1,z8,t10,hb0,hb1,hwk.1,hwk.2,uL,wldV,yN,zX,yR,i0,i1,i2,i3,i4,i5,i6,i7,i8,i9,ia];rfl)) (by first | (simp;done) | (simp;omega)) (by first | (simp only [zW,LIM] at *; simp;omega) | (simp only [zW];simp;omega)) (by simp [iv,bv]) ?_) | (with_reducible refine zF (i:=16) [(0,[],[]),(1,[],[]),(2,[],[]),(3,[],[]),(4,[],[]),(5,[.tmp 74,.tmp 76],[]),(6,[],[]),(7,[],[])] (by kernel_rfl) ?_)) <;> simp [-qt,-qd,-ql,rgs,z0,z1,z8,t10,hb0,hb1,hwk.1,hwk.2,uL,wldV,yN,zX,yR,i0,i1,i2,i3,i4,i5,i6,i7,i8,i9,ia]) | ((first | (with_reducible refine zE ?_ ?_) | (with_reducible refine zA ?_ ?_)) <;> intro qb <;> (have qp:=qb;try simp only [psq] at qp) <;> simp [-qt,-qd,-ql,rgs,z0,z1,z8,t10,hb0,hb1,hwk.1,hwk.2,uL,wldV,yN,zX,yR,i0,i1,i2,i3,i4,i5,i6,i7,i8,i9,ia,qb])
      refine zD hrd ?_
      try simp [-qt,-qd,-ql,rgs,z0,z1,z8,t10,uL,wldV,yN,zX,i0,i1,i2,i3,i4,i5,i6,i7,i8,i9,ia]
      repeat' first | done | ((first | ((with_reducible show zT _ _ _ _ _ _);refine zB rfl fun _ => ?_) | ((with_reducible show zH _ _ _ _ _ _ _);refine zC rfl omA omA ?_) | (((with_reducible show zH _ _ _ _ (.ref _ _ _ _) _ _);refine yK rfl (by omega) (by omega) ?_)) | ((with_reducible show vS _ _ _ _ _ _ _ _);refine zP rfl rfl (by decide) (by decide) (by first | (simp [-qt,-qd,-ql,rgs,z0,z1,z8,t10,uL,wldV,yN,zX,i0,i1,i2,i3,i4,i5,i6,i7,i8,i9,ia];done) | (simp [-qt,-qd,-ql,rgs,z0,z1,z8,t10,uL,wldV,yN,zX,i0,i1,i2,i3,i4,i5,i6,i7,i8,i9,ia];rfl)) (by first | (simp [-qt,-qd,-ql,rgs,z0,z1,z8,t10,uL,wldV,yN,zX,i0,i1,i2,i3,i4,i5,i6,i7,i8,i9,ia];done) | (simp [-qt,-qd,-ql,rgs,z0,z1,z8,t10,uL,wldV,yN,zX,i0,i1,i2,i3,i4,i5,i6,i7,i8,i9,ia];rfl)) (by first | (simp;done) | (simp;omega)) (by first | (simp only [zW,LIM] at *; simp;omega) | (simp only [zW];simp;omega)) (by simp [iv,bv]) ?_) | (with_reducible refine zF (i:=16) [(0,[],[]),(1,[],[]),(2,[],[]),(3,[],[]),(4,[],[]),(5,[.tmp 74,.tmp 76],[]),(6,[],[]),(7,[],[])] (by kernel_rfl) ?_)) <;> simp [-qt,-qd,-ql,rgs,z0,z1,z8,t10,uL,wldV,yN,zX,i0,i1,i2,i3,i4,i5,i6,i7,i8,i9,ia]) | ((first | (with_reducible refine zE ?_ ?_) | (with_reducible refine zA ?_ ?_)) <;> intro qb <;> (have qp:=qb;try simp only [psq] at qp) <;> simp [-qt,-qd,-ql,rgs,z0,z1,z8,t10,uL,wldV,yN,zX,i0,i1,i2,i3,i4,i5,i6,i7,i8,i9,ia,qb])
      refine zO5 (sz:=9) (xs:=w.tasks.map yR) (vs:=yR y) (cells:=yR (gt w.tasks x.whom)) (by simp [t10,i2,i3,ia]) rfl rfl rfl hgt rfl ?_
      try simp [-qt,-qd,-ql,rgs,z0,z1,z8,t10,uL,wldV,yN,zX,i0,i1,i2,i3,i4,i5,i6,i7,i8,i9,ia]
      repeat' first | done | ((first | ((with_reducible show zT _ _ _ _ _ _);refine zB rfl fun _ => ?_) | ((with_reducible show zH _ _ _ _ _ _ _);refine zC rfl omA omA ?_) | ((with_reducible show vS _ _ _ _ _ _ _ _);refine zP rfl rfl (by decide) (by decide) (by first | (simp [-qt,-qd,-ql,rgs,z0,z1,z8,t10,uL,wldV,yN,zX,i0,i1,i2,i3,i4,i5,i6,i7,i8,i9,ia];done) | (simp [-qt,-qd,-ql,rgs,z0,z1,z8,t10,uL,wldV,yN,zX,i0,i1,i2,i3,i4,i5,i6,i7,i8,i9,ia];rfl)) (by first | (simp [-qt,-qd,-ql,rgs,z0,z1,z8,t10,uL,wldV,yN,zX,i0,i1,i2,i3,i4,i5,i6,i7,i8,i9,ia];done) | (simp [-qt,-qd,-ql,rgs,z0,z1,z8,t10,uL,wldV,yN,zX,i0,i1,i2,i3,i4,i5,i6,i7,i8,i9,ia];rfl)) (by first | (simp;done) | (simp;omega)) (by first | (simp only [zW,LIM] at *; simp;omega) | (simp only [zW];simp;omega)) (by simp [iv,bv]) ?_) | (with_reducible refine zF (i:=16) [(0,[],[]),(1,[],[]),(2,[],[]),(3,[],[]),(4,[],[]),(5,[.tmp 74,.tmp 76],[]),(6,[],[]),(7,[],[])] (by kernel_rfl) ?_)) <;> simp [-qt,-qd,-ql,rgs,z0,z1,z8,t10,uL,wldV,yN,zX,i0,i1,i2,i3,i4,i5,i6,i7,i8,i9,ia]) | ((first | (with_reducible refine zE ?_ ?_) | (with_reducible refine zA ?_ ?_)) <;> intro qb <;> (have qp:=qb;try simp only [psq] at qp) <;> simp [-qt,-qd,-ql,rgs,z0,z1,z8,t10,uL,wldV,yN,zX,i0,i1,i2,i3,i4,i5,i6,i7,i8,i9,ia,qb])
      generalize hH:upd _ (X.top 10) (some (Ent.row 9 ((List.map yR w.tasks).set x.whom.toNat (yR y)))) = H
      have V2:WV H X (zP7 w w.timers (w.tasks.set x.whom.toNat y) w.rang):=by
       refine V1.setTasks (l:=w.tasks.set x.whom.toNat y) (by rw [← hH,zL,← List.map_set]) (fun j hj hne => ?_)
       have:=hid1 j hj
       rw [← hH]
       repeat rw [zJ _ _ _ _ (by first | exact hne | omega)]
      have y1:H (nx + 1) = some (.obj zG8):=by
       rw [← hH]
       repeat rw [zJ _ _ _ _ (by omega)]
       exact z1
      have KH:∀ j,j < nx → H j = h j:=fun j hj=>by
       rw [← hH]
       repeat rw [zJ _ _ _ _ (by omega)]
       exact K1 j hj
      clear hH
      obtain ⟨k,hk⟩:∃ k:yF,k = fun j=>if j ∈ X.ids then none else H j:=⟨_,rfl⟩
      have y2:k (nx + 1) = some (.obj zG8):=by rw [hk];exact (if_neg (nX _ (by omega))).trans y1
      have KK:∀ j,j < nx → k j = h j:=fun j hj=>by rw [hk];exact (if_neg (nX _ (by omega))).trans (KH j hj)
      have V3:WV (fun j=>if j ∈ X.ids then H j else none) X (zP7 w w.timers (w.tasks.set x.whom.toNat y) w.rang):=V2.keep fun id hm=>if_pos hm
      have V4:=V3.frosM T
      rw [show zQ0 (zP7 w w.timers (w.tasks.set x.whom.toNat y) w.rang) T = zP7 w T (w.tasks.set x.whom.toNat y) w.rang from rfl] at V4
      refine call_frzD (args':=[.agg (wldV F w),.agg (wldV (fun _=>true) (zP7 w T (w.tasks.set x.whom.toNat y) w.rang))]) (fun j=>if j ∈ X.ids then H j else none) k (fun id e he => ?_) (fun id e he => ?_) (fun id => ?_) (.cons (.same _) (.cons (.aggs (by simpa [wldRT,uL,zP7] using V4)) .nil)) ?_
      ·split at he
       ·exact he
       ·cases he
      ·rw [hk] at he;dsimp only at he;split at he
       ·cases he
       ·exact he
      ·rw [hk];dsimp only;by_cases hc:id ∈ X.ids
       ·exact .inr (if_pos hc)
       ·exact .inl (if_neg hc)
      refine zD hE ?_
      simp only [zG8] at y2
      try simp [-qt,-qd,-ql,rgs,y2,wldV]
      repeat' first | done | ((first | ((with_reducible show zT _ _ _ _ _ _);refine zB rfl fun _ => ?_) | ((with_reducible show zH _ _ _ _ _ _ _);refine zC rfl omA omA ?_) | ((with_reducible show vS _ _ _ _ _ _ _ _);refine zP rfl rfl (by decide) (by decide) (by first | (simp [-qt,-qd,-ql,rgs,y2,wldV];done) | (simp [-qt,-qd,-ql,rgs,y2,wldV];rfl)) (by first | (simp [-qt,-qd,-ql,rgs,y2,wldV];done) | (simp [-qt,-qd,-ql,rgs,y2,wldV];rfl)) (by first | (simp;done) | (simp;omega)) (by first | (simp only [zW,LIM] at *; simp;omega) | (simp only [zW];simp;omega)) (by simp [iv,bv]) ?_) | (with_reducible refine zF (i:=16) [(0,[],[]),(1,[],[]),(2,[],[]),(3,[],[]),(4,[],[]),(5,[.tmp 74,.tmp 76],[]),(6,[],[]),(7,[],[])] (by kernel_rfl) ?_)) <;> simp [-qt,-qd,-ql,rgs,y2,wldV]) | ((first | (with_reducible refine zE ?_ ?_) | (with_reducible refine zA ?_ ?_)) <;> intro qb <;> (have qp:=qb;try simp only [psq] at qp) <;> simp [-qt,-qd,-ql,rgs,y2,wldV,qb])
      trivial
     ·rw [if_neg hwk]
      have hE:=zI8 (w:=w) (u:=zP7 w T w.tasks w.rang) (F:=F) hs
      generalize (if zA8 (zP7 w T w.tasks w.rang) = true then zP7 w T w.tasks w.rang else w) = V at *
      generalize zA8 (zP7 w T w.tasks w.rang) = vb at *
      by_cases hy:(gt w.tasks x.whom).why = 2
      ·have hyb:((gt w.tasks x.whom).why == 2) = true:=by simpa using hy
       have htb:((gt w.tasks x.whom).timer == x.seq) = false:=by
        cases hq:((gt w.tasks x.whom).timer == x.seq) with
        | false=>rfl
        | true=>exact absurd (by simp [wakes,hyb,hq]) hwk
       refine PC.o okC Tryz.func16 rfl (hz _ _) fun h nx hnx => ?_
       try simp [-qt,-qd,-ql,rgs,hw,hb0,hb1,hyb,htb,wldV,yN,zX,yR]
       repeat' first | done | ((first | ((with_reducible show zT _ _ _ _ _ _);refine zB rfl fun _ => ?_) | ((with_reducible show zH _ _ _ _ _ _ _);refine zC rfl omA omA ?_) | ((with_reducible show zG _ _ _ 30 _ _);refine zD (zC6 (w:=w) (F:=F)) ?_) | (refine zD (hl13) ?_) | (refine zD (hf) ?_) | (refine zD (hfo) ?_) | ((with_reducible show vS _ _ _ _ _ _ _ _);refine zP rfl rfl (by decide) (by decide) (by first | (simp [-qt,-qd,-ql,rgs,hw,hb0,hb1,hyb,htb,wldV,yN,zX,yR];done) | (simp [-qt,-qd,-ql,rgs,hw,hb0,hb1,hyb,htb,wldV,yN,zX,yR];rfl)) (by first | (simp [-qt,-qd,-ql,rgs,hw,hb0,hb1,hyb,htb,wldV,yN,zX,yR];done) | (simp [-qt,-qd,-ql,rgs,hw,hb0,hb1,hyb,htb,wldV,yN,zX,yR];rfl)) (by first | (simp;done) | (simp;omega)) (by first | (simp only [zW,LIM] at *; simp;omega) | (simp only [zW];simp;omega)) (by simp [iv,bv]) ?_) | (with_reducible refine zF (i:=16) [(0,[],[]),(1,[],[]),(2,[],[]),(3,[],[]),(4,[],[]),(5,[.tmp 74,.tmp 76],[]),(6,[],[]),(7,[],[])] (by kernel_rfl) ?_)) <;> simp [-qt,-qd,-ql,rgs,hw,hb0,hb1,hyb,htb,wldV,yN,zX,yR]) | ((first | (with_reducible refine zE ?_ ?_) | (with_reducible refine zA ?_ ?_)) <;> intro qb <;> (have qp:=qb;try simp only [psq] at qp) <;> simp [-qt,-qd,-ql,rgs,hw,hb0,hb1,hyb,htb,wldV,yN,zX,yR,qb])
       refine zD hE ?_
       try simp [-qt,-qd,-ql,rgs,wldV]
       repeat' first | done | ((first | ((with_reducible show zT _ _ _ _ _ _);refine zB rfl fun _ => ?_) | ((with_reducible show zH _ _ _ _ _ _ _);refine zC rfl omA omA ?_) | ((with_reducible show vS _ _ _ _ _ _ _ _);refine zP rfl rfl (by decide) (by decide) (by first | (simp [-qt,-qd,-ql,rgs,wldV];done) | (simp [-qt,-qd,-ql,rgs,wldV];rfl)) (by first | (simp [-qt,-qd,-ql,rgs,wldV];done) | (simp [-qt,-qd,-ql,rgs,wldV];rfl)) (by first | (simp;done) | (simp;omega)) (by first | (simp only [zW,LIM] at *; simp;omega) | (simp only [zW];simp;omega)) (by simp [iv,bv]) ?_) | (with_reducible refine zF (i:=16) [(0,[],[]),(1,[],[]),(2,[],[]),(3,[],[]),(4,[],[]),(5,[.tmp 74,.tmp 76],[]),(6,[],[]),(7,[],[])] (by kernel_rfl) ?_)) <;> simp [-qt,-qd,-ql,rgs,wldV]) | ((first | (with_reducible refine zE ?_ ?_) | (with_reducible refine zA ?_ ?_)) <;> intro qb <;> (have qp:=qb;try simp only [psq] at qp) <;> simp [-qt,-qd,-ql,rgs,wldV,qb])
      ·have hyb:((gt w.tasks x.whom).why == 2) = false:=by simpa using hy
       refine PC.o okC Tryz.func16 rfl (hz _ _) fun h nx hnx => ?_
       try simp [-qt,-qd,-ql,rgs,hw,hb0,hb1,hyb,wldV,yN,zX,yR]
       repeat' first | done | ((first | ((with_reducible show zT _ _ _ _ _ _);refine zB rfl fun _ => ?_) | ((with_reducible show zH _ _ _ _ _ _ _);refine zC rfl omA omA ?_) | ((with_reducible show zG _ _ _ 30 _ _);refine zD (zC6 (w:=w) (F:=F)) ?_) | (refine zD (hl13) ?_) | (refine zD (hf) ?_) | (refine zD (hfo) ?_) | ((with_reducible show vS _ _ _ _ _ _ _ _);refine zP rfl rfl (by decide) (by decide) (by first | (simp [-qt,-qd,-ql,rgs,hw,hb0,hb1,hyb,wldV,yN,zX,yR];done) | (simp [-qt,-qd,-ql,rgs,hw,hb0,hb1,hyb,wldV,yN,zX,yR];rfl)) (by first | (simp [-qt,-qd,-ql,rgs,hw,hb0,hb1,hyb,wldV,yN,zX,yR];done) | (simp [-qt,-qd,-ql,rgs,hw,hb0,hb1,hyb,wldV,yN,zX,yR];rfl)) (by first | (simp;done) | (simp;omega)) (by first | (simp only [zW,LIM] at *; simp;omega) | (simp only [zW];simp;omega)) (by simp [iv,bv]) ?_) | (with_reducible refine zF (i:=16) [(0,[],[]),(1,[],[]),(2,[],[]),(3,[],[]),(4,[],[]),(5,[.tmp 74,.tmp 76],[]),(6,[],[]),(7,[],[])] (by kernel_rfl) ?_)) <;> simp [-qt,-qd,-ql,rgs,hw,hb0,hb1,hyb,wldV,yN,zX,yR]) | ((first | (with_reducible refine zE ?_ ?_) | (with_reducible refine zA ?_ ?_)) <;> intro qb <;> (have qp:=qb;try simp only [psq] at qp) <;> simp [-qt,-qd,-ql,rgs,hw,hb0,hb1,hyb,wldV,yN,zX,yR,qb])
       refine zD hE ?_
       try simp [-qt,-qd,-ql,rgs,wldV]
       repeat' first | done | ((first | ((with_reducible show zT _ _ _ _ _ _);refine zB rfl fun _ => ?_) | ((with_reducible show zH _ _ _ _ _ _ _);refine zC rfl omA omA ?_) | ((with_reducible show vS _ _ _ _ _ _ _ _);refine zP rfl rfl (by decide) (by decide) (by first | (simp [-qt,-qd,-ql,rgs,wldV];done) | (simp [-qt,-qd,-ql,rgs,wldV];rfl)) (by first | (simp [-qt,-qd,-ql,rgs,wldV];done) | (simp [-qt,-qd,-ql,rgs,wldV];rfl)) (by first | (simp;done) | (simp;omega)) (by first | (simp only [zW,LIM] at *; simp;omega) | (simp only [zW];simp;omega)) (by simp [iv,bv]) ?_) | (with_reducible refine zF (i:=16) [(0,[],[]),(1,[],[]),(2,[],[]),(3,[],[]),(4,[],[]),(5,[.tmp 74,.tmp 76],[]),(6,[],[]),(7,[],[])] (by kernel_rfl) ?_)) <;> simp [-qt,-qd,-ql,rgs,wldV]) | ((first | (with_reducible refine zE ?_ ?_) | (with_reducible refine zA ?_ ?_)) <;> intro qb <;> (have qp:=qb;try simp only [psq] at qp) <;> simp [-qt,-qd,-ql,rgs,wldV,qb])
    ·have hb1:((vI w.timers).what == 1) = false:=by simpa using h1w
     have hW:zE2 w = zP7 w (uK w.timers w.now) w.tasks (if (vI w.timers).what = 2 ∧ w.rang.length < 2000 then w.rang ++ [(vI w.timers).whom] else w.rang):=by unfold zE2;rw [if_pos hC,if_neg h0,if_neg h1w]
     rw [hW]
     generalize vI w.timers = x at *
     generalize uK w.timers w.now = T at *
     clear hW r1 r2 hit hR hTT hat f3 hfo
     by_cases h2:x.what = 2 ∧ w.rang.length < 2000
     ·rw [if_pos h2]
      have hb2:(x.what == 2) = true:=by simpa using h2.1
      have hz2:((w.rang.length:Int) < 2000) = True:=by simp only [eq_iff_iff,iff_true];omega
      have hE:=zI8 (w:=w) (u:=zP7 w T w.tasks (w.rang ++ [x.whom])) (F:=F) hs
      refine PC.o okC Tryz.func16 rfl (hz _ _) fun h nx hnx => ?_
      try simp [-qt,-qd,-ql,rgs,hw,wldV]
      repeat' first | done | ((first | ((with_reducible show zT _ _ _ _ _ _);refine zB rfl fun _ => ?_) | ((with_reducible show zH _ _ _ _ _ _ _);refine zC rfl omA omA ?_) | ((with_reducible show zG _ _ _ 30 _ _);refine zD (zC6 (w:=w) (F:=F)) ?_) | ((with_reducible show vS _ _ _ _ _ _ _ _);refine zP rfl rfl (by decide) (by decide) (by first | (simp [-qt,-qd,-ql,rgs,hw,wldV];done) | (simp [-qt,-qd,-ql,rgs,hw,wldV];rfl)) (by first | (simp [-qt,-qd,-ql,rgs,hw,wldV];done) | (simp [-qt,-qd,-ql,rgs,hw,wldV];rfl)) (by first | (simp;done) | (simp;omega)) (by first | (simp only [zW,LIM] at *; simp;omega) | (simp only [zW];simp;omega)) (by simp [iv,bv]) ?_) | (with_reducible refine zF (i:=16) [(0,[],[]),(1,[],[]),(2,[],[]),(3,[],[]),(4,[],[]),(5,[.tmp 74,.tmp 76],[]),(6,[],[]),(7,[],[])] (by kernel_rfl) ?_)) <;> simp [-qt,-qd,-ql,rgs,hw,wldV]) | ((first | (with_reducible refine zE ?_ ?_) | (with_reducible refine zA ?_ ?_)) <;> intro qb <;> (have qp:=qb;try simp only [psq] at qp) <;> simp [-qt,-qd,-ql,rgs,hw,wldV,qb])
      refine call_wc (w_l13Copy (F:=F) hs) ?_
      intro X h1 n1 V1 hid1 hle1 hf1
      dsimp only at hid1 hle1 hf1
      have nX:∀ j,j < nx + 10 → j ∉ X.ids:=fun j hj hm=>by have:=hid1 j hm;omega
      have z0:h1 nx = some (.obj (wldV F w)):=by rw [hf1 nx (nX _ (by omega))];simp [wldV]
      have z1:h1 (nx + 1) = some (.obj zG8):=by rw [hf1 _ (nX _ (by omega))];simp [zG8]
      have z8:h1 (nx + 8) = none:=by rw [hf1 _ (nX _ (by omega))];simp [zO hnx]
      have K1:∀ j,j < nx → h1 j = h j:=fun j hj=>by rw [hf1 j (nX j (by omega))];repeat rw [zJ _ _ _ _ (by omega)]
      have t14:=V1.top 14 (by omega)
      simp only [zM5] at t14
      have m14:=hid1 _ (WI.top_mem (X:=X) (k:=14) (by omega))
      have i0:∀ k,(nx = n1 + k) = False:=fun k=>by simp only [eq_iff_iff,iff_false];omega
      have i1:∀ k,(nx + 1 = n1 + k) = False:=fun k=>by simp only [eq_iff_iff,iff_false];omega
      have i2:∀ k,(X.top 14 = n1 + k) = False:=fun k=>by simp only [eq_iff_iff,iff_false];omega
      have i3:(X.top 14 = nx + 8) = False:=by simp only [eq_iff_iff,iff_false];omega
      have i4:∀ k,(nx + 8 = n1 + k) = False:=fun k=>by simp only [eq_iff_iff,iff_false];omega
      have i5:(nx + 8 = X.top 14) = False:=by simp only [eq_iff_iff,iff_false];omega
      have i6:(nx = X.top 14) = False:=by simp only [eq_iff_iff,iff_false];omega
      have i7:(nx + 1 = X.top 14) = False:=by simp only [eq_iff_iff,iff_false];omega
      have i8:∀ k,(n1 + k = nx + 8) = False:=fun k=>by simp only [eq_iff_iff,iff_false];omega
      have i9:∀ k,(n1 + k = nx) = False:=fun k=>by simp only [eq_iff_iff,iff_false];omega
      have ia:∀ k,(n1 + k = X.top 14) = False:=fun k=>by simp only [eq_iff_iff,iff_false];omega
      simp only [wldV] at z0
      simp only [zG8] at z1
      try simp [-qt,-qd,-ql,rgs,z0,z1,z8,t14,hb0,hb1,hb2,hz2,iv,uL,wldV,yN,zX,i0,i1,i2,i3,i4,i5,i6,i7,i8,i9,ia]
      repeat' first | done | ((first | ((with_reducible show zT _ _ _ _ _ _);refine zB rfl fun _ => ?_) | ((with_reducible show zH _ _ _ _ _ _ _);refine zC rfl omA omA ?_) | (refine zD (hf) ?_) | ((with_reducible show vS _ _ _ _ _ _ _ _);refine zP rfl rfl (by decide) (by decide) (by first | (simp [-qt,-qd,-ql,rgs,z0,z1,z8,t14,hb0,hb1,hb2,hz2,iv,uL,wldV,yN,zX,i0,i1,i2,i3,i4,i5,i6,i7,i8,i9,ia];done) | (simp [-qt,-qd,-ql,rgs,z0,z1,z8,t14,hb0,hb1,hb2,hz2,iv,uL,wldV,yN,zX,i0,i1,i2,i3,i4,i5,i6,i7,i8,i9,ia];rfl)) (by first | (simp [-qt,-qd,-ql,rgs,z0,z1,z8,t14,hb0,hb1,hb2,hz2,iv,uL,wldV,yN,zX,i0,i1,i2,i3,i4,i5,i6,i7,i8,i9,ia];done) | (simp [-qt,-qd,-ql,rgs,z0,z1,z8,t14,hb0,hb1,hb2,hz2,iv,uL,wldV,yN,zX,i0,i1,i2,i3,i4,i5,i6,i7,i8,i9,ia];rfl)) (by first | (simp;done) | (simp;omega)) (by first | (simp only [zW,LIM] at *; simp;omega) | (simp only [zW];simp;omega)) (by simp [iv,bv]) ?_) | (with_reducible refine zF (i:=16) [(0,[],[]),(1,[],[]),(2,[],[]),(3,[],[]),(4,[],[]),(5,[.tmp 74,.tmp 76],[]),(6,[],[]),(7,[],[])] (by kernel_rfl) ?_)) <;> simp [-qt,-qd,-ql,rgs,z0,z1,z8,t14,hb0,hb1,hb2,hz2,iv,uL,wldV,yN,zX,i0,i1,i2,i3,i4,i5,i6,i7,i8,i9,ia]) | ((first | (with_reducible refine zE ?_ ?_) | (with_reducible refine zA ?_ ?_)) <;> intro qb <;> (have qp:=qb;try simp only [psq] at qp) <;> simp [-qt,-qd,-ql,rgs,z0,z1,z8,t14,hb0,hb1,hb2,hz2,iv,uL,wldV,yN,zX,i0,i1,i2,i3,i4,i5,i6,i7,i8,i9,ia,qb])
      generalize hH:upd (upd (upd _ (X.top 14) none) (n1 + 36) _) (nx + 8) _ = H
      obtain ⟨X2,hX2⟩:∃ X2,X2 = X.setTop 14 (n1 + 36):=⟨_,rfl⟩
      have V2:WV H X2 (zP7 w w.timers w.tasks (w.rang ++ [x.whom])):=by
       rw [hX2]
       refine V1.newTop [] (by omega) (fun hm=>by have:=hid1 _ hm;omega) ?_ (by simp) (by simp) (fun k hk _ hne => ?_) rfl rfl (fun j hj _ hne => ?_)
       ·rw [← hH,zJ _ _ _ _ (by omega),zL];simp [zM5,zP7,iv]
       ·rcases lt15 hk with rfl | rfl | rfl | rfl | rfl | rfl | rfl | rfl | rfl | rfl | rfl | rfl | rfl | rfl | rfl <;> first | rfl | exact absurd rfl hne
       ·have:=hid1 j hj
        rw [← hH]
        repeat rw [zJ _ _ _ _ (by first | exact hne | omega)]
      have nX2:∀ j,j < nx + 10 → j ∉ X2.ids:=fun j hj hm=>by
       rw [hX2] at hm
       rcases WI.setTop_ids hm with q | q
       ·exact nX j hj q
       ·omega
      have y1:H (nx + 1) = some (.obj zG8):=by
       rw [← hH]
       repeat rw [zJ _ _ _ _ (by omega)]
       exact z1
      have KH:∀ j,j < nx → H j = h j:=fun j hj=>by
       rw [← hH]
       repeat rw [zJ _ _ _ _ (by omega)]
       exact K1 j hj
      clear hH
      obtain ⟨k,hk⟩:∃ k:yF,k = fun j=>if j ∈ X2.ids then none else H j:=⟨_,rfl⟩
      have y2:k (nx + 1) = some (.obj zG8):=by rw [hk];exact (if_neg (nX2 _ (by omega))).trans y1
      have KK:∀ j,j < nx → k j = h j:=fun j hj=>by rw [hk];exact (if_neg (nX2 _ (by omega))).trans (KH j hj)
      have V3:WV (fun j=>if j ∈ X2.ids then H j else none) X2 (zP7 w w.timers w.tasks (w.rang ++ [x.whom])):=V2.keep fun id hm=>if_pos hm
      have V4:=V3.frosM T
      rw [show zQ0 (zP7 w w.timers w.tasks (w.rang ++ [x.whom])) T = zP7 w T w.tasks (w.rang ++ [x.whom]) from rfl] at V4
      refine call_frzD (args':=[.agg (wldV F w),.agg (wldV (fun _=>true) (zP7 w T w.tasks (w.rang ++ [x.whom])))]) (fun j=>if j ∈ X2.ids then H j else none) k (fun id e he => ?_) (fun id e he => ?_) (fun id => ?_) (.cons (.same _) (.cons (.aggs (by simpa [wldRT,uL,zP7,hX2,WI.setTop] using V4)) .nil)) ?_
      ·split at he
       ·exact he
       ·cases he
      ·rw [hk] at he;dsimp only at he;split at he
       ·cases he
       ·exact he
      ·rw [hk];dsimp only;by_cases hc:id ∈ X2.ids
       ·exact .inr (if_pos hc)
       ·exact .inl (if_neg hc)
      refine zD hE ?_
      simp only [zG8] at y2
      try simp [-qt,-qd,-ql,rgs,y2,wldV]
      repeat' first | done | ((first | ((with_reducible show zT _ _ _ _ _ _);refine zB rfl fun _ => ?_) | ((with_reducible show zH _ _ _ _ _ _ _);refine zC rfl omA omA ?_) | ((with_reducible show vS _ _ _ _ _ _ _ _);refine zP rfl rfl (by decide) (by decide) (by first | (simp [-qt,-qd,-ql,rgs,y2,wldV];done) | (simp [-qt,-qd,-ql,rgs,y2,wldV];rfl)) (by first | (simp [-qt,-qd,-ql,rgs,y2,wldV];done) | (simp [-qt,-qd,-ql,rgs,y2,wldV];rfl)) (by first | (simp;done) | (simp;omega)) (by first | (simp only [zW,LIM] at *; simp;omega) | (simp only [zW];simp;omega)) (by simp [iv,bv]) ?_) | (with_reducible refine zF (i:=16) [(0,[],[]),(1,[],[]),(2,[],[]),(3,[],[]),(4,[],[]),(5,[.tmp 74,.tmp 76],[]),(6,[],[]),(7,[],[])] (by kernel_rfl) ?_)) <;> simp [-qt,-qd,-ql,rgs,y2,wldV]) | ((first | (with_reducible refine zE ?_ ?_) | (with_reducible refine zA ?_ ?_)) <;> intro qb <;> (have qp:=qb;try simp only [psq] at qp) <;> simp [-qt,-qd,-ql,rgs,y2,wldV,qb])
      trivial
     ·rw [if_neg h2]
      have hE:=zI8 (w:=w) (u:=zP7 w T w.tasks w.rang) (F:=F) hs
      generalize (if zA8 (zP7 w T w.tasks w.rang) = true then zP7 w T w.tasks w.rang else w) = V at *
      generalize zA8 (zP7 w T w.tasks w.rang) = vb at *
      by_cases h3:x.what = 2
      ·have hb2:(x.what == 2) = true:=by simpa using h3
       have hz2:((w.rang.length:Int) < 2000) = False:=by simp only [eq_iff_iff,iff_false];exact fun c=>h2 ⟨h3,by omega⟩
       refine PC.o okC Tryz.func16 rfl (hz _ _) fun h nx hnx => ?_
       try simp [-qt,-qd,-ql,rgs,hw,hb0,hb1,hb2,hz2,wldV,yN,zX]
       repeat' first | done | ((first | ((with_reducible show zT _ _ _ _ _ _);refine zB rfl fun _ => ?_) | ((with_reducible show zH _ _ _ _ _ _ _);refine zC rfl omA omA ?_) | ((with_reducible show zG _ _ _ 30 _ _);refine zD (zC6 (w:=w) (F:=F)) ?_) | (refine zD (hl13) ?_) | (refine zD (hf) ?_) | ((with_reducible show vS _ _ _ _ _ _ _ _);refine zP rfl rfl (by decide) (by decide) (by first | (simp [-qt,-qd,-ql,rgs,hw,hb0,hb1,hb2,hz2,wldV,yN,zX];done) | (simp [-qt,-qd,-ql,rgs,hw,hb0,hb1,hb2,hz2,wldV,yN,zX];rfl)) (by first | (simp [-qt,-qd,-ql,rgs,hw,hb0,hb1,hb2,hz2,wldV,yN,zX];done) | (simp [-qt,-qd,-ql,rgs,hw,hb0,hb1,hb2,hz2,wldV,yN,zX];rfl)) (by first | (simp;done) | (simp;omega)) (by first | (simp only [zW,LIM] at *; simp;omega) | (simp only [zW];simp;omega)) (by simp [iv,bv]) ?_) | (with_reducible refine zF (i:=16) [(0,[],[]),(1,[],[]),(2,[],[]),(3,[],[]),(4,[],[]),(5,[.tmp 74,.tmp 76],[]),(6,[],[]),(7,[],[])] (by kernel_rfl) ?_)) <;> simp [-qt,-qd,-ql,rgs,hw,hb0,hb1,hb2,hz2,wldV,yN,zX]) | ((first | (with_reducible refine zE ?_ ?_) | (with_reducible refine zA ?_ ?_)) <;> intro qb <;> (have qp:=qb;try simp only [psq] at qp) <;> simp [-qt,-qd,-ql,rgs,hw,hb0,hb1,hb2,hz2,wldV,yN,zX,qb])
       refine zD hE ?_
       try simp [-qt,-qd,-ql,rgs,wldV]
       repeat' first | done | ((first | ((with_reducible show zT _ _ _ _ _ _);refine zB rfl fun _ => ?_) | ((with_reducible show zH _ _ _ _ _ _ _);refine zC rfl omA omA ?_) | ((with_reducible show vS _ _ _ _ _ _ _ _);refine zP rfl rfl (by decide) (by decide) (by first | (simp [-qt,-qd,-ql,rgs,wldV];done) | (simp [-qt,-qd,-ql,rgs,wldV];rfl)) (by first | (simp [-qt,-qd,-ql,rgs,wldV];done) | (simp [-qt,-qd,-ql,rgs,wldV];rfl)) (by first | (simp;done) | (simp;omega)) (by first | (simp only [zW,LIM] at *; simp;omega) | (simp only [zW];simp;omega)) (by simp [iv,bv]) ?_) | (with_reducible refine zF (i:=16) [(0,[],[]),(1,[],[]),(2,[],[]),(3,[],[]),(4,[],[]),(5,[.tmp 74,.tmp 76],[]),(6,[],[]),(7,[],[])] (by kernel_rfl) ?_)) <;> simp [-qt,-qd,-ql,rgs,wldV]) | ((first | (with_reducible refine zE ?_ ?_) | (with_reducible refine zA ?_ ?_)) <;> intro qb <;> (have qp:=qb;try simp only [psq] at qp) <;> simp [-qt,-qd,-ql,rgs,wldV,qb])
      ·have hb2:(x.what == 2) = false:=by simpa using h3
       refine PC.o okC Tryz.func16 rfl (hz _ _) fun h nx hnx => ?_
       try simp [-qt,-qd,-ql,rgs,hw,hb0,hb1,hb2,wldV,yN,zX]
       repeat' first | done | ((first | ((with_reducible show zT _ _ _ _ _ _);refine zB rfl fun _ => ?_) | ((with_reducible show zH _ _ _ _ _ _ _);refine zC rfl omA omA ?_) | ((with_reducible show zG _ _ _ 30 _ _);refine zD (zC6 (w:=w) (F:=F)) ?_) | (refine zD (hl13) ?_) | (refine zD (hf) ?_) | ((with_reducible show vS _ _ _ _ _ _ _ _);refine zP rfl rfl (by decide) (by decide) (by first | (simp [-qt,-qd,-ql,rgs,hw,hb0,hb1,hb2,wldV,yN,zX];done) | (simp [-qt,-qd,-ql,rgs,hw,hb0,hb1,hb2,wldV,yN,zX];rfl)) (by first | (simp [-qt,-qd,-ql,rgs,hw,hb0,hb1,hb2,wldV,yN,zX];done) | (simp [-qt,-qd,-ql,rgs,hw,hb0,hb1,hb2,wldV,yN,zX];rfl)) (by first | (simp;done) | (simp;omega)) (by first | (simp only [zW,LIM] at *; simp;omega) | (simp only [zW];simp;omega)) (by simp [iv,bv]) ?_) | (with_reducible refine zF (i:=16) [(0,[],[]),(1,[],[]),(2,[],[]),(3,[],[]),(4,[],[]),(5,[.tmp 74,.tmp 76],[]),(6,[],[]),(7,[],[])] (by kernel_rfl) ?_)) <;> simp [-qt,-qd,-ql,rgs,hw,hb0,hb1,hb2,wldV,yN,zX]) | ((first | (with_reducible refine zE ?_ ?_) | (with_reducible refine zA ?_ ?_)) <;> intro qb <;> (have qp:=qb;try simp only [psq] at qp) <;> simp [-qt,-qd,-ql,rgs,hw,hb0,hb1,hb2,wldV,yN,zX,qb])
       refine zD hE ?_
       try simp [-qt,-qd,-ql,rgs,wldV]
       repeat' first | done | ((first | ((with_reducible show zT _ _ _ _ _ _);refine zB rfl fun _ => ?_) | ((with_reducible show zH _ _ _ _ _ _ _);refine zC rfl omA omA ?_) | ((with_reducible show vS _ _ _ _ _ _ _ _);refine zP rfl rfl (by decide) (by decide) (by first | (simp [-qt,-qd,-ql,rgs,wldV];done) | (simp [-qt,-qd,-ql,rgs,wldV];rfl)) (by first | (simp [-qt,-qd,-ql,rgs,wldV];done) | (simp [-qt,-qd,-ql,rgs,wldV];rfl)) (by first | (simp;done) | (simp;omega)) (by first | (simp only [zW,LIM] at *; simp;omega) | (simp only [zW];simp;omega)) (by simp [iv,bv]) ?_) | (with_reducible refine zF (i:=16) [(0,[],[]),(1,[],[]),(2,[],[]),(3,[],[]),(4,[],[]),(5,[.tmp 74,.tmp 76],[]),(6,[],[]),(7,[],[])] (by kernel_rfl) ?_)) <;> simp [-qt,-qd,-ql,rgs,wldV]) | ((first | (with_reducible refine zE ?_ ?_) | (with_reducible refine zA ?_ ?_)) <;> intro qb <;> (have qp:=qb;try simp only [psq] at qp) <;> simp [-qt,-qd,-ql,rgs,wldV,qb])
  ·have hCf:zH2 w.timers w.now = false:=by simpa using hC
   have hT:uK w.timers w.now = w.timers:=by simp [uK,hCf]
   have hR:zJ1 w.timers w.now = ⟨0,0,0,0,false⟩:=by simp [zJ1,hCf];rfl
   have r1:zR4 w = w:=by simp [zR4,askW,zP5,hw,hCf]
   have r2:ringB w = false:=by simp [ringB,askB,zP5,hCf]
   rw [hT,hR,hCf] at hf
   rw [r1,r2]
   refine PC.o okC Tryz.func16 rfl (hz _ _) fun h nx hnx => ?_
   try simp [-qt,-qd,-ql,rgs,hw,wldV,yN,zX]
   repeat' first | done | ((first | ((with_reducible show zT _ _ _ _ _ _);refine zB rfl fun _ => ?_) | ((with_reducible show zH _ _ _ _ _ _ _);refine zC rfl omA omA ?_) | ((with_reducible show zG _ _ _ 30 _ _);refine zD (zC6 (w:=w) (F:=F)) ?_) | (refine zD (hl13) ?_) | (refine zD (hf) ?_) | ((with_reducible show vS _ _ _ _ _ _ _ _);refine zP rfl rfl (by decide) (by decide) (by first | (simp [-qt,-qd,-ql,rgs,hw,wldV,yN,zX];done) | (simp [-qt,-qd,-ql,rgs,hw,wldV,yN,zX];rfl)) (by first | (simp [-qt,-qd,-ql,rgs,hw,wldV,yN,zX];done) | (simp [-qt,-qd,-ql,rgs,hw,wldV,yN,zX];rfl)) (by first | (simp;done) | (simp;omega)) (by first | (simp only [zW,LIM] at *; simp;omega) | (simp only [zW];simp;omega)) (by simp [iv,bv]) ?_) | (with_reducible refine zF (i:=16) [(0,[],[]),(1,[],[]),(2,[],[]),(3,[],[]),(4,[],[]),(5,[.tmp 74,.tmp 76],[]),(6,[],[]),(7,[],[])] (by kernel_rfl) ?_)) <;> simp [-qt,-qd,-ql,rgs,hw,wldV,yN,zX]) | ((first | (with_reducible refine zE ?_ ?_) | (with_reducible refine zA ?_ ?_)) <;> intro qb <;> (have qp:=qb;try simp only [psq] at qp) <;> simp [-qt,-qd,-ql,rgs,hw,wldV,yN,zX,qb])
 ·have g1:zR4 w = default:=by simp [zR4,askW,hw]
  have g2:ringB w = false:=by simp [ringB,askB,hw]
  rw [g1,g2]
  refine PC.nv (r:=.tup [.agg zG8,.bool false]) ?_ (.tups (.cons (.aggs nvs_world) (.cons (.same _) .nil)))
  refine PC.o okC Tryz.func16 rfl (.tup _ (by simp only [List.mem_cons,List.not_mem_nil,or_false];rintro c (rfl | rfl);exact zeroC_fz;exact .bool _)) fun h nx hnx => ?_
  try simp [-qt,-qd,-ql,rgs,hw,wldV,zG8]
  repeat' first | done | ((first | ((with_reducible show zT _ _ _ _ _ _);refine zB rfl fun _ => ?_) | ((with_reducible show zH _ _ _ _ _ _ _);refine zC rfl omA omA ?_) | ((with_reducible show zG _ _ _ 30 _ _);refine zD (zC6 (w:=w) (F:=F)) ?_) | ((with_reducible show vS _ _ _ _ _ _ _ _);refine zP rfl rfl (by decide) (by decide) (by first | (simp [-qt,-qd,-ql,rgs,hw,wldV,zG8];done) | (simp [-qt,-qd,-ql,rgs,hw,wldV,zG8];rfl)) (by first | (simp [-qt,-qd,-ql,rgs,hw,wldV,zG8];done) | (simp [-qt,-qd,-ql,rgs,hw,wldV,zG8];rfl)) (by first | (simp;done) | (simp;omega)) (by first | (simp only [zW,LIM] at *; simp;omega) | (simp only [zW];simp;omega)) (by simp [iv,bv]) ?_) | (with_reducible refine zF (i:=16) [(0,[],[]),(1,[],[]),(2,[],[]),(3,[],[]),(4,[],[]),(5,[.tmp 74,.tmp 76],[]),(6,[],[]),(7,[],[])] (by kernel_rfl) ?_)) <;> simp [-qt,-qd,-ql,rgs,hw,wldV,zG8]) | ((first | (with_reducible refine zE ?_ ?_) | (with_reducible refine zA ?_ ?_)) <;> intro qb <;> (have qp:=qb;try simp only [psq] at qp) <;> simp [-qt,-qd,-ql,rgs,hw,wldV,zG8,qb])
end Go.AE.Tryz
end
section
/- The law of timers that ring: what the program and the reference make of a world is the same, in memory of its own. -/
set_option maxRecDepth 8000
set_option maxHeartbeats 4000000
namespace Go.AE.Tryz
open Go.Proofs
open List renaming map_take → qt,map_drop → qd,map_tail → ql
theorem law_DrainIn {w:Wld}  : PC ctx.P 5 [.agg (wldV (fun _=>true) w)] (.bool true):=by
 by_cases hs:zD4 w ≤ 1048576
 ·have e:szR (zD4 w) 1048576 = 1048576 - zD4 w:=by rcases zA6 (zD4 w) 1048576 with q | q <;> omega
  have hs2:zD4 (zR4 w) ≤ 1048576:=ask_sz hs
  have hcB:∀ (F:Nat → Bool),WC ctx.P 17 [.agg (wldV F w)] (fun X=>.tup [.agg (uL X (zR4 w)),.bool (ringB w)]) (zR4 w):=fun F=>w_DrainIn hs
  have hcS:=s_DrainIn (F:=fun _=>true) hs
  generalize zR4 w = W at *
  generalize ringB w = B at *
  refine PC.o okC Tryz.func5 rfl (.bool _) fun h nx hnx => ?_
  try simp [-qt,-qd,-ql,rgs,e,vJ,vZ,vH]
  repeat' first | done | ((first | ((with_reducible show zG _ _ _ 7 _ _);refine zD (c_szWorld (s:=w) (F:=fun _=>true) (by omega) (by omega)) ?_) | (with_reducible refine zF (i:=10) [(0,[],[]),(1,[],[]),(2,[.tmp 6],[]),(3,[],[]),(4,[],[])] (by kernel_rfl) ?_)) <;> simp [-qt,-qd,-ql,rgs,e,vJ,vZ,vH]) | ((first | (with_reducible refine zE ?_ ?_) | (with_reducible refine zA ?_ ?_)) <;> intro qb <;> (have qp:=qb;try simp only [psq] at qp) <;> simp [-qt,-qd,-ql,rgs,e,vJ,vZ,vH,qb])
  all_goals first | omega | skip
  refine zD (s_toWorld (s:=w) (F:=fun _=>true) hs) ?_
  try simp [-qt,-qd,-ql,rgs,vJ,vZ,vH]
  repeat' first | done | ((first | (refine zD (hcS) ?_) | (with_reducible refine zF (i:=10) [(0,[],[]),(1,[],[]),(2,[.tmp 6],[]),(3,[],[]),(4,[],[])] (by kernel_rfl) ?_)) <;> simp [-qt,-qd,-ql,rgs,vJ,vZ,vH]) | ((first | (with_reducible refine zE ?_ ?_) | (with_reducible refine zA ?_ ?_)) <;> intro qb <;> (have qp:=qb;try simp only [psq] at qp) <;> simp [-qt,-qd,-ql,rgs,vJ,vZ,vH,qb])
  refine vC (w_toWorld (F:=fun _=>true) hs) trivial ?_
  rintro r h1 n1 ⟨hK1,X,rfl,V1,hid1⟩ hle1 hfr1
  dsimp only at hK1 hid1 hle1
  try simp [-qt,-qd,-ql,rgs,zS X w,yO,yH]
  repeat' first | done | ((first | (with_reducible refine zF (i:=10) [(0,[],[]),(1,[],[]),(2,[.tmp 6],[]),(3,[],[]),(4,[],[])] (by kernel_rfl) ?_)) <;> simp [-qt,-qd,-ql,rgs,zS X w,yO,yH]) | ((first | (with_reducible refine zE ?_ ?_) | (with_reducible refine zA ?_ ?_)) <;> intro qb <;> (have qp:=qb;try simp only [psq] at qp) <;> simp [-qt,-qd,-ql,rgs,zS X w,yO,yH,qb])
  refine call_wcB (hcB FF) (fun X=>rrW_cl X W B) ?hb ?_
  case hb=>exact .cons (.agg1 (V1.keep fun id hid=>by have:=hid1 id hid;dsimp only;repeat rw [zJ _ _ _ _ (by omega)]).bors) (.nil)
  intro X2 h2 n2 V2 hid2 hle2 hf2
  dsimp only at hid2 hle2 hf2
  have nX2:∀ j,j < n1 + 8 ∨ n2 ≤ j → j ∉ X2.ids:=fun j hj hm=>by have:=hid2 j hm;omega
  have oS2:h2 (nx + 15) = some (.obj (wldV (fun _=>true) W)):=by
   rw [hf2 _ (nX2 _ (by omega))]
   repeat rw [zJ _ _ _ _ (by omega)]
   rw [hK1 _ (by omega),zL]
  have n16:(nx + 15 = n1 + 5) = False:=by simp only [eq_iff_iff,iff_false];omega
  try simp [-qt,-qd,-ql,rgs,n16,oS2,vJ,vZ,vH,zS X2 W,yO,yH]
  repeat' first | done | ((first | (with_reducible refine zF (i:=10) [(0,[],[]),(1,[],[]),(2,[.tmp 6],[]),(3,[],[]),(4,[],[])] (by kernel_rfl) ?_)) <;> simp [-qt,-qd,-ql,rgs,n16,oS2,vJ,vZ,vH,zS X2 W,yO,yH]) | ((first | (with_reducible refine zE ?_ ?_) | (with_reducible refine zA ?_ ?_)) <;> intro qb <;> (have qp:=qb;try simp only [psq] at qp) <;> simp [-qt,-qd,-ql,rgs,n16,oS2,vJ,vZ,vH,zS X2 W,yO,yH,qb])
  generalize hH:upd (upd h2 (n1 + 5) _) (n1 + 5) (some (Ent.obj (uL X2 W))) = H3
  have hX:∀ j ∈ X.ids,nx + 22 ≤ j ∧ j < n1:=hid1
  have hX2:∀ j ∈ X2.ids,n1 + 8 ≤ j ∧ j < n2:=hid2
  have nX:∀ j,j < nx + 22 ∨ n1 ≤ j → j ∉ X.ids:=fun j hj hm=>by have:=hX j hm;omega
  have V3:WV H3 X w:=hH ▸ (V1.keep fun id hid=>by have:=hX id hid;(repeat rw [zJ _ _ _ _ (by omega)]);rw [hf2 id (nX2 _ (by omega))];repeat rw [zJ _ _ _ _ (by omega)])
  have G3:WV H3 X2 W:=hH ▸ (V2.keep fun id hid=>by have:=hX2 id hid;repeat rw [zJ _ _ _ _ (by omega)])
  have oG3:H3 (n1 + 5) = some (.obj (uL X2 W)):=by rw [← hH,zL]
  have oX3:H3 (nx + 20) = some (.obj (uL X w)):=by
   rw [← hH]
   repeat rw [zJ _ _ _ _ (by omega)]
   rw [hf2 _ (nX2 _ (by omega)),zL]
  have oS3:H3 (nx + 15) = some (.obj (wldV (fun _=>true) W)):=by
   rw [← hH]
   repeat rw [zJ _ _ _ _ (by omega)]
   rw [hf2 _ (nX2 _ (by omega))]
   repeat rw [zJ _ _ _ _ (by omega)]
   rw [hK1 _ (by omega),zL]
  have oA3:H3 nx = some (.obj (wldV (fun _=>true) w)):=by
   rw [← hH]
   repeat rw [zJ _ _ _ _ (by omega)]
   rw [hf2 _ (nX2 _ (by omega))]
   repeat rw [zJ _ _ _ _ (by omega)]
   rw [hK1 _ (by omega)]
   repeat rw [zJ _ _ _ _ (by omega)]
   rw [zL]
  have K3:KeepB nx H3 h:=fun j hj=>by
   rw [← hH]
   repeat rw [zJ _ _ _ _ (by omega)]
   rw [hf2 _ (nX2 _ (by omega))]
   repeat rw [zJ _ _ _ _ (by omega)]
   rw [hK1 _ (by omega)]
   repeat rw [zJ _ _ _ _ (by omega)]
  clear hH hf2 hK1 V1 V2 hid1 hid2
  refine yT (zS2 (x:=W) (y:=W) (F1:=FF) (F2:=fun _=>true)) (.bool _) ?hb3 ?_
  case hb3=>exact .cons (.agg1 G3.bors) (.cons (.same _) .nil)
  try simp [-qt,-qd,-ql,rgs,oG3,oS3,oX3,oA3,vJ,vZ,vH,zS X w,zS X2 W,yO,yH]
  repeat' first | done | ((first | ((with_reducible show zG _ _ _ 9 _ _);refine zD (s_toWorld (s:=w) (F:=fun _=>true) hs) ?_) | (with_reducible refine zF (i:=10) [(0,[],[]),(1,[],[]),(2,[.tmp 6],[]),(3,[],[]),(4,[],[])] (by kernel_rfl) ?_)) <;> simp [-qt,-qd,-ql,rgs,oG3,oS3,oX3,oA3,vJ,vZ,vH,zS X w,zS X2 W,yO,yH]) | ((first | (with_reducible refine zE ?_ ?_) | (with_reducible refine zA ?_ ?_)) <;> intro qb <;> (have qp:=qb;try simp only [psq] at qp) <;> simp [-qt,-qd,-ql,rgs,oG3,oS3,oX3,oA3,vJ,vZ,vH,zS X w,zS X2 W,yO,yH,qb])
  refine yT (zS2 (x:=w) (y:=w) (F1:=FF) (F2:=fun _=>true)) (.bool _) ?hb4 ?_
  case hb4=>exact .cons (.agg1 V3.bors) (.cons (.same _) .nil)
  try simp [-qt,-qd,-ql,rgs,oX3,vJ,vZ,vH,zS X w,zS X2 W,yO,yH]
  repeat' first | done | ((first | (with_reducible refine zF (i:=10) [(0,[],[]),(1,[],[]),(2,[.tmp 6],[]),(3,[],[]),(4,[],[])] (by kernel_rfl) ?_)) <;> simp [-qt,-qd,-ql,rgs,oX3,vJ,vZ,vH,zS X w,zS X2 W,yO,yH]) | ((first | (with_reducible refine zE ?_ ?_) | (with_reducible refine zA ?_ ?_)) <;> intro qb <;> (have qp:=qb;try simp only [psq] at qp) <;> simp [-qt,-qd,-ql,rgs,oX3,vJ,vZ,vH,zS X w,zS X2 W,yO,yH,qb])
  refine vC (m_markWorld (X:=X) (w:=w) (k:=1) hs (by omega) (by omega)) V3 ?_
  rintro r H4 n4 ⟨rfl,V4,f4⟩ hle4 hfr4
  dsimp only at V4 f4 hle4
  have oG4:=f4 (n1 + 5) (by omega) (nX _ (by omega))
  have oS4:=f4 (nx + 15) (by omega) (nX _ (by omega))
  have oA4:=f4 nx (by omega) (nX _ (by omega))
  rw [oG3] at oG4
  rw [oS3] at oS4
  rw [oA3] at oA4
  have G4:WV H4 X2 W:=G3.keep fun id hid=>f4 id (by have:=hX2 id hid;omega) (nX _ (by have:=hX2 id hid;omega))
  have K4:KeepB nx H4 h:=fun j hj=>by rw [f4 j (by omega) (nX _ (by omega)),K3 j hj]
  have z4:(kZ w 1 < 0) = False:=by
   simp only [eq_iff_iff,iff_false]
   simp only [kZ,kR,kB,kV,kG,kK,kF,kU,kA,kL,kH,kW,kS,kE,kT];omega
  clear hfr4
  try simp [-qt,-qd,-ql,rgs,z4,oG4,oS4,vJ,vZ,vH,zS X w,zS X2 W,yO,yH]
  repeat' first | done | ((first | (with_reducible refine zF (i:=10) [(0,[],[]),(1,[],[]),(2,[.tmp 6],[]),(3,[],[]),(4,[],[])] (by kernel_rfl) ?_)) <;> simp [-qt,-qd,-ql,rgs,z4,oG4,oS4,vJ,vZ,vH,zS X w,zS X2 W,yO,yH]) | ((first | (with_reducible refine zE ?_ ?_) | (with_reducible refine zA ?_ ?_)) <;> intro qb <;> (have qp:=qb;try simp only [psq] at qp) <;> simp [-qt,-qd,-ql,rgs,z4,oG4,oS4,vJ,vZ,vH,zS X w,zS X2 W,yO,yH,qb])
  refine yT (zS2 (x:=W) (y:=W) (F1:=FF) (F2:=fun _=>true)) (.bool _) ?hb5 ?_
  case hb5=>exact .cons (.agg1 G4.bors) (.cons (.same _) .nil)
  try simp [-qt,-qd,-ql,rgs,z4,oG4,oS4,vJ,vZ,vH,zS X w,zS X2 W,yO,yH]
  repeat' first | done | ((first | (with_reducible refine zF (i:=10) [(0,[],[]),(1,[],[]),(2,[.tmp 6],[]),(3,[],[]),(4,[],[])] (by kernel_rfl) ?_)) <;> simp [-qt,-qd,-ql,rgs,z4,oG4,oS4,vJ,vZ,vH,zS X w,zS X2 W,yO,yH]) | ((first | (with_reducible refine zE ?_ ?_) | (with_reducible refine zA ?_ ?_)) <;> intro qb <;> (have qp:=qb;try simp only [psq] at qp) <;> simp [-qt,-qd,-ql,rgs,z4,oG4,oS4,vJ,vZ,vH,zS X w,zS X2 W,yO,yH,qb])
  refine vC (m_markWorld (X:=X2) (w:=W) (k:=1) hs2 (by omega) (by omega)) G4 ?_
  rintro r H5 n5 ⟨rfl,G5,f5⟩ hle5 hfr5
  dsimp only at G5 f5 hle5
  have oG5:=f5 (n1 + 5) (by omega) (nX2 _ (by omega))
  have oS5:=f5 (nx + 15) (by omega) (nX2 _ (by omega))
  have oA5:=f5 nx (by omega) (nX2 _ (by omega))
  rw [oG4] at oG5
  rw [oS4] at oS5
  rw [oA4] at oA5
  have K5:KeepB nx H5 h:=fun j hj=>by rw [f5 j (by omega) (nX2 _ (by omega)),K4 j hj]
  have z5:(kZ W 1 < 0) = False:=by
   simp only [eq_iff_iff,iff_false]
   simp only [kZ,kR,kB,kV,kG,kK,kF,kU,kA,kL,kH,kW,kS,kE,kT];omega
  clear hfr5
  try simp [-qt,-qd,-ql,rgs,z5,oG5,vJ,vZ,vH,zS X w,zS X2 W,yO,yH]
  repeat' first | done | ((first | (with_reducible refine zF (i:=10) [(0,[],[]),(1,[],[]),(2,[.tmp 6],[]),(3,[],[]),(4,[],[])] (by kernel_rfl) ?_)) <;> simp [-qt,-qd,-ql,rgs,z5,oG5,vJ,vZ,vH,zS X w,zS X2 W,yO,yH]) | ((first | (with_reducible refine zE ?_ ?_) | (with_reducible refine zA ?_ ?_)) <;> intro qb <;> (have qp:=qb;try simp only [psq] at qp) <;> simp [-qt,-qd,-ql,rgs,z5,oG5,vJ,vZ,vH,zS X w,zS X2 W,yO,yH,qb])
  refine yT (h_heldWorld (F:=FF) (w:=W) (k:=1) hs2 (by omega) (by omega)) (.int _ _) ?hb6 ?_
  case hb6=>exact .cons (.agg1 (wldR_mk X2 W 1 ▸ G5.bors)) (.cons (.same _) .nil)
  try simp [-qt,-qd,-ql,rgs,z5,oA5,vJ,vZ,vH,zS X w,zS X2 W,yO,yH]
  repeat' first | done | ((first | ((with_reducible show zG _ _ _ 9 _ _);refine zD (s_toWorld (s:=w) (F:=fun _=>true) hs) ?_) | (with_reducible refine zF (i:=10) [(0,[],[]),(1,[],[]),(2,[.tmp 6],[]),(3,[],[]),(4,[],[])] (by kernel_rfl) ?_)) <;> simp [-qt,-qd,-ql,rgs,z5,oA5,vJ,vZ,vH,zS X w,zS X2 W,yO,yH]) | ((first | (with_reducible refine zE ?_ ?_) | (with_reducible refine zA ?_ ?_)) <;> intro qb <;> (have qp:=qb;try simp only [psq] at qp) <;> simp [-qt,-qd,-ql,rgs,z5,oA5,vJ,vZ,vH,zS X w,zS X2 W,yO,yH,qb])
  refine call_wc (hcB _) ?_
  intro X6 H6 n6 V6 hid6 hle6 f6
  dsimp only at hid6 hle6 f6
  have nX6:∀ j,j < n5 → j ∉ X6.ids:=fun j hj hm=>by have:=hid6 j hm;omega
  have oG6:=f6 (n1 + 5) (nX6 _ (by omega))
  have oS6:=f6 (nx + 15) (nX6 _ (by omega))
  rw [oG5] at oG6
  rw [oS5] at oS6
  have G6:WV H6 X2 (mkWld W 1):=G5.keep fun id hid=>f6 id (nX6 _ (by have:=hX2 id hid;omega))
  have K6:KeepB nx H6 h:=fun j hj=>by rw [f6 j (nX6 _ (by omega)),K5 j hj]
  have n17:(nx + 15 = n5 + 16) = False:=by simp only [eq_iff_iff,iff_false];omega
  have m18:∀ k,(n1 = n5 + k) = False:=fun k=>by simp only [eq_iff_iff,iff_false];omega
  have m19:∀ k,(nx = n5 + k) = False:=fun k=>by simp only [eq_iff_iff,iff_false];omega
  have m17:(n1 + 5 = n5 + 16) = False:=by simp only [eq_iff_iff,iff_false];omega
  try simp [-qt,-qd,-ql,rgs,n17,m17,m18,m19,z5,oG6,oS6,zS X6 W,vJ,vZ,vH,zS X2 W,yO,yH]
  repeat' first | done | ((first | (with_reducible refine zF (i:=10) [(0,[],[]),(1,[],[]),(2,[.tmp 6],[]),(3,[],[]),(4,[],[])] (by kernel_rfl) ?_)) <;> simp [-qt,-qd,-ql,rgs,n17,m17,m18,m19,z5,oG6,oS6,zS X6 W,vJ,vZ,vH,zS X2 W,yO,yH]) | ((first | (with_reducible refine zE ?_ ?_) | (with_reducible refine zA ?_ ?_)) <;> intro qb <;> (have qp:=qb;try simp only [psq] at qp) <;> simp [-qt,-qd,-ql,rgs,n17,m17,m18,m19,z5,oG6,oS6,zS X6 W,vJ,vZ,vH,zS X2 W,yO,yH,qb])
  refine yT (zS2 (x:=W) (y:=W) (F1:=FF) (F2:=fun _=>true)) (.bool _) ?hb7 ?_
  case hb7=>exact .cons (.agg1 (V6.keep fun id hid=>by have:=hid6 id hid;dsimp only;repeat rw [zJ _ _ _ _ (by omega)]).bors) (.cons (.same _) .nil)
  try simp [-qt,-qd,-ql,rgs,n17,m17,m18,m19,z5,oG6,oS6,zS X6 W,vJ,vZ,vH,zS X2 W,yO,yH]
  repeat' first | done | ((first | (with_reducible refine zF (i:=10) [(0,[],[]),(1,[],[]),(2,[.tmp 6],[]),(3,[],[]),(4,[],[])] (by kernel_rfl) ?_)) <;> simp [-qt,-qd,-ql,rgs,n17,m17,m18,m19,z5,oG6,oS6,zS X6 W,vJ,vZ,vH,zS X2 W,yO,yH]) | ((first | (with_reducible refine zE ?_ ?_) | (with_reducible refine zA ?_ ?_)) <;> intro qb <;> (have qp:=qb;try simp only [psq] at qp) <;> simp [-qt,-qd,-ql,rgs,n17,m17,m18,m19,z5,oG6,oS6,zS X6 W,vJ,vZ,vH,zS X2 W,yO,yH,qb])
  refine yT (h_heldWorld (F:=FF) (w:=W) (k:=1) hs2 (by omega) (by omega)) (.int _ _) ?hb8 ?_
  case hb8=>exact .cons (.agg1 (wldR_mk X2 W 1 ▸ (G6.keep fun id hid=>by have:=hX2 id hid;dsimp only;repeat rw [zJ _ _ _ _ (by omega)]).bors)) (.cons (.same _) .nil)
  try simp [-qt,-qd,-ql,rgs,z5]
  repeat' first | done | ((first | (with_reducible refine zF (i:=10) [(0,[],[]),(1,[],[]),(2,[.tmp 6],[]),(3,[],[]),(4,[],[])] (by kernel_rfl) ?_)) <;> simp [-qt,-qd,-ql,rgs,z5]) | ((first | (with_reducible refine zE ?_ ?_) | (with_reducible refine zA ?_ ?_)) <;> intro qb <;> (have qp:=qb;try simp only [psq] at qp) <;> simp [-qt,-qd,-ql,rgs,z5,qb])
  exact zQ6 (by omega) (zQ6 (by omega) K6)
 ·have e:szR (zD4 w) 1048576 = -1:=by rcases zA6 (zD4 w) 1048576 with q | q <;> omega
  refine PC.o okC Tryz.func5 rfl (.bool _) fun h nx hnx => ?_
  try simp [-qt,-qd,-ql,rgs,e]
  repeat' first | done | ((first | ((with_reducible show zG _ _ _ 7 _ _);refine zD (c_szWorld (s:=w) (F:=fun _=>true) (by omega) (by omega)) ?_) | (with_reducible refine zF (i:=10) [(0,[],[]),(1,[],[]),(2,[.tmp 6],[]),(3,[],[]),(4,[],[])] (by kernel_rfl) ?_)) <;> simp [-qt,-qd,-ql,rgs,e]) | ((first | (with_reducible refine zE ?_ ?_) | (with_reducible refine zA ?_ ?_)) <;> intro qb <;> (have qp:=qb;try simp only [psq] at qp) <;> simp [-qt,-qd,-ql,rgs,e,qb])
end Go.AE.Tryz
end
