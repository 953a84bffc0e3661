/- Contracts of the seat's functions: what each answers, for all arguments. -/
import Derived.Test.YtfffnioddgeohaaGreatB1
import Derived.Test.YtfffnioddgeohaaGreatA3
import Derived.Test.YtfffnioddgeohaaGreatA2
set_option linter.unusedVariables false
set_option linter.unusedSimpArgs false
set_option linter.deprecated false
section
/- Contracts of the laws' marks of a world. -/
set_option maxRecDepth 8000
set_option maxHeartbeats 4000000
namespace Go.AE.Tryz
open Go.Proofs
open List renaming map_take → qt,map_drop → qd,map_tail → ql
def kT (w:Wld) (k:Int):Int:=k + 3 * (uS (·.length) w.progs:Int)
def kE (w:Wld) (k:Int):Int:=kT w k + (5:Nat) * (w.tree.length:Int)
def kS (w:Wld) (k:Int):Int:=kE w k + (4:Nat) * (w.events.length:Int)
def kW (w:Wld) (k:Int):Int:=kS w k + (w.spread.told.length:Int)
def kH (w:Wld) (k:Int):Int:=kW w k + (w.spread.work.length:Int)
def kL (w:Wld) (k:Int):Int:=kH w k + (3:Nat) * (w.timers.heap.length:Int)
def kA (w:Wld) (k:Int):Int:=kL w k + (5:Nat) * (w.timers.list.length:Int)
def kU (w:Wld) (k:Int):Int:=kA w k + (w.afters.slots.ages.length:Int)
def kF (w:Wld) (k:Int):Int:=kU w k + (w.afters.slots.used.length:Int)
def kK (w:Wld) (k:Int):Int:=kF w k + (5:Nat) * (w.afters.list.length:Int)
def kG (w:Wld) (k:Int):Int:=kK w k + (9:Nat) * (w.tasks.length:Int)
def kV (w:Wld) (k:Int):Int:=kG w k + (uS gsz w.groups:Int)
def kB (w:Wld) (k:Int):Int:=kV w k + (4:Nat) * (w.sights.length:Int)
def kR (w:Wld) (k:Int):Int:=kB w k + (1:Nat) * (w.began.length:Int)
def kZ (w:Wld) (k:Int):Int:=kR w k + (1:Nat) * (w.rang.length:Int)
def mkSpr (w:Wld) (k:Int):Spr:=⟨yD zA3 1 (kS w k) w.spread.told.length,yD zD5 1 (kW w k) w.spread.work.length⟩
def mkTms (w:Wld) (k:Int):Tms:=⟨yD zO5 3 (kH w k) w.timers.heap.length,yD zO9 5 (kL w k) w.timers.list.length,w.timers.next⟩
def mkAfs (w:Wld) (k:Int):Afs:=⟨⟨yD zD5 1 (kA w k) w.afters.slots.ages.length,yD zA3 1 (kU w k) w.afters.slots.used.length⟩,yD zO3 5 (kF w k) w.afters.list.length⟩
def mkWld (w:Wld) (k:Int):Wld:=⟨w.now,vS w.progs k,yD mkNod 5 (kT w k) w.tree.length,yD mkEvt 4 (kE w k) w.events.length,mkSpr w k,mkTms w k,mkAfs w k,yD mkTsk 9 (kK w k) w.tasks.length,zC6 w.groups (kG w k),yD mkSgt 4 (kV w k) w.sights.length,yD zD5 1 (kB w k) w.began.length,yD zD5 1 (kR w k) w.rang.length⟩
theorem lsum_gsz:∀ (l:List Grp),uS gsz l = 4 * l.length + uS (·.waits.length) l
 | []=>rfl
 | g :: l=>by simp only [uS,lsum_gsz l,List.length_cons,gsz];omega
theorem m_markWorld {X:WI} {w:Wld} {k:Int} (hs:zB8 w ≤ 1048576) (h0:0 ≤ k) (h1:k ≤ 1048576):AC ctx.P 22 [.agg (zB7 X w),.int .i64 k] (fun h _=>WV h X w)
 (fun h nx v h' nx'=>v = .int .i64 (kZ w k) ∧ WV h' X (mkWld w k) ∧ ∀ j,j < nx → j ∉ X.ids → h' j = h j):=by
 simp only [zB8,afssz,tmssz,sprsz,sltsz] at hs
 have hm:LIM = 140737488355328:=rfl
 have hgz:=lsum_gsz w.groups
 refine AC.o okC Tryz.func22 rfl fun h nx hfr hnx hpre => ?_
 have hin:∀ j ∈ X.ids,j < nx:=hpre.lt hnx
 have hinn:nx ∉ X.ids:=fun hj=>by have:=hin nx hj;omega
 try simp [-qt,-qd,-ql,rgs,zB7]
 have V0:WV (upd h nx (some (.obj (zB7 X w)))) X w:=hpre.keep fun id hid=>zF _ _ _ _ (by have:=hin id hid;omega)
 have g0:upd h nx (some (.obj (zB7 X w))) nx = some (.obj (zB7 X w)):=zJ ..
 have Fr0:∀ j,j < nx → j ∉ X.ids → upd h nx (some (.obj (zB7 X w))) j = h j:=fun j hj _=>zF _ _ _ _ (by omega)
 simp only [zB7] at V0 g0 Fr0
 refine yP (m_markInsSS (id:=X.top 0) (lo:=0) (hi:=nx) (xs:=w.progs) (is:=X.pg) (k:=k) V0.pl (by omega) (fun x hx=>by have:=zB0 (·.length) hx;omega) h0 (by omega) (V0.top_pg (by omega))) ⟨V0.top 0 (by omega),V0.subsP hin⟩ ?_
 rintro r h1 n1 ⟨hv1,q1,f1⟩ hle1 hfr1
 dsimp only at q1 f1 hle1
 obtain ⟨k1,hk1⟩:∃ y:Int,y = k + 3 * (uS (·.length) w.progs:Int):=⟨_,rfl⟩
 rw [← hk1] at hv1
 subst hv1
 have V1:WV h1 X { w with progs:=vS w.progs k }:=V0.setProgs q1 (vH _ _) (by rw [f1 _ (by have:=hin _ (WI.top_mem (X:=X) (k:=0) (by omega));omega) (V0.top_pg (by omega)),V0.top 0 (by omega)];simp only [zK2,zip_mkProgs]) (fun k hk hne=>by rcases lt15 hk with rfl | rfl | rfl | rfl | rfl | rfl | rfl | rfl | rfl | rfl | rfl | rfl | rfl | rfl | rfl <;> first | exact absurd rfl hne | rfl) rfl (fun j hj hn _=>f1 j (by have:=hin j hj;omega) hn)
 have g1:=f1 nx (by omega) (fun e=>hinn (WI.pg_mem e))
 rw [g0] at g1
 have Fr1:∀ j,j < nx → j ∉ X.ids → h1 j = h j:=fun j hj hn=>(f1 j (by omega) (fun e=>hn (WI.pg_mem e))).trans (Fr0 j hj hn)
 clear hfr1
 try simp [-qt,-qd,-ql,rgs,g1]
 refine yP (m_markNodeS (id:=X.top 1) (xs:=w.tree) (k:=k1) (by omega) (by omega) (by omega)) (V1.top 1 (by omega)) ?_
 rintro r h2 n2 ⟨hv2,q2_0,f2⟩ hle2 hfr2
 dsimp only at q2_0 f2 hle2
 obtain ⟨k2,hk2⟩:∃ y:Int,y = k1 + (5:Nat) * (w.tree.length:Int):=⟨_,rfl⟩
 rw [← hk2] at hv2
 subst hv2
 have V2:=V1.setTree q2_0 (fun j hj hn=>f2 j (by have:=hin j hj;omega) hn)
 have g2:=f2 nx (by omega) (fun e=>hinn (e ▸ WI.top_mem (X:=X) (k:=1) (by omega)))
 rw [g1] at g2
 have Fr2:∀ j,j < nx → j ∉ X.ids → h2 j = h j:=fun j hj hn=>(f2 j (by omega) (fun e=>hn (e ▸ WI.top_mem (X:=X) (k:=1) (by omega)))).trans (Fr1 j hj hn)
 clear hfr2
 try simp [-qt,-qd,-ql,rgs,g2]
 refine yP (m_markEventS (id:=X.top 2) (xs:=w.events) (k:=k2) (by omega) (by omega) (by omega)) (V2.top 2 (by omega)) ?_
 rintro r h3 n3 ⟨hv3,q3_0,f3⟩ hle3 hfr3
 dsimp only at q3_0 f3 hle3
 obtain ⟨k3,hk3⟩:∃ y:Int,y = k2 + (4:Nat) * (w.events.length:Int):=⟨_,rfl⟩
 rw [← hk3] at hv3
 subst hv3
 have V3:=V2.setEvents q3_0 (fun j hj hn=>f3 j (by have:=hin j hj;omega) hn)
 have g3:=f3 nx (by omega) (fun e=>hinn (e ▸ WI.top_mem (X:=X) (k:=2) (by omega)))
 rw [g2] at g3
 have Fr3:∀ j,j < nx → j ∉ X.ids → h3 j = h j:=fun j hj hn=>(f3 j (by omega) (fun e=>hn (e ▸ WI.top_mem (X:=X) (k:=2) (by omega)))).trans (Fr2 j hj hn)
 clear hfr3
 try simp [-qt,-qd,-ql,rgs,g3]
 refine yP (m_markSpread (ia:=X.top 3) (ib:=X.top 4) (told:=w.spread.told) (work:=w.spread.work) (k:=k3) (fun e=>absurd (hpre.top_inj (by omega) (by omega) e) (by omega)) (by omega) (by omega) (by omega) (by omega)) ⟨V3.top 3 (by omega),V3.top 4 (by omega)⟩ ?_
 rintro r h4 n4 ⟨hv4,q4_0,q4_1,f4⟩ hle4 hfr4
 dsimp only at q4_0 q4_1 f4 hle4
 obtain ⟨k4,hk4⟩:∃ y:Int,y = k3 + (w.spread.told.length:Int) + (w.spread.work.length:Int):=⟨_,rfl⟩
 rw [← hk4] at hv4
 subst hv4
 have V4:=V3.setSpread (s:=⟨yD zA3 1 k3 w.spread.told.length,yD zD5 1 (k3 + (w.spread.told.length:Int)) w.spread.work.length⟩) q4_0 q4_1 (fun j hj ha hb=>f4 j (by have:=hin j hj;omega) ha hb)
 have g4:=f4 nx (by omega) (fun e=>hinn (e ▸ WI.top_mem (X:=X) (k:=3) (by omega))) (fun e=>hinn (e ▸ WI.top_mem (X:=X) (k:=4) (by omega)))
 rw [g3] at g4
 have Fr4:∀ j,j < nx → j ∉ X.ids → h4 j = h j:=fun j hj hn=>(f4 j (by omega) (fun e=>hn (e ▸ WI.top_mem (X:=X) (k:=3) (by omega))) (fun e=>hn (e ▸ WI.top_mem (X:=X) (k:=4) (by omega)))).trans (Fr3 j hj hn)
 clear hfr4
 try simp [-qt,-qd,-ql,rgs,g4]
 refine yP (m_markTimers (ia:=X.top 5) (ib:=X.top 6) (hp:=w.timers.heap) (lst:=w.timers.list) (k:=k4) (fun e=>absurd (hpre.top_inj (by omega) (by omega) e) (by omega)) (by omega) (by omega) (by omega) (by omega)) ⟨V4.top 5 (by omega),V4.top 6 (by omega)⟩ ?_
 rintro r h5 n5 ⟨hv5,q5_0,q5_1,f5⟩ hle5 hfr5
 dsimp only at q5_0 q5_1 f5 hle5
 obtain ⟨k5,hk5⟩:∃ y:Int,y = k4 + (3:Nat) * (w.timers.heap.length:Int) + (5:Nat) * (w.timers.list.length:Int):=⟨_,rfl⟩
 rw [← hk5] at hv5
 subst hv5
 have V5:=V4.setTimers (s:=⟨yD zO5 3 k4 w.timers.heap.length,yD zO9 5 (k4 + (3:Nat) * (w.timers.heap.length:Int)) w.timers.list.length,w.timers.next⟩) q5_0 q5_1 (fun j hj ha hb=>f5 j (by have:=hin j hj;omega) ha hb)
 have g5:=f5 nx (by omega) (fun e=>hinn (e ▸ WI.top_mem (X:=X) (k:=5) (by omega))) (fun e=>hinn (e ▸ WI.top_mem (X:=X) (k:=6) (by omega)))
 rw [g4] at g5
 have Fr5:∀ j,j < nx → j ∉ X.ids → h5 j = h j:=fun j hj hn=>(f5 j (by omega) (fun e=>hn (e ▸ WI.top_mem (X:=X) (k:=5) (by omega))) (fun e=>hn (e ▸ WI.top_mem (X:=X) (k:=6) (by omega)))).trans (Fr4 j hj hn)
 clear hfr5
 try simp [-qt,-qd,-ql,rgs,g5]
 refine yP (m_markAfters (ia:=X.top 7) (ib:=X.top 8) (ic:=X.top 9) (ages:=w.afters.slots.ages) (used:=w.afters.slots.used) (lst:=w.afters.list) (k:=k5) (fun e=>absurd (hpre.top_inj (by omega) (by omega) e) (by omega)) (fun e=>absurd (hpre.top_inj (by omega) (by omega) e) (by omega)) (fun e=>absurd (hpre.top_inj (by omega) (by omega) e) (by omega)) (by omega) (by omega) (by omega) (by omega) (by omega)) ⟨V5.top 7 (by omega),V5.top 8 (by omega),V5.top 9 (by omega)⟩ ?_
 rintro r h6 n6 ⟨hv6,q6_0,q6_1,q6_2,f6⟩ hle6 hfr6
 dsimp only at q6_0 q6_1 q6_2 f6 hle6
 obtain ⟨k6,hk6⟩:∃ y:Int,y = k5 + (w.afters.slots.ages.length:Int) + (w.afters.slots.used.length:Int) + (5:Nat) * (w.afters.list.length:Int):=⟨_,rfl⟩
 rw [← hk6] at hv6
 subst hv6
 have V6:=V5.setAfters (s:=⟨⟨yD zD5 1 k5 w.afters.slots.ages.length,yD zA3 1 (k5 + (w.afters.slots.ages.length:Int)) w.afters.slots.used.length⟩,yD zO3 5 (k5 + (w.afters.slots.ages.length:Int) + (w.afters.slots.used.length:Int)) w.afters.list.length⟩) q6_0 q6_1 q6_2 (fun j hj ha hb hc=>f6 j (by have:=hin j hj;omega) ha hb hc)
 have g6:=f6 nx (by omega) (fun e=>hinn (e ▸ WI.top_mem (X:=X) (k:=7) (by omega))) (fun e=>hinn (e ▸ WI.top_mem (X:=X) (k:=8) (by omega))) (fun e=>hinn (e ▸ WI.top_mem (X:=X) (k:=9) (by omega)))
 rw [g5] at g6
 have Fr6:∀ j,j < nx → j ∉ X.ids → h6 j = h j:=fun j hj hn=>(f6 j (by omega) (fun e=>hn (e ▸ WI.top_mem (X:=X) (k:=7) (by omega))) (fun e=>hn (e ▸ WI.top_mem (X:=X) (k:=8) (by omega))) (fun e=>hn (e ▸ WI.top_mem (X:=X) (k:=9) (by omega)))).trans (Fr5 j hj hn)
 clear hfr6
 try simp [-qt,-qd,-ql,rgs,g6]
 refine yP (m_markTaskS (id:=X.top 10) (xs:=w.tasks) (k:=k6) (by omega) (by omega) (by omega)) (V6.top 10 (by omega)) ?_
 rintro r h7 n7 ⟨hv7,q7_0,f7⟩ hle7 hfr7
 dsimp only at q7_0 f7 hle7
 obtain ⟨k7,hk7⟩:∃ y:Int,y = k6 + (9:Nat) * (w.tasks.length:Int):=⟨_,rfl⟩
 rw [← hk7] at hv7
 subst hv7
 have V7:=V6.setTasks q7_0 (fun j hj hn=>f7 j (by have:=hin j hj;omega) hn)
 have g7:=f7 nx (by omega) (fun e=>hinn (e ▸ WI.top_mem (X:=X) (k:=10) (by omega)))
 rw [g6] at g7
 have Fr7:∀ j,j < nx → j ∉ X.ids → h7 j = h j:=fun j hj hn=>(f7 j (by omega) (fun e=>hn (e ▸ WI.top_mem (X:=X) (k:=10) (by omega)))).trans (Fr6 j hj hn)
 clear hfr7
 try simp [-qt,-qd,-ql,rgs,g7]
 refine yP (m_markGroupS (id:=X.top 11) (lo:=0) (hi:=nx) (xs:=w.groups) (is:=X.gr) (k:=k7) V0.gl (by omega) (fun x hx=>by have:=zB0 (·.waits.length) hx;omega) (by omega) (by omega) (V0.top_gr (by omega))) ⟨V7.top 11 (by omega),V7.subsG hin⟩ ?_
 rintro r h8 n8 ⟨hv8,q8_0,q8_1,f8⟩ hle8 hfr8
 dsimp only at q8_0 q8_1 f8 hle8
 obtain ⟨k8,hk8⟩:∃ y:Int,y = k7 + (uS gsz w.groups:Int):=⟨_,rfl⟩
 rw [← hk8] at hv8
 subst hv8
 have V8:=V7.setGroups (w':=⟨w.now,vS w.progs k,_,_,_,_,_,_,zC6 w.groups k7,w.sights,w.began,w.rang⟩) q8_1 (vQ _ _) q8_0 (fun k hk hne=>by rcases lt15 hk with rfl | rfl | rfl | rfl | rfl | rfl | rfl | rfl | rfl | rfl | rfl | rfl | rfl | rfl | rfl <;> first | exact absurd rfl hne | rfl) rfl (fun j hj ha hb=>f8 j (by have:=hin j hj;omega) ha hb)
 have g8:=f8 nx (by omega) (fun e=>hinn (WI.gr_mem e)) (fun e=>hinn (e ▸ WI.top_mem (X:=X) (k:=11) (by omega)))
 rw [g7] at g8
 have Fr8:∀ j,j < nx → j ∉ X.ids → h8 j = h j:=fun j hj hn=>(f8 j (by omega) (fun e=>hn (WI.gr_mem e)) (fun e=>hn (e ▸ WI.top_mem (X:=X) (k:=11) (by omega)))).trans (Fr7 j hj hn)
 clear hfr8
 try simp [-qt,-qd,-ql,rgs,g8]
 refine yP (m_markSightS (id:=X.top 12) (xs:=w.sights) (k:=k8) (by omega) (by omega) (by omega)) (V8.top 12 (by omega)) ?_
 rintro r h9 n9 ⟨hv9,q9_0,f9⟩ hle9 hfr9
 dsimp only at q9_0 f9 hle9
 obtain ⟨k9,hk9⟩:∃ y:Int,y = k8 + (4:Nat) * (w.sights.length:Int):=⟨_,rfl⟩
 rw [← hk9] at hv9
 subst hv9
 have V9:=V8.setSights q9_0 (fun j hj hn=>f9 j (by have:=hin j hj;omega) hn)
 have g9:=f9 nx (by omega) (fun e=>hinn (e ▸ WI.top_mem (X:=X) (k:=12) (by omega)))
 rw [g8] at g9
 have Fr9:∀ j,j < nx → j ∉ X.ids → h9 j = h j:=fun j hj hn=>(f9 j (by omega) (fun e=>hn (e ▸ WI.top_mem (X:=X) (k:=12) (by omega)))).trans (Fr8 j hj hn)
 clear hfr9
 try simp [-qt,-qd,-ql,rgs,g9]
 refine yP (zE9 (id:=X.top 13) (xs:=w.began) (k:=k9) (by omega) (by omega) (by omega)) (V9.top 13 (by omega)) ?_
 rintro r h10 n10 ⟨hv10,q10_0,f10⟩ hle10 hfr10
 dsimp only at q10_0 f10 hle10
 obtain ⟨k10,hk10⟩:∃ y:Int,y = k9 + (1:Nat) * (w.began.length:Int):=⟨_,rfl⟩
 rw [← hk10] at hv10
 subst hv10
 have V10:=V9.setBegan q10_0 (fun j hj hn=>f10 j (by have:=hin j hj;omega) hn)
 have g10:=f10 nx (by omega) (fun e=>hinn (e ▸ WI.top_mem (X:=X) (k:=13) (by omega)))
 rw [g9] at g10
 have Fr10:∀ j,j < nx → j ∉ X.ids → h10 j = h j:=fun j hj hn=>(f10 j (by omega) (fun e=>hn (e ▸ WI.top_mem (X:=X) (k:=13) (by omega)))).trans (Fr9 j hj hn)
 clear hfr10
 try simp [-qt,-qd,-ql,rgs,g10]
 refine yP (zE9 (id:=X.top 14) (xs:=w.rang) (k:=k10) (by omega) (by omega) (by omega)) (V10.top 14 (by omega)) ?_
 rintro r h11 n11 ⟨hv11,q11_0,f11⟩ hle11 hfr11
 dsimp only at q11_0 f11 hle11
 obtain ⟨k11,hk11⟩:∃ y:Int,y = k10 + (1:Nat) * (w.rang.length:Int):=⟨_,rfl⟩
 rw [← hk11] at hv11
 subst hv11
 have V11:=V10.setRang q11_0 (fun j hj hn=>f11 j (by have:=hin j hj;omega) hn)
 have g11:=f11 nx (by omega) (fun e=>hinn (e ▸ WI.top_mem (X:=X) (k:=14) (by omega)))
 rw [g10] at g11
 have Fr11:∀ j,j < nx → j ∉ X.ids → h11 j = h j:=fun j hj hn=>(f11 j (by omega) (fun e=>hn (e ▸ WI.top_mem (X:=X) (k:=14) (by omega)))).trans (Fr10 j hj hn)
 clear hfr11
 try simp [-qt,-qd,-ql,rgs,g11]
 refine ⟨?_,?_,Fr11⟩
 ·simp only [kZ,kR,kB,kV,kG,kK,kF,kU,kA,kL,kH,kW,kS,kE,kT]
  rw [hk11,hk10,hk9,hk8,hk7,hk6,hk5,hk4,hk3,hk2,hk1]
 ·simp only [mkWld,mkSpr,mkTms,mkAfs,kZ,kR,kB,kV,kG,kK,kF,kU,kA,kL,kH,kW,kS,kE,kT]
  subst hk11 hk10 hk9 hk8 hk7 hk6 hk5 hk4 hk3 hk2 hk1
  exact V11
end Go.AE.Tryz
end
section
/- Contracts of the laws' readings of a marked world. -/
set_option maxRecDepth 8000
set_option maxHeartbeats 4000000
namespace Go.AE.Tryz
open Go.Proofs
open List renaming map_take → qt,map_drop → qd,map_tail → ql
theorem mkProgs_gt {xs:List (List Inn)} {k:Int} {i:Nat} (h:i < xs.length):gt (vS xs k) (i:Int) = yD mkInn 3 (k + 3 * uS (·.length) (xs.take i)) xs[i].length:=by
 rw [yU (by rw [vH];exact h)]
 have e:=mkUpto_succ (k:=k) h
 have e2:(vS xs k)[i]? = (zL0 xs k (i + 1))[i]? := by
  unfold zL0
  rw [List.getElem?_append_left (by rw [vH];simp;omega)]
  conv=>lhs;rw [← List.take_append_drop (i + 1) xs,zP7]
  rw [List.getElem?_append_left (by rw [vH];simp;omega)]
 rw [e,List.getElem?_set_self (by simp [zL0,vH];omega)] at e2
 rw [List.getElem?_eq_getElem (by rw [vH];exact h)] at e2
 exact Option.some.inj e2
theorem mkGrps_gt {xs:List Grp} {k:Int} {i:Nat} (h:i < xs.length):gt (zC6 xs k) (i:Int) = mkGrp xs[i] (k + uS gsz (xs.take i)):=by
 rw [yU (by rw [vQ];exact h)]
 have e:=gUpto_succ (k:=k) h
 have e2:(zC6 xs k)[i]? = (zL7 xs k (i + 1))[i]? := by
  unfold zL7
  rw [List.getElem?_append_left (by rw [vQ];simp;omega)]
  conv=>lhs;rw [← List.take_append_drop (i + 1) xs,mkGrps_app]
  rw [List.getElem?_append_left (by rw [vQ];simp;omega)]
 rw [e,List.getElem?_set_self (by rw [gUpto_len (by omega)];exact h)] at e2
 rw [List.getElem?_eq_getElem (by rw [vQ];exact h)] at e2
 exact Option.some.inj e2
theorem h_heldInsSS {p r:Bool} {xs:List (List Inn)} {k:Int} (hlim:xs.length ≤ LIM) (hli:∀ x ∈ xs,x.length ≤ LIM) (h0:0 ≤ k) (h1:k + 3 * uS (·.length) xs ≤ 1152921504606846976) :
 PC ctx.P 84 [.view p 1 ((vS xs k).map (zD7 r)),.int .i64 k] (.int .i64 (k + 3 * uS (·.length) xs)):=by
 refine PC.o okC Tryz.func84 rfl (.int _ _) fun h nx hnx => ?_
 have hml:=vH xs k
 try simp [-qt,-qd,-ql,rgs,hml]
 refine zR [1,4,5,6,7,8,9,10,11,12,13,14,15,16,17,18,19] (xs.length) (fun (i:Nat) a=>[(5,.int .i64 i),(1,.int .i64 (k + 3 * uS (·.length) (xs.take i)))]) (fun i_ a_ h_ _=>(fun i (_:Unit) _=>True) i_ a_ h_) (()) (by simp) ?_ zO (Nat.le_refl _) ?_
 ·trivial
 ·intro i a tm h' n' hle hJ hE hn' next hnx
  try dsimp only at hJ
  have hK:KeepB nx h' h:=KeepB.sub hE zG (by omega)
  simp [-qt,-qd,-ql]
  have hlim0:=hlim
  simp only [LIM] at hlim
  have hb:=uT (·.length) xs i
  by_cases hlt:i < xs.length
  ·have hg:=mkProgs_gt (k:=k) hlt
   have hb2:=zM1 (·.length) xs i hlt
   have hb3:=uT (·.length) xs (i + 1)
   try simp [-qt,-qd,-ql,rgs,hg,hml,zD7,hlt]
   repeat' first | done | ((first | ((with_reducible show zT _ _ _ _ _ _);refine zA rfl fun _ => ?_) | ((with_reducible show zK _ _ _ _ _ _ _);refine zH rfl omA omA ?_) | ((with_reducible show zD _ _ _ 199 _ _);refine zB (h_heldInsS (n:=xs[i].length) (k:=k + 3 * uS (·.length) (xs.take i)) (hli _ (List.getElem_mem hlt)) (by omega) (by omega)) ?_)) <;> simp [-qt,-qd,-ql,rgs,hg,hml,zD7,hlt]) | ((with_reducible refine zC ?_ ?_) <;> intro qb <;> (have qp:=qb;try simp only [psq] at qp) <;> simp [-qt,-qd,-ql,rgs,hg,hml,zD7,hlt,qb])
   all_goals first
   | omega
   | (refine hnx.go () ?_ ?_ ?_ ?_ ?_ ?_
      ·omega
      ·simp [zI hlt hlim0] <;> omega
      ·simp
      ·exact zG
      ·first | omega | (simp;omega)
      trivial)
   | trace_state
  ·have:i = xs.length:=by omega
   subst this
   try simp [-qt,-qd,-ql,rgs,hlt,hml]
   repeat' first | done | (((with_reducible show zT _ _ _ _ _ _);refine zA rfl fun _ => ?_) <;> simp [-qt,-qd,-ql,rgs,hlt,hml]) | fail
   all_goals first
   | omega
   | (simp at *; omega)
   | (refine ⟨?_,zG⟩;simp)
   | trace_state
theorem h_heldGroupS {p r:Bool} {xs:List Grp} {k:Int} (hlim:xs.length ≤ LIM) (hli:∀ x ∈ xs,x.waits.length ≤ LIM) (h0:0 ≤ k) (h1:k + uS gsz xs ≤ 1152921504606846976) :
 PC ctx.P 91 [.view p 5 ((zC6 xs k).map (vJ r)),.int .i64 k] (.int .i64 (k + uS gsz xs)):=by
 refine PC.o okC Tryz.func91 rfl (.int _ _) fun h nx hnx => ?_
 have hml:=vQ xs k
 try simp [-qt,-qd,-ql,rgs,hml]
 refine zR [1,4,5,6,7,8,9,10,11,12,13,14,15,16,17,18,19,20,21,22,23,24,25,26,27,28,29,30,31,32,33,34,35,36,37,38,39,40,41,42,43,44,45,46,47,48,49,50,51,52,53,54,55,56] (xs.length) (fun (i:Nat) a=>[(5,.int .i64 i),(1,.int .i64 (k + uS gsz (xs.take i)))]) (fun i_ a_ h_ _=>(fun i (_:Unit) _=>True) i_ a_ h_) (()) (by simp) ?_ zO (Nat.le_refl _) ?_
 ·trivial
 ·intro i a tm h' n' hle hJ hE hn' next hnx
  try dsimp only at hJ
  have hK:KeepB nx h' h:=KeepB.sub hE zG (by omega)
  simp [-qt,-qd,-ql]
  have hlim0:=hlim
  simp only [LIM] at hlim
  have hb:=uT gsz xs i
  by_cases hlt:i < xs.length
  ·have hg:=mkGrps_gt (k:=k) hlt
   have hb2:=zM1 gsz xs i hlt
   have hb3:=uT gsz xs (i + 1)
   have hgs:gsz xs[i] = 4 + xs[i].waits.length:=rfl
   generalize hkk:k + (uS gsz (xs.take i):Int) = kk at *
   try simp [-qt,-qd,-ql,rgs,hg,hml,vJ,mkGrp,zE (x:=kk + 1) (by omega),zE (x:=kk + 2) (by omega),zE (x:=kk + 3) (by omega),zE (x:=kk + (3 + (xs[i].waits.length:Int))) (by omega),zE (x:=kk + (3 + ((xs[i].waits.length:Int) + 1))) (by omega),hlt,Int.add_assoc]
   repeat' first | done | ((first | ((with_reducible show zT _ _ _ _ _ _);refine zA rfl fun _ => ?_) | ((with_reducible show zK _ _ _ _ _ _ _);refine zH rfl omA omA ?_) | ((with_reducible show zD _ _ _ 93 _ _);refine zB (zE6 (n:=xs[i].waits.length) (k:=kk + 3) (hli _ (List.getElem_mem hlt)) (by omega) (by omega)) ?_)) <;> simp [-qt,-qd,-ql,rgs,hg,hml,vJ,mkGrp,zE (x:=kk + 1) (by omega),zE (x:=kk + 2) (by omega),zE (x:=kk + 3) (by omega),zE (x:=kk + (3 + (xs[i].waits.length:Int))) (by omega),zE (x:=kk + (3 + ((xs[i].waits.length:Int) + 1))) (by omega),hlt,Int.add_assoc]) | ((with_reducible refine zC ?_ ?_) <;> intro qb <;> (have qp:=qb;try simp only [psq] at qp) <;> simp [-qt,-qd,-ql,rgs,hg,hml,vJ,mkGrp,zE (x:=kk + 1) (by omega),zE (x:=kk + 2) (by omega),zE (x:=kk + 3) (by omega),zE (x:=kk + (3 + (xs[i].waits.length:Int))) (by omega),zE (x:=kk + (3 + ((xs[i].waits.length:Int) + 1))) (by omega),hlt,Int.add_assoc,qb])
   all_goals first
   | omega
   | (refine hnx.go () ?_ ?_ ?_ ?_ ?_ ?_
      ·omega
      ·simp [zI hlt hlim0] <;> omega
      ·simp
      ·exact zG
      ·first | omega | (simp;omega)
      trivial)
   | trace_state
  ·have:i = xs.length:=by omega
   subst this
   try simp [-qt,-qd,-ql,rgs,hlt,hml]
   repeat' first | done | (((with_reducible show zT _ _ _ _ _ _);refine zA rfl fun _ => ?_) <;> simp [-qt,-qd,-ql,rgs,hlt,hml]) | fail
   all_goals first
   | omega
   | (simp at *; omega)
   | (refine ⟨?_,zG⟩;simp)
   | trace_state
theorem h_heldSpread {F:Nat → Bool} {n1 n2:Nat} {k:Int} (hl1:n1 ≤ 1048576) (hl2:n2 ≤ 1048576) (h0:0 ≤ k) (h1:k ≤ 1099511627776):PC ctx.P 87 [.agg (uK F ⟨yD zA3 1 k n1,yD zD5 1 (k + (n1:Int)) n2⟩),.int .i64 k] (.int .i64 (k + (n1:Int) + (n2:Int))):=by
 refine PC.o okC Tryz.func87 rfl (.int _ _) fun h nx hnx => ?_
 try simp [-qt,-qd,-ql,rgs,uK]
 repeat' first | done | ((first | ((with_reducible show zD _ _ _ 200 _ _);refine zB (h_heldBoolS (n:=n1) (k:=k) (by simp only [LIM];omega) (by omega) (by omega)) ?_) | ((with_reducible show zD _ _ _ 93 _ _);refine zB (zE6 (n:=n2) (k:=k + (n1:Int)) (by simp only [LIM];omega) (by omega) (by omega)) ?_)) <;> simp [-qt,-qd,-ql,rgs,uK]) | ((with_reducible refine zC ?_ ?_) <;> intro qb <;> (have qp:=qb;try simp only [psq] at qp) <;> simp [-qt,-qd,-ql,rgs,uK,qb])
 all_goals first
 | omega
 | (simp at *; omega)
 | trace_state
theorem h_heldSlots {F:Nat → Bool} {n1 n2:Nat} {k:Int} (hl1:n1 ≤ 1048576) (hl2:n2 ≤ 1048576) (h0:0 ≤ k) (h1:k ≤ 1099511627776):PC ctx.P 203 [.agg (uD F ⟨yD zD5 1 k n1,yD zA3 1 (k + (n1:Int)) n2⟩),.int .i64 k] (.int .i64 (k + (n1:Int) + (n2:Int))):=by
 refine PC.o okC Tryz.func203 rfl (.int _ _) fun h nx hnx => ?_
 try simp [-qt,-qd,-ql,rgs,uD]
 repeat' first | done | ((first | ((with_reducible show zD _ _ _ 93 _ _);refine zB (zE6 (n:=n1) (k:=k) (by simp only [LIM];omega) (by omega) (by omega)) ?_) | ((with_reducible show zD _ _ _ 200 _ _);refine zB (h_heldBoolS (n:=n2) (k:=k + (n1:Int)) (by simp only [LIM];omega) (by omega) (by omega)) ?_)) <;> simp [-qt,-qd,-ql,rgs,uD]) | ((with_reducible refine zC ?_ ?_) <;> intro qb <;> (have qp:=qb;try simp only [psq] at qp) <;> simp [-qt,-qd,-ql,rgs,uD,qb])
 all_goals first
 | omega
 | (simp at *; omega)
 | trace_state
theorem h_heldTimers {F:Nat → Bool} {n1 n2:Nat} {k z:Int} (hl1:n1 ≤ 1048576) (hl2:n2 ≤ 1048576) (h0:0 ≤ k) (h1:k ≤ 1099511627776):PC ctx.P 88 [.agg (vM F ⟨yD zO5 3 k n1,yD zO9 5 (k + (3:Nat) * (n1:Int)) n2,z⟩),.int .i64 k] (.int .i64 (k + (3:Nat) * (n1:Int) + (5:Nat) * (n2:Int))):=by
 refine PC.o okC Tryz.func88 rfl (.int _ _) fun h nx hnx => ?_
 try simp [-qt,-qd,-ql,rgs,vM]
 repeat' first | done | ((first | ((with_reducible show zD _ _ _ 201 _ _);refine zB (h_heldTwigS (n:=n1) (k:=k) (by simp only [LIM];omega) (by omega) (by omega)) ?_) | ((with_reducible show zD _ _ _ 202 _ _);refine zB (h_heldTimerS (n:=n2) (k:=k + (3:Nat) * (n1:Int)) (by simp only [LIM];omega) (by omega) (by omega)) ?_)) <;> simp [-qt,-qd,-ql,rgs,vM]) | ((with_reducible refine zC ?_ ?_) <;> intro qb <;> (have qp:=qb;try simp only [psq] at qp) <;> simp [-qt,-qd,-ql,rgs,vM,qb])
 all_goals first
 | omega
 | (simp at *; omega)
 | trace_state
theorem h_heldAfters {F:Nat → Bool} {n1 n2 n3:Nat} {k:Int} (hl1:n1 ≤ 1048576) (hl2:n2 ≤ 1048576) (hl3:n3 ≤ 1048576) (h0:0 ≤ k) (h1:k ≤ 1099511627776):PC ctx.P 89 [.agg (uZ F ⟨⟨yD zD5 1 k n1,yD zA3 1 (k + (n1:Int)) n2⟩,yD zO3 5 (k + (n1:Int) + (n2:Int)) n3⟩),.int .i64 k] (.int .i64 (k + (n1:Int) + (n2:Int) + (5:Nat) * (n3:Int))):=by
 refine PC.o okC Tryz.func89 rfl (.int _ _) fun h nx hnx => ?_
 try simp [-qt,-qd,-ql,rgs,uZ]
 repeat' first | done | ((first | ((with_reducible show zD _ _ _ 203 _ _);refine zB (h_heldSlots (F:=F) (n1:=n1) (n2:=n2) (k:=k) (by omega) (by omega) (by omega) (by omega)) ?_) | ((with_reducible show zD _ _ _ 204 _ _);refine zB (h_heldAfterS (n:=n3) (k:=k + (n1:Int) + (n2:Int)) (by simp only [LIM];omega) (by omega) (by omega)) ?_)) <;> simp [-qt,-qd,-ql,rgs,uZ]) | ((with_reducible refine zC ?_ ?_) <;> intro qb <;> (have qp:=qb;try simp only [psq] at qp) <;> simp [-qt,-qd,-ql,rgs,uZ,qb])
 all_goals first
 | omega
 | (simp at *; omega)
 | trace_state
theorem h_heldWorld {F:Nat → Bool} {w:Wld} {k:Int} (hs:zB8 w ≤ 1048576) (h0:0 ≤ k) (h1:k ≤ 1048576):PC ctx.P 23 [.agg (wldV F (mkWld w k)),.int .i64 k] (.int .i64 (kZ w k)):=by
 simp only [zB8,afssz,tmssz,sprsz,sltsz] at hs
 have hm:LIM = 140737488355328:=rfl
 have hgz:=lsum_gsz w.groups
 have bT:kT w k = k + 3 * (uS (·.length) w.progs:Int):=by simp only [kZ,kR,kB,kV,kG,kK,kF,kU,kA,kL,kH,kW,kS,kE,kT] <;> omega
 have bE:kE w k = kT w k + (5:Nat) * (w.tree.length:Int):=by simp only [kZ,kR,kB,kV,kG,kK,kF,kU,kA,kL,kH,kW,kS,kE,kT] <;> omega
 have bS:kS w k = kE w k + (4:Nat) * (w.events.length:Int):=by simp only [kZ,kR,kB,kV,kG,kK,kF,kU,kA,kL,kH,kW,kS,kE,kT] <;> omega
 have bH:kH w k = kS w k + (w.spread.told.length:Int) + (w.spread.work.length:Int):=by simp only [kZ,kR,kB,kV,kG,kK,kF,kU,kA,kL,kH,kW,kS,kE,kT] <;> omega
 have bA:kA w k = kH w k + (3:Nat) * (w.timers.heap.length:Int) + (5:Nat) * (w.timers.list.length:Int):=by simp only [kZ,kR,kB,kV,kG,kK,kF,kU,kA,kL,kH,kW,kS,kE,kT] <;> omega
 have bK:kK w k = kA w k + (w.afters.slots.ages.length:Int) + (w.afters.slots.used.length:Int) + (5:Nat) * (w.afters.list.length:Int):=by simp only [kZ,kR,kB,kV,kG,kK,kF,kU,kA,kL,kH,kW,kS,kE,kT] <;> omega
 have bG:kG w k = kK w k + (9:Nat) * (w.tasks.length:Int):=by simp only [kZ,kR,kB,kV,kG,kK,kF,kU,kA,kL,kH,kW,kS,kE,kT] <;> omega
 have bV:kV w k = kG w k + (uS gsz w.groups:Int):=by simp only [kZ,kR,kB,kV,kG,kK,kF,kU,kA,kL,kH,kW,kS,kE,kT] <;> omega
 have bB:kB w k = kV w k + (4:Nat) * (w.sights.length:Int):=by simp only [kZ,kR,kB,kV,kG,kK,kF,kU,kA,kL,kH,kW,kS,kE,kT] <;> omega
 have bR:kR w k = kB w k + (w.began.length:Int):=by simp only [kZ,kR,kB,kV,kG,kK,kF,kU,kA,kL,kH,kW,kS,kE,kT] <;> omega
 have bZ:kZ w k = kR w k + (w.rang.length:Int):=by simp only [kZ,kR,kB,kV,kG,kK,kF,kU,kA,kL,kH,kW,kS,kE,kT] <;> omega
 refine PC.o okC Tryz.func23 rfl (.int _ _) fun h nx hnx => ?_
 unfold mkWld
 generalize kZ w k = k11 at *
 generalize kR w k = k10 at *
 generalize kB w k = k9 at *
 generalize kV w k = k8 at *
 generalize kG w k = k7 at *
 generalize kT w k = k1 at *
 generalize kE w k = k2 at *
 have e1:mkSpr w k = ⟨yD zA3 1 (kS w k) w.spread.told.length,yD zD5 1 (kS w k + (w.spread.told.length:Int)) w.spread.work.length⟩:=rfl
 have e2:mkTms w k = ⟨yD zO5 3 (kH w k) w.timers.heap.length,yD zO9 5 (kH w k + (3:Nat) * (w.timers.heap.length:Int)) w.timers.list.length,w.timers.next⟩:=rfl
 have e3:mkAfs w k = ⟨⟨yD zD5 1 (kA w k) w.afters.slots.ages.length,yD zA3 1 (kA w k + (w.afters.slots.ages.length:Int)) w.afters.slots.used.length⟩,yD zO3 5 (kA w k + (w.afters.slots.ages.length:Int) + (w.afters.slots.used.length:Int)) w.afters.list.length⟩:=rfl
 generalize mkSpr w k = ms at *
 generalize mkTms w k = mt at *
 generalize mkAfs w k = ma at *
 generalize kS w k = k3 at *
 generalize kH w k = k4 at *
 generalize kA w k = k5 at *
 generalize kK w k = k6 at *
 subst e1 e2 e3
 have z1:(k1 < 0) = False:=by simp only [eq_iff_iff,iff_false];omega
 have z2:(k2 < 0) = False:=by simp only [eq_iff_iff,iff_false];omega
 have z3:(k3 < 0) = False:=by simp only [eq_iff_iff,iff_false];omega
 have z4:(k4 < 0) = False:=by simp only [eq_iff_iff,iff_false];omega
 have z5:(k5 < 0) = False:=by simp only [eq_iff_iff,iff_false];omega
 have z6:(k6 < 0) = False:=by simp only [eq_iff_iff,iff_false];omega
 have z7:(k7 < 0) = False:=by simp only [eq_iff_iff,iff_false];omega
 have z8:(k8 < 0) = False:=by simp only [eq_iff_iff,iff_false];omega
 have z9:(k9 < 0) = False:=by simp only [eq_iff_iff,iff_false];omega
 have z10:(k10 < 0) = False:=by simp only [eq_iff_iff,iff_false];omega
 have z11:(k11 < 0) = False:=by simp only [eq_iff_iff,iff_false];omega
 have H1:PC ctx.P 84 [.view (F 0) 1 ((vS w.progs k).map (zD7 (F 1))),.int .i64 k] (.int .i64 k1):=by rw [bT];exact h_heldInsSS (by omega) (fun x hx=>by have:=zB0 (·.length) hx;omega) h0 (by omega)
 have H2:PC ctx.P 85 [.view (F 2) 5 ((yD mkNod 5 k1 w.tree.length).map yS),.int .i64 k1] (.int .i64 k2):=by rw [bE];exact h_heldNodeS (by omega) (by omega) (by omega)
 have H3:PC ctx.P 86 [.view (F 3) 4 ((yD mkEvt 4 k2 w.events.length).map vD),.int .i64 k2] (.int .i64 k3):=by rw [bS];exact h_heldEventS (by omega) (by omega) (by omega)
 have H4:PC ctx.P 87 [.agg [.view (F 4) 1 ((yD zA3 1 k3 w.spread.told.length).map bv),.view (F 5) 1 ((yD zD5 1 (k3 + (w.spread.told.length:Int)) w.spread.work.length).map iv)],.int .i64 k3] (.int .i64 k4):=by rw [bH];exact h_heldSpread (F:=F) (by omega) (by omega) (by omega) (by omega)
 have H5:PC ctx.P 88 [.agg [.view (F 6) 3 ((yD zO5 3 k4 w.timers.heap.length).map zZ),.view (F 7) 5 ((yD zO9 5 (k4 + (3:Nat) * (w.timers.heap.length:Int)) w.timers.list.length).map yN),.int .i64 w.timers.next],.int .i64 k4] (.int .i64 k5):=by rw [bA];exact h_heldTimers (F:=F) (z:=w.timers.next) (by omega) (by omega) (by omega) (by omega)
 have H6:PC ctx.P 89 [.agg [.view (F 8) 1 ((yD zD5 1 k5 w.afters.slots.ages.length).map iv),.view (F 9) 1 ((yD zA3 1 (k5 + (w.afters.slots.ages.length:Int)) w.afters.slots.used.length).map bv),.view (F 10) 5 ((yD zO3 5 (k5 + (w.afters.slots.ages.length:Int) + (w.afters.slots.used.length:Int)) w.afters.list.length).map vB)],.int .i64 k5] (.int .i64 k6):=by rw [bK];exact h_heldAfters (F:=F) (by omega) (by omega) (by omega) (by omega) (by omega)
 have H7:PC ctx.P 90 [.view (F 11) 9 ((yD mkTsk 9 k6 w.tasks.length).map yM),.int .i64 k6] (.int .i64 k7):=by rw [bG];exact h_heldTaskS (by omega) (by omega) (by omega)
 have H8:PC ctx.P 91 [.view (F 12) 5 ((zC6 w.groups k7).map (vJ (F 13))),.int .i64 k7] (.int .i64 k8):=by rw [bV];exact h_heldGroupS (by omega) (fun x hx=>by have:=zB0 (·.waits.length) hx;omega) (by omega) (by omega)
 have H9:PC ctx.P 92 [.view (F 14) 4 ((yD mkSgt 4 k8 w.sights.length).map uU),.int .i64 k8] (.int .i64 k9):=by rw [bB];exact h_heldSightS (by omega) (by omega) (by omega)
 have H10:PC ctx.P 93 [.view (F 15) 1 ((yD zD5 1 k9 w.began.length).map iv),.int .i64 k9] (.int .i64 k10):=by rw [bR];exact (by simpa using zE6 (p:=F 15) (n:=w.began.length) (k:=k9) (by omega) (by omega) (by omega))
 have H11:PC ctx.P 93 [.view (F 16) 1 ((yD zD5 1 k10 w.rang.length).map iv),.int .i64 k10] (.int .i64 k11):=by rw [bZ];exact (by simpa using zE6 (p:=F 16) (n:=w.rang.length) (k:=k10) (by omega) (by omega) (by omega))
 try simp [-qt,-qd,-ql,rgs,wldV,z1,z2,z3,z4,z5,z6,z7,z8,z9,z10,z11]
 repeat' first | done | ((first | (refine zB (H1) ?_) | (refine zB (H2) ?_) | (refine zB (H3) ?_) | (refine zB (H4) ?_) | (refine zB (H5) ?_) | (refine zB (H6) ?_) | (refine zB (H7) ?_) | (refine zB (H8) ?_) | (refine zB (H9) ?_) | (refine zB (H10) ?_) | (refine zB (H11) ?_)) <;> simp [-qt,-qd,-ql,rgs,wldV,z1,z2,z3,z4,z5,z6,z7,z8,z9,z10,z11]) | fail
end Go.AE.Tryz
end
section
/- Contracts of the program's copies of rows as new rows. -/
set_option maxRecDepth 8000
set_option maxHeartbeats 2000000
namespace Go.AE.Tryz
open Go.Proofs
theorem f_cloneInsS {p:Bool} {xs:List Inn} (hl:xs.length ≤ yW):FC ctx.P 99 [.view p 3 (xs.map vY)] (.ref 0 3 0 (xs.map vY).length) [.row 3 (xs.map vY)]:=by
 refine FC.o1 okC Tryz.func99 rfl (zM innC_fz xs) fun h nx hnx => ?_
 simp
 refine zP3 (rows:=xs.map vY) rfl rfl rfl (.inl ⟨_,_,rfl⟩) fun b hb => ?_
 simp [zO2]
 refine zC ?_ ?_ <;> intro hb2 <;> simp [resultsA,resA]
 ·exact zE3 (by simp) (by simp;omega) (hb hb2)
 ·refine yO rfl rfl (by decide) (by decide) (by simp;rfl) (by simp;rfl) (by simp) (by simpa using hl) (by simp [vY,zG0]) ?_
  simp [resultsA,resA]
  exact yI (by simp [Nat.add_assoc]) (by simp;omega) (by omega) (by simp) rfl (by simp)
theorem f_cloneNodeS {p:Bool} {xs:List Nod} (hl:xs.length ≤ yW):FC ctx.P 257 [.view p 5 (xs.map yS)] (.ref 0 5 0 (xs.map yS).length) [.row 5 (xs.map yS)]:=by
 refine FC.o1 okC Tryz.func257 rfl (zM nodC_fz xs) fun h nx hnx => ?_
 simp
 refine zP3 (rows:=xs.map yS) rfl rfl rfl (.inl ⟨_,_,rfl⟩) fun b hb => ?_
 simp [zO2]
 refine zC ?_ ?_ <;> intro hb2 <;> simp [resultsA,resA]
 ·exact zE3 (by simp) (by simp;omega) (hb hb2)
 ·refine yO rfl rfl (by decide) (by decide) (by simp;rfl) (by simp;rfl) (by simp) (by simpa using hl) (by simp [yS,zG0]) ?_
  simp [resultsA,resA]
  exact yI (by simp [Nat.add_assoc]) (by simp;omega) (by omega) (by simp) rfl (by simp)
theorem f_cloneEventS {p:Bool} {xs:List Evt} (hl:xs.length ≤ yW):FC ctx.P 258 [.view p 4 (xs.map vD)] (.ref 0 4 0 (xs.map vD).length) [.row 4 (xs.map vD)]:=by
 refine FC.o1 okC Tryz.func258 rfl (zM zQ2 xs) fun h nx hnx => ?_
 simp
 refine zP3 (rows:=xs.map vD) rfl rfl rfl (.inl ⟨_,_,rfl⟩) fun b hb => ?_
 simp [zO2]
 refine zC ?_ ?_ <;> intro hb2 <;> simp [resultsA,resA]
 ·exact zE3 (by simp) (by simp;omega) (hb hb2)
 ·refine yO rfl rfl (by decide) (by decide) (by simp;rfl) (by simp;rfl) (by simp) (by simpa using hl) (by simp [vD,zG0]) ?_
  simp [resultsA,resA]
  exact yI (by simp [Nat.add_assoc]) (by simp;omega) (by omega) (by simp) rfl (by simp)
theorem zH7 {p:Bool} {xs:List Twg} (hl:xs.length ≤ yW):FC ctx.P 345 [.view p 3 (xs.map zZ)] (.ref 0 3 0 (xs.map zZ).length) [.row 3 (xs.map zZ)]:=by
 refine FC.o1 okC Tryz.func345 rfl (zM yJ xs) fun h nx hnx => ?_
 simp
 refine zP3 (rows:=xs.map zZ) rfl rfl rfl (.inl ⟨_,_,rfl⟩) fun b hb => ?_
 simp [zO2]
 refine zC ?_ ?_ <;> intro hb2 <;> simp [resultsA,resA]
 ·exact zE3 (by simp) (by simp;omega) (hb hb2)
 ·refine yO rfl rfl (by decide) (by decide) (by simp;rfl) (by simp;rfl) (by simp) (by simpa using hl) (by simp [zZ,zG0]) ?_
  simp [resultsA,resA]
  exact yI (by simp [Nat.add_assoc]) (by simp;omega) (by omega) (by simp) rfl (by simp)
theorem zS7 {p:Bool} {xs:List Tmr} (hl:xs.length ≤ yW):FC ctx.P 294 [.view p 5 (xs.map yN)] (.ref 0 5 0 (xs.map yN).length) [.row 5 (xs.map yN)]:=by
 refine FC.o1 okC Tryz.func294 rfl (zM uV xs) fun h nx hnx => ?_
 simp
 refine zP3 (rows:=xs.map yN) rfl rfl rfl (.inl ⟨_,_,rfl⟩) fun b hb => ?_
 simp [zO2]
 refine zC ?_ ?_ <;> intro hb2 <;> simp [resultsA,resA]
 ·exact zE3 (by simp) (by simp;omega) (hb hb2)
 ·refine yO rfl rfl (by decide) (by decide) (by simp;rfl) (by simp;rfl) (by simp) (by simpa using hl) (by simp [yN,zG0]) ?_
  simp [resultsA,resA]
  exact yI (by simp [Nat.add_assoc]) (by simp;omega) (by omega) (by simp) rfl (by simp)
theorem f_cloneAfterS {p:Bool} {xs:List Afr} (hl:xs.length ≤ yW):FC ctx.P 347 [.view p 5 (xs.map vB)] (.ref 0 5 0 (xs.map vB).length) [.row 5 (xs.map vB)]:=by
 refine FC.o1 okC Tryz.func347 rfl (zM zA0 xs) fun h nx hnx => ?_
 simp
 refine zP3 (rows:=xs.map vB) rfl rfl rfl (.inl ⟨_,_,rfl⟩) fun b hb => ?_
 simp [zO2]
 refine zC ?_ ?_ <;> intro hb2 <;> simp [resultsA,resA]
 ·exact zE3 (by simp) (by simp;omega) (hb hb2)
 ·refine yO rfl rfl (by decide) (by decide) (by simp;rfl) (by simp;rfl) (by simp) (by simpa using hl) (by simp [vB,zG0]) ?_
  simp [resultsA,resA]
  exact yI (by simp [Nat.add_assoc]) (by simp;omega) (by omega) (by simp) rfl (by simp)
theorem f_cloneTaskS {p:Bool} {xs:List Tsk} (hl:xs.length ≤ yW):FC ctx.P 262 [.view p 9 (xs.map yM)] (.ref 0 9 0 (xs.map yM).length) [.row 9 (xs.map yM)]:=by
 refine FC.o1 okC Tryz.func262 rfl (zM zE0 xs) fun h nx hnx => ?_
 simp
 refine zP3 (rows:=xs.map yM) rfl rfl rfl (.inl ⟨_,_,rfl⟩) fun b hb => ?_
 simp [zO2]
 refine zC ?_ ?_ <;> intro hb2 <;> simp [resultsA,resA]
 ·exact zE3 (by simp) (by simp;omega) (hb hb2)
 ·refine yO rfl rfl (by decide) (by decide) (by simp;rfl) (by simp;rfl) (by simp) (by simpa using hl) (by simp [yM,zG0]) ?_
  simp [resultsA,resA]
  exact yI (by simp [Nat.add_assoc]) (by simp;omega) (by omega) (by simp) rfl (by simp)
theorem zR1 {p:Bool} {xs:List Sgt} (hl:xs.length ≤ yW):FC ctx.P 264 [.view p 4 (xs.map uU)] (.ref 0 4 0 (xs.map uU).length) [.row 4 (xs.map uU)]:=by
 refine FC.o1 okC Tryz.func264 rfl (zM sgtC_fz xs) fun h nx hnx => ?_
 simp
 refine zP3 (rows:=xs.map uU) rfl rfl rfl (.inl ⟨_,_,rfl⟩) fun b hb => ?_
 simp [zO2]
 refine zC ?_ ?_ <;> intro hb2 <;> simp [resultsA,resA]
 ·exact zE3 (by simp) (by simp;omega) (hb hb2)
 ·refine yO rfl rfl (by decide) (by decide) (by simp;rfl) (by simp;rfl) (by simp) (by simpa using hl) (by simp [uU,zG0]) ?_
  simp [resultsA,resA]
  exact yI (by simp [Nat.add_assoc]) (by simp;omega) (by omega) (by simp) rfl (by simp)
theorem zD2 {p:Bool} {xs:List Int} (hl:xs.length ≤ yW):FC ctx.P 265 [.view p 1 (xs.map iv)] (.ref 0 1 0 (xs.map iv).length) [.row 1 (xs.map iv)]:=by
 refine FC.o1 okC Tryz.func265 rfl (zM zA5 xs) fun h nx hnx => ?_
 simp
 refine zP3 (rows:=xs.map iv) rfl rfl rfl (.inl ⟨_,_,rfl⟩) fun b hb => ?_
 simp [zO2]
 refine zC ?_ ?_ <;> intro hb2 <;> simp [resultsA,resA]
 ·exact zE3 (by simp) (by simp;omega) (hb hb2)
 ·refine yO rfl rfl (by decide) (by decide) (by simp;rfl) (by simp;rfl) (by simp) (by simpa using hl) (by simp [iv,zG0]) ?_
  simp [resultsA,resA]
  exact yI (by simp [Nat.add_assoc]) (by simp;omega) (by omega) (by simp) rfl (by simp)
theorem f_cloneBoolS {p:Bool} {xs:List Bool} (hl:xs.length ≤ yW):FC ctx.P 344 [.view p 1 (xs.map bv)] (.ref 0 1 0 (xs.map bv).length) [.row 1 (xs.map bv)]:=by
 refine FC.o1 okC Tryz.func344 rfl (zM zJ0 xs) fun h nx hnx => ?_
 simp
 refine zP3 (rows:=xs.map bv) rfl rfl rfl (.inl ⟨_,_,rfl⟩) fun b hb => ?_
 simp [zO2]
 refine zC ?_ ?_ <;> intro hb2 <;> simp [resultsA,resA]
 ·exact zE3 (by simp) (by simp;omega) (hb hb2)
 ·refine yO rfl rfl (by decide) (by decide) (by simp;rfl) (by simp;rfl) (by simp) (by simpa using hl) (by simp [bv,zG0]) ?_
  simp [resultsA,resA]
  exact yI (by simp [Nat.add_assoc]) (by simp;omega) (by omega) (by simp) rfl (by simp)
end Go.AE.Tryz
end
section
/- Contracts of the program's copies of a world's parts as new rows. -/
set_option maxRecDepth 8000
set_option maxHeartbeats 2000000
namespace Go.AE.Tryz
open Go.Proofs
open List renaming map_take → qt,map_drop → qd,map_tail → ql
theorem f_cloneSlots {F:Nat → Bool} {s:Slt} (h1:s.ages.length ≤ yW) (h2:s.used.length ≤ yW):FC ctx.P 346 [.agg (uD F s)] (.agg [.ref 0 1 0 s.ages.length,.ref 1 1 0 s.used.length]) [.row 1 (s.ages.map iv),.row 1 (s.used.map bv)]:=by
 refine FC.o okC Tryz.func346 rfl ((.one _ (.agg _ fun c hc=>by simp at hc;rcases hc with rfl | rfl <;> first | exact .ref _ _ _ _ (by simp) | exact .fz _ (.int _ _)))) ((fun e he=>by simp at he;rcases he with rfl | rfl <;> first | exact zM zA5 _ | exact zM zJ0 _ | exact zM yJ _ | exact zM uV _ | exact zM zA0 _)) fun h nx hnx => ?_
 try simp [-qt,-qd,-ql,rgs,uD]
 repeat' first | done | ((first | ((with_reducible show zD _ _ _ 265 _ _);refine zU (zD2 h1) ?_) | ((with_reducible show zD _ _ _ 344 _ _);refine zU (f_cloneBoolS h2) ?_) | (with_reducible refine zP (i:=1) [(0,[],[]),(1,[],[]),(3,[],[]),(4,[],[]),(2,[.tmp 6],[]),(5,[],[]),(6,[],[]),(7,[],[])] (by kernel_rfl) ?_)) <;> simp [-qt,-qd,-ql,rgs,uD]) | fail
 exact finF2 (i:=nx + 10) (j:=nx + 11) zG (by omega) (by omega) (by omega) (by simp) (by simp) (by simp)
theorem f_cloneSpread {F:Nat → Bool} {s:Spr} (h1:s.told.length ≤ yW) (h2:s.work.length ≤ yW):FC ctx.P 259 [.agg (uK F s)] (.agg [.ref 0 1 0 s.told.length,.ref 1 1 0 s.work.length]) [.row 1 (s.told.map bv),.row 1 (s.work.map iv)]:=by
 refine FC.o okC Tryz.func259 rfl ((.one _ (.agg _ fun c hc=>by simp at hc;rcases hc with rfl | rfl <;> first | exact .ref _ _ _ _ (by simp) | exact .fz _ (.int _ _)))) ((fun e he=>by simp at he;rcases he with rfl | rfl <;> first | exact zM zA5 _ | exact zM zJ0 _ | exact zM yJ _ | exact zM uV _ | exact zM zA0 _)) fun h nx hnx => ?_
 try simp [-qt,-qd,-ql,rgs,uK]
 repeat' first | done | ((first | ((with_reducible show zD _ _ _ 344 _ _);refine zU (f_cloneBoolS h1) ?_) | ((with_reducible show zD _ _ _ 265 _ _);refine zU (zD2 h2) ?_) | (with_reducible refine zP (i:=1) [(0,[],[]),(1,[],[]),(3,[],[]),(4,[],[]),(2,[.tmp 6],[]),(5,[],[]),(6,[],[]),(7,[],[])] (by kernel_rfl) ?_)) <;> simp [-qt,-qd,-ql,rgs,uK]) | fail
 exact finF2 (i:=nx + 10) (j:=nx + 11) zG (by omega) (by omega) (by omega) (by simp) (by simp) (by simp)
theorem f_cloneTimers {F:Nat → Bool} {s:Tms} (h1:s.heap.length ≤ yW) (h2:s.list.length ≤ yW):FC ctx.P 260 [.agg (vM F s)] (.agg [.ref 0 3 0 s.heap.length,.ref 1 5 0 s.list.length,.int .i64 s.next]) [.row 3 (s.heap.map zZ),.row 5 (s.list.map yN)]:=by
 refine FC.o okC Tryz.func260 rfl ((.one _ (.agg _ fun c hc=>by simp at hc;rcases hc with rfl | rfl | rfl <;> first | exact .ref _ _ _ _ (by simp) | exact .fz _ (.int _ _)))) ((fun e he=>by simp at he;rcases he with rfl | rfl <;> first | exact zM zA5 _ | exact zM zJ0 _ | exact zM yJ _ | exact zM uV _ | exact zM zA0 _)) fun h nx hnx => ?_
 try simp [-qt,-qd,-ql,rgs,vM]
 repeat' first | done | ((first | ((with_reducible show zD _ _ _ 345 _ _);refine zU (zH7 h1) ?_) | ((with_reducible show zD _ _ _ 294 _ _);refine zU (zS7 h2) ?_) | (with_reducible refine zP (i:=1) [(0,[],[]),(1,[],[]),(3,[],[]),(4,[],[]),(6,[],[]),(7,[],[]),(2,[.tmp 6,.tmp 9],[]),(5,[.tmp 9],[]),(8,[],[]),(9,[],[])] (by kernel_rfl) ?_)) <;> simp [-qt,-qd,-ql,rgs,vM]) | fail
 exact finF2 (i:=nx + 12) (j:=nx + 13) zG (by omega) (by omega) (by omega) (by simp) (by simp) (by simp)
theorem f_cloneAfters {F:Nat → Bool} {s:Afs} (h1:s.slots.ages.length ≤ yW) (h2:s.slots.used.length ≤ yW) (h3:s.list.length ≤ yW):FC ctx.P 261 [.agg (uZ F s)] (.agg [.ref 0 1 0 s.slots.ages.length,.ref 1 1 0 s.slots.used.length,.ref 2 5 0 s.list.length]) [.row 1 (s.slots.ages.map iv),.row 1 (s.slots.used.map bv),.row 5 (s.list.map vB)]:=by
 refine FC.o okC Tryz.func261 rfl ((.one _ (.agg _ fun c hc=>by simp at hc;rcases hc with rfl | rfl | rfl <;> first | exact .ref _ _ _ _ (by simp) | exact .fz _ (.int _ _)))) ((fun e he=>by simp at he;rcases he with rfl | rfl | rfl <;> first | exact zM zA5 _ | exact zM zJ0 _ | exact zM yJ _ | exact zM uV _ | exact zM zA0 _)) fun h nx hnx => ?_
 try simp [-qt,-qd,-ql,rgs,uZ,uD]
 repeat' first | done | ((first | ((with_reducible show zD _ _ _ 346 _ _);refine zU (f_cloneSlots (s:=s.slots) (F:=F) h1 h2) ?_) | ((with_reducible show zD _ _ _ 347 _ _);refine zU (f_cloneAfterS h3) ?_) | (with_reducible refine zP (i:=1) [(0,[],[]),(1,[],[]),(3,[],[]),(4,[],[]),(2,[.tmp 6],[]),(5,[],[]),(6,[],[]),(7,[],[])] (by kernel_rfl) ?_)) <;> simp [-qt,-qd,-ql,rgs,uZ,uD]) | fail
 exact finF3 (i:=nx + 10) (j:=nx + 11) (l:=nx + 12) zG (by omega) (by omega) (by omega) (by omega) (by omega) (by omega) (by simp) (by simp) (by simp) (by simp)
theorem f_cloneGroup {r:Bool} {g:Grp} (hm:g.waits.length ≤ yW):FC ctx.P 263 [.agg (vJ r g)] (.agg (zD9 g 0)) [.row 1 (g.waits.map iv)]:=by
 refine FC.o okC Tryz.func263 rfl ((by simp only [zD9];exact .one _ (.agg _ fun c hc=>by simp at hc;rcases hc with rfl | rfl | rfl | rfl | rfl <;> first | exact .ref _ _ _ _ (by simp) | exact .fz _ (.int _ _)))) ((fun e he=>by simp at he;subst he;exact zM zA5 _)) fun h nx hnx => ?_
 try simp [-qt,-qd,-ql,rgs,vJ]
 repeat' first | done | (((with_reducible show zD _ _ _ 265 _ _);refine zU (zD2 hm) ?_) <;> simp [-qt,-qd,-ql,rgs,vJ]) | fail
 exact finF1 (i:=nx + 7) zG (by omega) (by simp) (by simp [zD9])
end Go.AE.Tryz
end
section
/- Contracts of the program's copies of worlds as new rows. -/
set_option maxRecDepth 8000
set_option maxHeartbeats 4000000
namespace Go.AE.Tryz
open Go.Proofs
open List renaming map_take → qt,map_drop → qd,map_tail → ql
theorem w_clonedProgs {p r:Bool} {xs:List (List Inn)} (hm:xs.length ≤ yW) (hi:∀ x ∈ xs,x.length ≤ yW):AC ctx.P 27 [.view p 1 (xs.map (zD7 r))] (fun _ _=>True)
 (fun h nx v h' nx'=>KeepB nx h' h ∧ ∃ id is,v = .ref id 1 0 xs.length ∧ h' id = some (.row 1 (List.zipWith prgR xs is)) ∧ is.length = xs.length ∧ nx ≤ id ∧ id < nx' ∧ id ∉ is ∧ Subs h' 3 (fun x:List Inn=>x.map vY) xs is nx nx'):=by
 have hlim:xs.length ≤ LIM:=by simp only [yW,LIM] at *; omega
 refine AC.o okC Tryz.func27 rfl fun h nx hfr hnx hpre => ?_
 try simp [-qt,-qd,-ql,rgs]
 repeat' first | done | (((with_reducible show zT _ _ _ _ _ _);refine zA rfl fun _ => ?_) <;> simp [-qt,-qd,-ql,rgs]) | fail
 refine zR (h0:=h) (nx0:=nx) [3,5,9,10,11,12,13,14,15,16,17,18] (xs.length) (fun (i:Nat) a=>[(9,.int .i64 i),(3,.ref a.1 1 0 i)]) (fun i (a:Nat × List Nat) h' n'=>a.2.length = i ∧ h' a.1 = some (.row 1 (List.zipWith prgR xs a.2)) ∧ Subs h' 3 (fun x:List Inn=>x.map vY) xs a.2 nx n' ∧ nx ≤ a.1 ∧ a.1 < n' ∧ a.1 ∉ a.2) ((nx + 1,[])) (by simp) ?_ zG (by omega) ?_
 ·simp [Subs.nil]
 ·intro i a tm h' n' hle hJ hE hn' next hnx
  try dsimp only at hJ
  have hK:KeepB nx h' h:=KeepB.sub hE zG (by omega)
  simp [-qt,-qd,-ql]
  obtain ⟨g2,hJ,hS,g0,g1,g3⟩:=hJ
  obtain ⟨id,is⟩:=a
  dsimp only at g2 hJ hS g0 g1 g3 ⊢
  subst g2
  have k1:∀ k,(id = n' + k) = False:=fun k=>by simp only [eq_iff_iff,iff_false];omega
  by_cases hlt:is.length < xs.length
  ·try simp [-qt,-qd,-ql,rgs,zD7,k1,hJ,hlt]
   repeat' first | done | ((first | ((with_reducible show zK _ _ _ _ _ _ _);refine zH rfl omA omA ?_) | ((with_reducible show zD _ _ _ 99 _ _);refine zU (f_cloneInsS (hi _ (vR (by omega) (by omega)))) ?_) | ((with_reducible show zL4 _ _ _ _ _ _ _ _);refine yO rfl rfl (by decide) (by decide) (by (simp [-qt,-qd,-ql,rgs,zD7,k1,hJ,hlt];rfl)) (by (simp [-qt,-qd,-ql,rgs,zD7,k1,hJ,hlt];rfl)) (by (simp;omega)) (by (simp only [yW,LIM] at *; simp;omega)) (by simp [iv,bv]) ?_)) <;> simp [-qt,-qd,-ql,rgs,zD7,k1,hJ,hlt]) | fail
   refine hnx.go (n' + 8,is ++ [n' + 10]) (by omega) (by simp [zI hlt hlim]) (by simp) zG (by first | omega | (simp;omega)) ?_
   dsimp only
   refine ⟨by simp,?_,hS.snoc (fun k hk => ?_) ?_ (by omega) (by omega) (by omega),by omega,by omega,?_⟩
   ·rw [zN7 hlt,zJ];rfl
   ·have:=hS.hi k hk
    have hne:k ≠ id:=fun e=>g3 (e ▸ hk)
    rw [zF _ _ _ _ (by omega),zF _ _ _ _ hne,zF _ _ _ _ (by omega),zF _ _ _ _ (by omega)]
   ·rw [zF _ _ _ _ (by omega),zF _ _ _ _ (by omega),zF _ _ _ _ (by omega),zJ]
   ·intro hm
    rcases List.mem_append.1 hm with hm | hm
    ·have:=hS.hi _ hm;omega
    ·simp at hm
  ·try simp [-qt,-qd,-ql,rgs,k1,hJ,hlt]
   have he:is.length = xs.length:=by omega
   exact ⟨zG,id,⟨rfl,he⟩,is,hJ,he,g0,by omega,g3,hS.keep (fun _ _=>rfl) (Nat.le_refl _) (by omega)⟩
theorem w_clonedA {F:Nat → Bool} {w:Wld} (hs:zB8 w ≤ 1048576):AC ctx.P 124 [.agg (wldV F w)] (fun _ _=>True)
 (fun h nx v h' nx'=>KeepB nx h' h ∧ ∃ X,v = .agg (zB7 X w) ∧ WV h' X w ∧ ∀ id ∈ X.ids,nx ≤ id ∧ id < nx'):=by
 simp only [zB8,afssz,tmssz,sprsz,sltsz] at hs
 have hm:yW = 1099511627776:=rfl
 have hL:LIM = 140737488355328:=rfl
 have hlim:w.groups.length ≤ LIM:=by omega
 refine AC.ghost ?_
 refine AC.o okC Tryz.func124 rfl fun h nx hfr hnx hpre => ?_
 try simp [-qt,-qd,-ql,rgs,wldV]
 repeat' first | done | ((with_reducible refine zP (i:=2) [(0,[],[]),(1,[],[]),(3,[],[]),(4,[],[]),(6,[],[]),(7,[],[]),(2,[.tmp 10,.tmp 13],[]),(9,[],[]),(5,[.tmp 13],[]),(8,[],[]),(10,[],[]),(11,[],[]),(12,[],[]),(13,[],[]),(14,[],[])] (by kernel_rfl) ?_) <;> simp [-qt,-qd,-ql,rgs,wldV]) | fail
 refine yP (w_clonedProgs (by omega) (fun x hx=>by have:=zB0 (·.length) hx;omega)) trivial ?_
 rintro r h1 n1 ⟨hK1,ip,isp,rfl,hrow1,hlen1,hlo1,hhi1,hni1,hS1⟩ hle1 hfr1
 dsimp only at hK1 hlo1 hle1 hS1
 have g0:=hK1 nx (by omega)
 have g1:=hK1 (nx + 1) (by omega)
 have g3:=hK1 (nx + 3) (by omega)
 simp at g0 g1 g3
 have k0:∀ k,(nx = n1 + k) = False:=fun k=>by simp only [eq_iff_iff,iff_false];omega
 have k3:∀ k,(nx + 3 = n1 + k) = False:=fun k=>by simp only [eq_iff_iff,iff_false];omega
 have k1:∀ k,(nx + 1 = n1 + k) = False:=fun k=>by simp only [eq_iff_iff,iff_false];omega
 have j0:(nx = n1) = False:=by simp only [eq_iff_iff,iff_false];omega
 have j1:(nx + 1 = n1) = False:=by simp only [eq_iff_iff,iff_false];omega
 have j3:(nx + 3 = n1) = False:=by simp only [eq_iff_iff,iff_false];omega
 try simp [-qt,-qd,-ql,rgs,wldV,g0,g1,g3,k0,k1,k3,j0,j1,j3]
 repeat' first | done | ((first | ((with_reducible show zT _ _ _ _ _ _);refine zA rfl fun _ => ?_) | ((with_reducible show zD _ _ _ 257 _ _);refine zU (f_cloneNodeS (by omega)) ?_) | ((with_reducible show zD _ _ _ 258 _ _);refine zU (f_cloneEventS (by omega)) ?_) | ((with_reducible show zD _ _ _ 259 _ _);refine zU (f_cloneSpread (s:=w.spread) (F:=F) (by omega) (by omega)) ?_) | ((with_reducible show zD _ _ _ 260 _ _);refine zU (f_cloneTimers (s:=w.timers) (F:=F) (by omega) (by omega)) ?_) | ((with_reducible show zD _ _ _ 261 _ _);refine zU (f_cloneAfters (s:=w.afters) (F:=F) (by omega) (by omega) (by omega)) ?_) | ((with_reducible show zD _ _ _ 262 _ _);refine zU (f_cloneTaskS (by omega)) ?_) | (with_reducible refine zP (i:=3) [(0,[],[]),(1,[],[]),(3,[],[]),(4,[],[]),(6,[],[]),(7,[],[]),(2,[.tmp 22,.tmp 25],[]),(9,[],[]),(5,[.tmp 25],[]),(8,[],[]),(10,[],[]),(11,[],[]),(12,[],[]),(13,[],[]),(14,[],[])] (by kernel_rfl) ?_)) <;> simp [-qt,-qd,-ql,rgs,wldV,g0,g1,g3,k0,k1,k3,j0,j1,j3]) | fail
 generalize hH:upd _ (nx + 3) (some (Ent.obj [.int .i64 w.now,.ref ip 1 0 w.progs.length,.ref n1 5 0 w.tree.length,.ref (n1 + 1) 4 0 w.events.length,.ref (n1 + 17) 1 0 w.spread.told.length,.ref (n1 + 18) 1 0 w.spread.work.length,.ref (n1 + 19) 3 0 w.timers.heap.length,.ref (n1 + 20) 5 0 w.timers.list.length,.int .i64 w.timers.next,.ref (n1 + 21) 1 0 w.afters.slots.ages.length,.ref (n1 + 22) 1 0 w.afters.slots.used.length,.ref (n1 + 23) 5 0 w.afters.list.length,.ref (n1 + 31) 9 0 w.tasks.length,.nil,.view (F 14) 4 (w.sights.map uU),.view (F 15) 1 (w.began.map iv),.view (F 16) 1 (w.rang.map iv)])) = H2
 have o2:H2 (nx + 3) = some (Ent.obj [.int .i64 w.now,.ref ip 1 0 w.progs.length,.ref n1 5 0 w.tree.length,.ref (n1 + 1) 4 0 w.events.length,.ref (n1 + 17) 1 0 w.spread.told.length,.ref (n1 + 18) 1 0 w.spread.work.length,.ref (n1 + 19) 3 0 w.timers.heap.length,.ref (n1 + 20) 5 0 w.timers.list.length,.int .i64 w.timers.next,.ref (n1 + 21) 1 0 w.afters.slots.ages.length,.ref (n1 + 22) 1 0 w.afters.slots.used.length,.ref (n1 + 23) 5 0 w.afters.list.length,.ref (n1 + 31) 9 0 w.tasks.length,.nil,.view (F 14) 4 (w.sights.map uU),.view (F 15) 1 (w.began.map iv),.view (F 16) 1 (w.rang.map iv)]):=by rw [← hH,zJ]
 have a2:H2 nx = some (Ent.obj (wldV F w)):=by
  rw [← hH]
  repeat rw [zF _ _ _ _ (by omega)]
  rw [g0];rfl
 have z2:H2 (nx + 1) = h1 (nx + 1):=by
  rw [← hH]
  repeat rw [zF _ _ _ _ (by omega)]
 rw [g1] at z2
 have hK2:KeepB nx H2 h:=fun j hj=>by
  rw [← hH]
  repeat rw [zF _ _ _ _ (by omega)]
  rw [hK1 j (by omega)]
  repeat rw [zF _ _ _ _ (by omega)]
 have q0:H2 ip = some (.row 1 (List.zipWith prgR w.progs isp)):=by
  rw [← hH]
  repeat rw [zF _ _ _ _ (by omega)]
  exact hrow1
 have qs:∀ i ∈ isp,H2 i = h1 i:=fun i hi=>by
  have:=hS1.lo i hi
  have:=hS1.hi i hi
  rw [← hH]
  repeat rw [zF _ _ _ _ (by omega)]
 have q1:H2 n1 = some (.row 5 (w.tree.map yS)):=by
  rw [← hH]
  repeat (first | exact zJ .. | rw [zF _ _ _ _ (by omega)])
 have q2:H2 (n1 + 1) = some (.row 4 (w.events.map vD)):=by
  rw [← hH]
  repeat (first | exact zJ .. | rw [zF _ _ _ _ (by omega)])
 have q3:H2 (n1 + 17) = some (.row 1 (w.spread.told.map bv)):=by
  rw [← hH]
  repeat (first | exact zJ .. | rw [zF _ _ _ _ (by omega)])
 have q4:H2 (n1 + 18) = some (.row 1 (w.spread.work.map iv)):=by
  rw [← hH]
  repeat (first | exact zJ .. | rw [zF _ _ _ _ (by omega)])
 have q5:H2 (n1 + 19) = some (.row 3 (w.timers.heap.map zZ)):=by
  rw [← hH]
  repeat (first | exact zJ .. | rw [zF _ _ _ _ (by omega)])
 have q6:H2 (n1 + 20) = some (.row 5 (w.timers.list.map yN)):=by
  rw [← hH]
  repeat (first | exact zJ .. | rw [zF _ _ _ _ (by omega)])
 have q7:H2 (n1 + 21) = some (.row 1 (w.afters.slots.ages.map iv)):=by
  rw [← hH]
  repeat (first | exact zJ .. | rw [zF _ _ _ _ (by omega)])
 have q8:H2 (n1 + 22) = some (.row 1 (w.afters.slots.used.map bv)):=by
  rw [← hH]
  repeat (first | exact zJ .. | rw [zF _ _ _ _ (by omega)])
 have q9:H2 (n1 + 23) = some (.row 5 (w.afters.list.map vB)):=by
  rw [← hH]
  repeat (first | exact zJ .. | rw [zF _ _ _ _ (by omega)])
 have q10:H2 (n1 + 31) = some (.row 9 (w.tasks.map yM)):=by
  rw [← hH]
  repeat (first | exact zJ .. | rw [zF _ _ _ _ (by omega)])
 clear hH
 refine zR (h0:=h) (nx0:=nx) [5,39,40,41,42,43,44,45,46,47,48,49,50] (w.groups.length) (fun (i:Nat) a=>[(39,.int .i64 i)]) (fun i (a:Nat × List Nat) h' n'=>a.2.length = i ∧ h' (nx + 3) = some (Ent.obj [.int .i64 w.now,.ref ip 1 0 w.progs.length,.ref n1 5 0 w.tree.length,.ref (n1 + 1) 4 0 w.events.length,.ref (n1 + 17) 1 0 w.spread.told.length,.ref (n1 + 18) 1 0 w.spread.work.length,.ref (n1 + 19) 3 0 w.timers.heap.length,.ref (n1 + 20) 5 0 w.timers.list.length,.int .i64 w.timers.next,.ref (n1 + 21) 1 0 w.afters.slots.ages.length,.ref (n1 + 22) 1 0 w.afters.slots.used.length,.ref (n1 + 23) 5 0 w.afters.list.length,.ref (n1 + 31) 9 0 w.tasks.length,(if i = 0 then .nil else .ref a.1 5 0 i),.view (F 14) 4 (w.sights.map uU),.view (F 15) 1 (w.began.map iv),.view (F 16) 1 (w.rang.map iv)]) ∧ (0 < i → h' a.1 = some (.row 5 (List.zipWith zD9 w.groups a.2)) ∧ n1 + 36 ≤ a.1 ∧ a.1 < n' ∧ a.1 ∉ a.2) ∧ Subs h' 1 (fun x:Grp=>x.waits.map iv) w.groups a.2 (n1 + 36) n' ∧ n1 + 36 ≤ n' ∧ ∀ j,j < n1 + 36 → j ≠ nx + 3 → h' j = H2 j) ((0,[])) (by simp) ?_ zG (by omega) ?_
 ·simp [Subs.nil,o2]
 ·intro i a tm h' n' hle hJ hE hn' next hnx
  try dsimp only at hJ
  have hK:KeepB nx h' h:=KeepB.sub hE zG (by omega)
  simp [-qt,-qd,-ql]
  obtain ⟨id,is⟩:=a
  obtain ⟨e0,hO,hR,hS,hn2,hF⟩:=hJ
  dsimp only at e0 hO hR hS hn2 hF ⊢
  subst e0
  have aN:=hF nx (by omega) (by omega)
  rw [a2] at aN
  have zN:=hF (nx + 1) (by omega) (by omega)
  rw [z2] at zN
  have k5:∀ k,(nx = n' + k) = False:=fun k=>by simp only [eq_iff_iff,iff_false];omega
  have k6:∀ k,(nx + 3 = n' + k) = False:=fun k=>by simp only [eq_iff_iff,iff_false];omega
  have k7:∀ k,(nx + 1 = n' + k) = False:=fun k=>by simp only [eq_iff_iff,iff_false];omega
  have k8:(nx = n') = False:=by simp only [eq_iff_iff,iff_false];omega
  have k9:(nx + 1 = n') = False:=by simp only [eq_iff_iff,iff_false];omega
  have kA:(nx + 2 = n') = False:=by simp only [eq_iff_iff,iff_false];omega
  have kB:(nx + 3 = n') = False:=by simp only [eq_iff_iff,iff_false];omega
  by_cases hlt:is.length < w.groups.length
  ·by_cases h0:is.length = 0
   ·have hc:(gt w.groups (is.length:Int)).waits.length ≤ yW:=by have:=zB0 (·.waits.length) (vR (show (0:Int) ≤ (is.length:Int) by omega) (show (is.length:Int) < w.groups.length by omega));omega
    rw [if_pos h0] at hO
    try simp [-qt,-qd,-ql,rgs,hO,aN,wldV,vJ,zD9,hlt,k5,k6,k7,k8,k9,kA,kB]
    repeat' first | done | ((first | ((with_reducible show zK _ _ _ _ _ _ _);refine zH rfl omA omA ?_) | ((with_reducible show zD _ _ _ 263 _ _);refine zU (f_cloneGroup (r:=F 13) (g:=gt w.groups (is.length:Int)) hc) ?_) | (with_reducible refine zP (i:=8) [(0,[],[]),(1,[],[4]),(2,[],[]),(3,[.tmp 43],[]),(4,[],[]),(5,[],[]),(6,[],[]),(7,[],[])] (by kernel_rfl) ?_)) <;> simp [-qt,-qd,-ql,rgs,hO,aN,wldV,vJ,zD9,hlt,k5,k6,k7,k8,k9,kA,kB]) | fail
    refine app_nil rfl (by decide) (by decide) (by simp;rfl) (by simp [yW]) (by simp) ?_
    try simp [-qt,-qd,-ql,rgs,hO,aN,wldV,vJ,zD9,hlt,k5,k6,k7,k8,k9,kA,kB]
    refine hnx.go (n' + 10,is ++ [n' + 13]) (by omega) (by simp [zI hlt hlim]) (by simp) zG (by first | omega | (simp;omega)) ?_
    dsimp only
    refine ⟨by simp,?_,fun _=>⟨?_,by omega,by omega,?_⟩,hS.snoc (fun k hk => ?_) ?_ (by omega) (by omega) (by omega),by omega,fun j hj hj2 => ?_⟩
    ·rw [zJ,if_neg (by omega)]
     try simp
     try exact List.eq_nil_of_length_eq_zero h0
    ·rw [zN7 hlt]
     repeat (first | rw [zF _ _ _ _ (by omega)] | rw [zJ])
     simp [zD9]
     right;exact List.eq_nil_of_length_eq_zero h0
    ·intro hm
     rcases List.mem_append.1 hm with hm | hm
     ·have:=hS.hi _ hm;omega
     ·simp at hm
    ·have:=hS.hi k hk
     have:=hS.lo k hk
     repeat rw [zF _ _ _ _ (by omega)]
    ·repeat (first | rw [zF _ _ _ _ (by omega)] | rw [zJ])
    ·repeat rw [zF _ _ _ _ (by omega)]
     exact hF j hj hj2
   ·have hc:(gt w.groups (is.length:Int)).waits.length ≤ yW:=by have:=zB0 (·.waits.length) (vR (show (0:Int) ≤ (is.length:Int) by omega) (show (is.length:Int) < w.groups.length by omega));omega
    rw [if_neg h0] at hO
    obtain ⟨hR1,hR2,hR3,hR4⟩:=hR (by omega)
    have m1:∀ k,(id = n' + k) = False:=fun k=>by simp only [eq_iff_iff,iff_false];omega
    have m2:∀ k,(nx + k = id) = (nx + k = id):=fun k=>rfl
    have m3:(nx + 3 = id) = False:=by simp only [eq_iff_iff,iff_false];omega
    have m4:(nx = id) = False:=by simp only [eq_iff_iff,iff_false];omega
    try simp [-qt,-qd,-ql,rgs,hO,hR1,aN,wldV,vJ,zD9,hlt,k5,k6,k7,k8,k9,kA,kB,m1,m3,m4]
    repeat' first | done | ((first | ((with_reducible show zK _ _ _ _ _ _ _);refine zH rfl omA omA ?_) | ((with_reducible show zD _ _ _ 263 _ _);refine zU (f_cloneGroup (r:=F 13) (g:=gt w.groups (is.length:Int)) hc) ?_) | ((with_reducible show zL4 _ _ _ _ _ _ _ _);refine yO rfl rfl (by decide) (by decide) (by (simp [-qt,-qd,-ql,rgs,hO,hR1,aN,wldV,vJ,zD9,hlt,k5,k6,k7,k8,k9,kA,kB,m1,m3,m4];rfl)) (by (simp [-qt,-qd,-ql,rgs,hO,hR1,aN,wldV,vJ,zD9,hlt,k5,k6,k7,k8,k9,kA,kB,m1,m3,m4];rfl)) (by (simp;omega)) (by (simp only [yW,LIM] at *; simp;omega)) (by simp [iv,bv]) ?_) | (with_reducible refine zP (i:=8) [(0,[],[]),(1,[],[4]),(2,[],[]),(3,[.tmp 43],[]),(4,[],[]),(5,[],[]),(6,[],[]),(7,[],[])] (by kernel_rfl) ?_)) <;> simp [-qt,-qd,-ql,rgs,hO,hR1,aN,wldV,vJ,zD9,hlt,k5,k6,k7,k8,k9,kA,kB,m1,m3,m4]) | fail
    refine hnx.go (n' + 10,is ++ [n' + 13]) (by omega) (by simp [zI hlt hlim]) (by simp) zG (by first | omega | (simp;omega)) ?_
    dsimp only
    refine ⟨by simp,?_,fun _=>⟨?_,by omega,by omega,?_⟩,hS.snoc (fun k hk => ?_) ?_ (by omega) (by omega) (by omega),by omega,fun j hj hj2 => ?_⟩
    ·rw [zJ,if_neg (by omega)]
     try simp
     try exact List.eq_nil_of_length_eq_zero h0
    ·rw [zN7 hlt]
     repeat (first | rw [zF _ _ _ _ (by omega)] | rw [zJ])
     simp [zD9]
    ·intro hm
     rcases List.mem_append.1 hm with hm | hm
     ·have:=hS.hi _ hm;omega
     ·simp at hm
    ·have:=hS.hi k hk
     have:=hS.lo k hk
     have hne:k ≠ id:=fun e=>hR4 (e ▸ hk)
     repeat rw [zF _ _ _ _ (by omega)]
    ·repeat (first | rw [zF _ _ _ _ (by omega)] | rw [zJ])
    ·repeat rw [zF _ _ _ _ (by omega)]
     exact hF j hj hj2
  ·have he:is.length = w.groups.length:=by omega
   have key:∀ (HF:zW) (id nn gl:Nat),gl = w.groups.length → (∀ j,j < n1 + 36 → j ≠ nx + 3 → j ≠ nx + 1 → HF j = H2 j) → (∀ k ∈ is,HF k = h' k) → HF id = some (.row 5 (List.zipWith zD9 w.groups is)) → HF (n' + 16) = some (.row 4 (w.sights.map uU)) → HF (n' + 17) = some (.row 1 (w.began.map iv)) → HF (n' + 18) = some (.row 1 (w.rang.map iv)) →
    n1 + 36 ≤ id → id ∉ is → (id < n' ∨ n' + 18 < id) → id < nn → n' + 21 ≤ nn → KeepB nx HF h ∧ ∃ X,AV.agg [.int .i64 w.now,.ref ip 1 0 w.progs.length,.ref n1 5 0 w.tree.length,.ref (n1 + 1) 4 0 w.events.length,.ref (n1 + 17) 1 0 w.spread.told.length,.ref (n1 + 18) 1 0 w.spread.work.length,.ref (n1 + 19) 3 0 w.timers.heap.length,.ref (n1 + 20) 5 0 w.timers.list.length,.int .i64 w.timers.next,.ref (n1 + 21) 1 0 w.afters.slots.ages.length,.ref (n1 + 22) 1 0 w.afters.slots.used.length,.ref (n1 + 23) 5 0 w.afters.list.length,.ref (n1 + 31) 9 0 w.tasks.length,.ref id 5 0 gl,.ref (n' + 16) 4 0 w.sights.length,.ref (n' + 17) 1 0 w.began.length,.ref (n' + 18) 1 0 w.rang.length] = AV.agg (zB7 X w) ∧ WV HF X w ∧ ∀ i ∈ X.ids,nx ≤ i ∧ i < nn:=by
    intro HF id nn gl hgl c1 c2 c3 c4 c5 c6 c7 c8 c9 c10 c11
    subst hgl
    have t0:=(c1 ip (by omega) (by omega) (by omega)).trans q0
    have t1:=(c1 n1 (by omega) (by omega) (by omega)).trans q1
    have t2:=(c1 (n1 + 1) (by omega) (by omega) (by omega)).trans q2
    have t3:=(c1 (n1 + 17) (by omega) (by omega) (by omega)).trans q3
    have t4:=(c1 (n1 + 18) (by omega) (by omega) (by omega)).trans q4
    have t5:=(c1 (n1 + 19) (by omega) (by omega) (by omega)).trans q5
    have t6:=(c1 (n1 + 20) (by omega) (by omega) (by omega)).trans q6
    have t7:=(c1 (n1 + 21) (by omega) (by omega) (by omega)).trans q7
    have t8:=(c1 (n1 + 22) (by omega) (by omega) (by omega)).trans q8
    have t9:=(c1 (n1 + 23) (by omega) (by omega) (by omega)).trans q9
    have t10:=(c1 (n1 + 31) (by omega) (by omega) (by omega)).trans q10
    have nn1:∀ t,t < nx + 20 ∨ n1 ≤ t → t ∉ isp:=fun t ht hm=>by have:=hS1.lo t hm;have:=hS1.hi t hm;omega
    have nn2:∀ t,t < n1 + 36 ∨ n' ≤ t → t ∉ is:=fun t ht hm=>by have:=hS.lo t hm;have:=hS.hi t hm;omega
    refine ⟨fun j hj=>(c1 j (by omega) (by omega) (by omega)).trans (hK2 j hj),WI.ofL [ip,n1,n1 + 1,n1 + 17,n1 + 18,n1 + 19,n1 + 20,n1 + 21,n1 + 22,n1 + 23,n1 + 31,id,n' + 16,n' + 17,n' + 18] isp is,rfl,
     WV.ofM (a:=nx + 20) (b:=n1) (c:=n1 + 36) (d:=n') t0 t1 t2 t3 t4 t5 t6 t7 t8 t9 t10 c3 c4 c5 c6 hlen1 he (hS1.keep (fun i hi => ?_) (Nat.le_refl _) (Nat.le_refl _)) (hS.keep c2 (Nat.le_refl _) (Nat.le_refl _)) (fun x hx y hy => ?_) ?_ (fun t ht => ?_),fun i hi => ?_⟩
    ·have:=hS1.lo i hi
     have:=hS1.hi i hi
     rw [c1 i (by omega) (by omega) (by omega),qs i hi]
    ·have:=hS1.hi x hx
     have:=hS.lo y hy
     omega
    ·simp only [List.nodup_cons,List.mem_cons,List.not_mem_nil,or_false,not_or,List.nodup_nil,and_true,not_false_eq_true]
     omega
    ·simp only [List.mem_cons,List.not_mem_nil,or_false] at ht
     rcases ht with rfl | rfl | rfl | rfl | rfl | rfl | rfl | rfl | rfl | rfl | rfl | rfl | rfl | rfl | rfl
     ·exact ⟨hni1,nn2 _ (by omega)⟩
     all_goals first
     | exact ⟨nn1 _ (by omega),nn2 _ (by omega)⟩
     | exact ⟨nn1 _ (by omega),c8⟩
    ·rw [WI.ofL_ids] at hi
     rcases List.mem_append.1 hi with hi | hi
     ·simp only [List.mem_cons,List.not_mem_nil,or_false] at hi
      omega
     ·rcases List.mem_append.1 hi with hi | hi
      ·have:=hS1.lo i hi;have:=hS1.hi i hi;omega
      ·have:=hS.lo i hi;have:=hS.hi i hi;omega
   by_cases hg:w.groups = []
   ·have h0:is.length = 0:=by rw [he,hg];rfl
    rw [if_pos h0] at hO
    try simp [-qt,-qd,-ql,rgs,hO,aN,zN,wldV,he,hlt,k5,k6,k7,k8,k9,kA,kB]
    repeat' first | done | ((first | ((with_reducible show zD _ _ _ 264 _ _);refine zU (zR1 (by omega)) ?_) | ((with_reducible show zD _ _ _ 265 _ _);refine zU (zD2 (by omega)) ?_) | (with_reducible refine zP (i:=10) [(0,[],[]),(1,[],[]),(3,[],[]),(4,[],[]),(6,[],[]),(7,[],[]),(2,[.tmp 54,.tmp 57],[]),(9,[],[]),(5,[.tmp 57],[]),(8,[],[]),(10,[],[]),(11,[],[]),(12,[],[]),(13,[],[]),(14,[],[])] (by kernel_rfl) ?_)) <;> simp [-qt,-qd,-ql,rgs,hO,aN,zN,wldV,he,hlt,k5,k6,k7,k8,k9,kA,kB]) | fail
    refine .nilR (i:=13) (sz:=5) rfl (by decide) (.done ?_)
    have hz:List.zipWith zD9 w.groups is = []:=by rw [hg];rfl
    have hl:w.groups.length = 0:=by rw [hg];rfl
    refine key _ (n' + 21) (n' + 21 + 1) 0 hl.symm ?_ ?_ ?_ ?_ ?_ ?_ (by omega) (fun hm=>by have:=hS.hi _ hm;omega) (by omega) (by omega) (by omega)
    ·intro j hj h3 h1
     repeat rw [zF _ _ _ _ (by omega)]
     exact hF j hj h3
    ·intro k hk
     have:=hS.lo k hk
     have:=hS.hi k hk
     repeat rw [zF _ _ _ _ (by omega)]
    ·rw [hz];exact zJ ..
    ·repeat (first | exact zJ .. | rw [zF _ _ _ _ (by omega)])
    ·repeat (first | exact zJ .. | rw [zF _ _ _ _ (by omega)])
    ·repeat (first | exact zJ .. | rw [zF _ _ _ _ (by omega)])
   ·have h0:¬ is.length = 0:=by rw [he];simpa using hg
    rw [if_neg h0] at hO
    obtain ⟨hR1,hR2,hR3,hR4⟩:=hR (by omega)
    try simp [-qt,-qd,-ql,rgs,hO,aN,zN,wldV,he,hlt,k5,k6,k7,k8,k9,kA,kB]
    repeat' first | done | ((first | ((with_reducible show zD _ _ _ 264 _ _);refine zU (zR1 (by omega)) ?_) | ((with_reducible show zD _ _ _ 265 _ _);refine zU (zD2 (by omega)) ?_) | (with_reducible refine zP (i:=10) [(0,[],[]),(1,[],[]),(3,[],[]),(4,[],[]),(6,[],[]),(7,[],[]),(2,[.tmp 54,.tmp 57],[]),(9,[],[]),(5,[.tmp 57],[]),(8,[],[]),(10,[],[]),(11,[],[]),(12,[],[]),(13,[],[]),(14,[],[])] (by kernel_rfl) ?_)) <;> simp [-qt,-qd,-ql,rgs,hO,aN,zN,wldV,he,hlt,k5,k6,k7,k8,k9,kA,kB]) | fail
    refine .done (key _ id (n' + 21) _ rfl ?_ ?_ ?_ ?_ ?_ ?_ (by omega) hR4 (by omega) (by omega) (by omega))
    ·intro j hj h3 h1
     repeat rw [zF _ _ _ _ (by omega)]
     exact hF j hj h3
    ·intro k hk
     have:=hS.lo k hk
     have:=hS.hi k hk
     repeat rw [zF _ _ _ _ (by omega)]
    ·repeat rw [zF _ _ _ _ (by omega)]
     exact hR1
    ·repeat (first | exact zJ .. | rw [zF _ _ _ _ (by omega)])
    ·repeat (first | exact zJ .. | rw [zF _ _ _ _ (by omega)])
    ·repeat (first | exact zJ .. | rw [zF _ _ _ _ (by omega)])
end Go.AE.Tryz
end
section
/- Contracts of what is generic. -/
set_option maxRecDepth 8000
set_option maxHeartbeats 2000000
namespace Go.AE.Tryz
open Go.Proofs
open List renaming map_take → qt,map_drop → qd,map_tail → ql
theorem c_size_Ins {p:Bool} {xs:List Inn}:PC ctx.P 212 [.view p 3 (xs.map vY)] (.int .i64 xs.length):=by
 refine PC.o okC Tryz.func212 rfl (.int _ _) fun h nx hnx => ?_
 try simp [-qt,-qd,-ql,rgs]
 repeat' first | done | (((with_reducible show zT _ _ _ _ _ _);refine zA rfl fun _ => ?_) <;> simp [-qt,-qd,-ql,rgs]) | fail
theorem c_IndexFunc_Ins {p:Bool} {xs:List Inn} {q:Inn → Bool} {fv:AV} (hq:∀ x ∈ xs,FV ctx.P fv [.agg (vY x)] (.bool (q x))) :
 PC ctx.P 325 [.view p 3 (xs.map vY),fv] (.int .i64 (yH q xs 0)):=by
 refine PC.lim (n:=xs.length) (x:=.view p 3 (xs.map vY)) (by simp) (.here (by simp)) ⟨_,Tryz.func325,by kernel_rfl,by kernel_rfl⟩ fun hlim => ?_
 refine PC.o okC Tryz.func325 rfl (.int _ _) fun h nx hnx => ?_
 try simp [-qt,-qd,-ql,rgs]
 repeat' first | done | (((with_reducible show zT _ _ _ _ _ _);refine zA rfl fun _ => ?_) <;> simp [-qt,-qd,-ql,rgs]) | fail
 refine zR [4,5,8,9,10,11,12,13,14,15,16,17,18] (xs.length) (fun (i:Nat) a=>[(8,.int .i64 i)]) (fun i_ a_ h_ _=>(fun i (_:Unit) _=>yH q (xs.drop i) i = yH q xs 0) i_ a_ h_) (()) (by simp) ?_ zO (Nat.le_refl _) ?_
 ·simp
 ·intro i a tm h' n' hle hJ hE hn' next hnx
  try dsimp only at hJ
  have hK:KeepB nx h' h:=KeepB.sub hE zG (by omega)
  simp [-qt,-qd,-ql]
  repeat' first | done | ((first | ((with_reducible show zK _ _ _ _ _ _ _);refine zH rfl omA omA ?_) | (refine zA1 (hq _ (vR (by omega) (by omega))) ?_)) <;> simp [-qt,-qd,-ql,rgs,vY]) | ((with_reducible refine zC ?_ ?_) <;> intro qb <;> (have qp:=qb;try simp only [psq] at qp) <;> simp [-qt,-qd,-ql,rgs,vY,qb])
  all_goals
   first
   | (have hlt:i < xs.length:=(by first | omega | (simp at *; omega))
      rw [zQ hlt] at hJ
      first
      | (refine hnx.go (()) ?_ ?_ ?_ ?_ ?_ ?_;omega;(simp [zI hlt hlim]);(simp);exact zG;(first | omega | (simp;omega));(try dsimp only);clear hnx;first | ((try simp only [List.drop_length,Int.toNat_natCast,yH] at hJ ⊢);grind) | (simp_all [yH];done) | (simp_all;omega))
      | (refine ⟨?_,zG⟩;clear hnx;first | ((try simp only [List.drop_length,Int.toNat_natCast,yH] at hJ ⊢);grind) | (simp_all [yH];done) | (simp_all;omega)))
   | (obtain rfl:i = xs.length:=(by first | omega | (simp at *; omega))
      refine ⟨?_,zG⟩;clear hnx;first | ((try simp only [List.drop_length,Int.toNat_natCast,yH] at hJ ⊢);grind) | (simp_all [yH];done) | (simp_all;omega))
theorem zR9 {p:Bool} {xs:List Inn} {q:Inn → Bool} {fv:AV} (hq:∀ x ∈ xs,FV ctx.P fv [.agg (vY x)] (.bool (q x))) :
 PC ctx.P 219 [.view p 3 (xs.map vY),fv] (.bool (xs.any q)):=by
 refine PC.o okC Tryz.func219 rfl (.bool _) fun h nx hnx => ?_
 try simp [-qt,-qd,-ql,rgs,vE q xs 0 (Int.le_refl 0)]
 repeat' first | done | (((with_reducible show zD _ _ _ 325 _ _);refine zB (c_IndexFunc_Ins hq) ?_) <;> simp [-qt,-qd,-ql,rgs,vE q xs 0 (Int.le_refl 0)]) | fail
theorem c_size_Node {p:Bool} {xs:List Nod}:PC ctx.P 132 [.view p 5 (xs.map yS)] (.int .i64 xs.length):=by
 refine PC.o okC Tryz.func132 rfl (.int _ _) fun h nx hnx => ?_
 try simp [-qt,-qd,-ql,rgs]
 repeat' first | done | (((with_reducible show zT _ _ _ _ _ _);refine zA rfl fun _ => ?_) <;> simp [-qt,-qd,-ql,rgs]) | fail
theorem zC2 {p:Bool} {n:Int} {xs:List Nod}:PC ctx.P 113 [.int .i64 n,.view p 5 (xs.map yS)] (.bool (uF n xs)):=by
 refine PC.lim (n:=xs.length) (x:=.view p 5 (xs.map yS)) (by simp) (.here (by simp)) ⟨_,Tryz.func113,by kernel_rfl,by kernel_rfl⟩ fun hlim => ?_
 refine PC.o okC Tryz.func113 rfl (.bool _) fun h nx hnx => ?_
 try simp [-qt,-qd,-ql,rgs,yA hlim,uF]
 repeat' first | done | ((first | ((with_reducible show zD _ _ _ 132 _ _);refine zB (c_size_Node) ?_) | ((with_reducible show zD _ _ _ 106 _ _);refine zB (yY) ?_)) <;> simp [-qt,-qd,-ql,rgs,yA hlim,uF]) | fail
theorem c_size_Event {p:Bool} {xs:List Evt}:PC ctx.P 255 [.view p 4 (xs.map vD)] (.int .i64 xs.length):=by
 refine PC.o okC Tryz.func255 rfl (.int _ _) fun h nx hnx => ?_
 try simp [-qt,-qd,-ql,rgs]
 repeat' first | done | (((with_reducible show zT _ _ _ _ _ _);refine zA rfl fun _ => ?_) <;> simp [-qt,-qd,-ql,rgs]) | fail
theorem c_IndexFunc_Event {p:Bool} {xs:List Evt} {q:Evt → Bool} {fv:AV} (hq:∀ x ∈ xs,FV ctx.P fv [.agg (vD x)] (.bool (q x))) :
 PC ctx.P 329 [.view p 4 (xs.map vD),fv] (.int .i64 (yH q xs 0)):=by
 refine PC.lim (n:=xs.length) (x:=.view p 4 (xs.map vD)) (by simp) (.here (by simp)) ⟨_,Tryz.func329,by kernel_rfl,by kernel_rfl⟩ fun hlim => ?_
 refine PC.o okC Tryz.func329 rfl (.int _ _) fun h nx hnx => ?_
 try simp [-qt,-qd,-ql,rgs]
 repeat' first | done | (((with_reducible show zT _ _ _ _ _ _);refine zA rfl fun _ => ?_) <;> simp [-qt,-qd,-ql,rgs]) | fail
 refine zR [4,5,8,9,10,11,12,13,14,15,16,17,18] (xs.length) (fun (i:Nat) a=>[(8,.int .i64 i)]) (fun i_ a_ h_ _=>(fun i (_:Unit) _=>yH q (xs.drop i) i = yH q xs 0) i_ a_ h_) (()) (by simp) ?_ zO (Nat.le_refl _) ?_
 ·simp
 ·intro i a tm h' n' hle hJ hE hn' next hnx
  try dsimp only at hJ
  have hK:KeepB nx h' h:=KeepB.sub hE zG (by omega)
  simp [-qt,-qd,-ql]
  repeat' first | done | ((first | ((with_reducible show zK _ _ _ _ _ _ _);refine zH rfl omA omA ?_) | (refine zA1 (hq _ (vR (by omega) (by omega))) ?_)) <;> simp [-qt,-qd,-ql,rgs,vD]) | ((with_reducible refine zC ?_ ?_) <;> intro qb <;> (have qp:=qb;try simp only [psq] at qp) <;> simp [-qt,-qd,-ql,rgs,vD,qb])
  all_goals
   first
   | (have hlt:i < xs.length:=(by first | omega | (simp at *; omega))
      rw [zQ hlt] at hJ
      first
      | (refine hnx.go (()) ?_ ?_ ?_ ?_ ?_ ?_;omega;(simp [zI hlt hlim]);(simp);exact zG;(first | omega | (simp;omega));(try dsimp only);clear hnx;first | ((try simp only [List.drop_length,Int.toNat_natCast,yH] at hJ ⊢);grind) | (simp_all [yH];done) | (simp_all;omega))
      | (refine ⟨?_,zG⟩;clear hnx;first | ((try simp only [List.drop_length,Int.toNat_natCast,yH] at hJ ⊢);grind) | (simp_all [yH];done) | (simp_all;omega)))
   | (obtain rfl:i = xs.length:=(by first | omega | (simp at *; omega))
      refine ⟨?_,zG⟩;clear hnx;first | ((try simp only [List.drop_length,Int.toNat_natCast,yH] at hJ ⊢);grind) | (simp_all [yH];done) | (simp_all;omega))
theorem zO8 {p:Bool} {xs:List Evt} {q:Evt → Bool} {fv:AV} (hq:∀ x ∈ xs,FV ctx.P fv [.agg (vD x)] (.bool (q x))) :
 PC ctx.P 226 [.view p 4 (xs.map vD),fv] (.bool (xs.any q)):=by
 refine PC.o okC Tryz.func226 rfl (.bool _) fun h nx hnx => ?_
 try simp [-qt,-qd,-ql,rgs,vE q xs 0 (Int.le_refl 0)]
 repeat' first | done | (((with_reducible show zD _ _ _ 329 _ _);refine zB (c_IndexFunc_Event hq) ?_) <;> simp [-qt,-qd,-ql,rgs,vE q xs 0 (Int.le_refl 0)]) | fail
theorem c_allf_Event {x:Evt} {q:Evt → Bool} {fv:AV} (hq:FV ctx.P fv [.agg (vD x)] (.bool (q x))):PC ctx.P 227 [.agg (vD x),.vptr [fv]] (.bool (!q x)):=by
 refine PC.o okC Tryz.func227 rfl (.bool _) fun h nx hnx => ?_
 try simp [-qt,-qd,-ql,rgs]
 repeat' first | done | ((refine zA1 (hq) ?_) <;> simp [-qt,-qd,-ql,rgs]) | fail
theorem c_all_Event {p:Bool} {xs:List Evt} {q:Evt → Bool} {fv:AV} (hf:IsF fv) (hq:∀ x ∈ xs,FV ctx.P fv [.agg (vD x)] (.bool (q x))) :
 PC ctx.P 104 [.view p 4 (xs.map vD),fv] (.bool (xs.all q)):=by
 refine PC.o okC Tryz.func104 rfl (.bool _) fun h nx hnx => ?_
 have hc:=zO8 (p:=p) (q:=fun x => !q x) (xs:=xs) (fv:=.fn 227 [.vptr [fv]]) fun x hx=>c_allf_Event (hq x hx)
 cases hf
 all_goals simp
 ·refine yG (hc) (by exact .bool _) (by repeat' first | exact Bors.nil | refine Bors.cons ?_ ?_ | exact Bor.same _ | refine Bor.fn1 ?_ | refine Bor.ptr0 (by (simp;rfl)) ?_) ?_
  simp [resultsA,resA,List.all_eq_not_any_not]
 ·refine yG (hc) (by exact .bool _) (by repeat' first | exact Bors.nil | refine Bors.cons ?_ ?_ | exact Bor.same _ | refine Bor.fn1 ?_ | refine Bor.ptr0 (by (simp;rfl)) ?_) ?_
  simp [resultsA,resA,List.all_eq_not_any_not]
theorem zG7 {p:Bool} {xs:List Twg}:PC ctx.P 392 [.view p 3 (xs.map zZ)] (.int .i64 xs.length):=by
 refine PC.o okC Tryz.func392 rfl (.int _ _) fun h nx hnx => ?_
 try simp [-qt,-qd,-ql,rgs]
 repeat' first | done | (((with_reducible show zT _ _ _ _ _ _);refine zA rfl fun _ => ?_) <;> simp [-qt,-qd,-ql,rgs]) | fail
theorem zL1 {p:Bool} {xs:List Twg} {q:Twg → Bool} {fv:AV} (hq:∀ x ∈ xs,FV ctx.P fv [.agg (zZ x)] (.bool (q x))) :
 PC ctx.P 332 [.view p 3 (xs.map zZ),fv] (.int .i64 (yH q xs 0)):=by
 refine PC.lim (n:=xs.length) (x:=.view p 3 (xs.map zZ)) (by simp) (.here (by simp)) ⟨_,Tryz.func332,by kernel_rfl,by kernel_rfl⟩ fun hlim => ?_
 refine PC.o okC Tryz.func332 rfl (.int _ _) fun h nx hnx => ?_
 try simp [-qt,-qd,-ql,rgs]
 repeat' first | done | (((with_reducible show zT _ _ _ _ _ _);refine zA rfl fun _ => ?_) <;> simp [-qt,-qd,-ql,rgs]) | fail
 refine zR [4,5,8,9,10,11,12,13,14,15,16,17,18] (xs.length) (fun (i:Nat) a=>[(8,.int .i64 i)]) (fun i_ a_ h_ _=>(fun i (_:Unit) _=>yH q (xs.drop i) i = yH q xs 0) i_ a_ h_) (()) (by simp) ?_ zO (Nat.le_refl _) ?_
 ·simp
 ·intro i a tm h' n' hle hJ hE hn' next hnx
  try dsimp only at hJ
  have hK:KeepB nx h' h:=KeepB.sub hE zG (by omega)
  simp [-qt,-qd,-ql]
  repeat' first | done | ((first | ((with_reducible show zK _ _ _ _ _ _ _);refine zH rfl omA omA ?_) | (refine zA1 (hq _ (vR (by omega) (by omega))) ?_)) <;> simp [-qt,-qd,-ql,rgs,zZ]) | ((with_reducible refine zC ?_ ?_) <;> intro qb <;> (have qp:=qb;try simp only [psq] at qp) <;> simp [-qt,-qd,-ql,rgs,zZ,qb])
  all_goals
   first
   | (have hlt:i < xs.length:=(by first | omega | (simp at *; omega))
      rw [zQ hlt] at hJ
      first
      | (refine hnx.go (()) ?_ ?_ ?_ ?_ ?_ ?_;omega;(simp [zI hlt hlim]);(simp);exact zG;(first | omega | (simp;omega));(try dsimp only);clear hnx;first | ((try simp only [List.drop_length,Int.toNat_natCast,yH] at hJ ⊢);grind) | (simp_all [yH];done) | (simp_all;omega))
      | (refine ⟨?_,zG⟩;clear hnx;first | ((try simp only [List.drop_length,Int.toNat_natCast,yH] at hJ ⊢);grind) | (simp_all [yH];done) | (simp_all;omega)))
   | (obtain rfl:i = xs.length:=(by first | omega | (simp at *; omega))
      refine ⟨?_,zG⟩;clear hnx;first | ((try simp only [List.drop_length,Int.toNat_natCast,yH] at hJ ⊢);grind) | (simp_all [yH];done) | (simp_all;omega))
theorem zP9 {p:Bool} {xs:List Twg} {q:Twg → Bool} {fv:AV} (hq:∀ x ∈ xs,FV ctx.P fv [.agg (zZ x)] (.bool (q x))) :
 PC ctx.P 229 [.view p 3 (xs.map zZ),fv] (.bool (xs.any q)):=by
 refine PC.o okC Tryz.func229 rfl (.bool _) fun h nx hnx => ?_
 try simp [-qt,-qd,-ql,rgs,vE q xs 0 (Int.le_refl 0)]
 repeat' first | done | (((with_reducible show zD _ _ _ 332 _ _);refine zB (zL1 hq) ?_) <;> simp [-qt,-qd,-ql,rgs,vE q xs 0 (Int.le_refl 0)]) | fail
theorem zI9 {p:Bool} {xs:List Tmr} {q:Tmr → Bool} {fv:AV} (hq:∀ x ∈ xs,FV ctx.P fv [.agg (yN x)] (.bool (q x))) :
 PC ctx.P 333 [.view p 5 (xs.map yN),fv] (.int .i64 (yH q xs 0)):=by
 refine PC.lim (n:=xs.length) (x:=.view p 5 (xs.map yN)) (by simp) (.here (by simp)) ⟨_,Tryz.func333,by kernel_rfl,by kernel_rfl⟩ fun hlim => ?_
 refine PC.o okC Tryz.func333 rfl (.int _ _) fun h nx hnx => ?_
 try simp [-qt,-qd,-ql,rgs]
 repeat' first | done | (((with_reducible show zT _ _ _ _ _ _);refine zA rfl fun _ => ?_) <;> simp [-qt,-qd,-ql,rgs]) | fail
 refine zR [4,5,8,9,10,11,12,13,14,15,16,17,18] (xs.length) (fun (i:Nat) a=>[(8,.int .i64 i)]) (fun i_ a_ h_ _=>(fun i (_:Unit) _=>yH q (xs.drop i) i = yH q xs 0) i_ a_ h_) (()) (by simp) ?_ zO (Nat.le_refl _) ?_
 ·simp
 ·intro i a tm h' n' hle hJ hE hn' next hnx
  try dsimp only at hJ
  have hK:KeepB nx h' h:=KeepB.sub hE zG (by omega)
  simp [-qt,-qd,-ql]
  repeat' first | done | ((first | ((with_reducible show zK _ _ _ _ _ _ _);refine zH rfl omA omA ?_) | (refine zA1 (hq _ (vR (by omega) (by omega))) ?_)) <;> simp [-qt,-qd,-ql,rgs,yN]) | ((with_reducible refine zC ?_ ?_) <;> intro qb <;> (have qp:=qb;try simp only [psq] at qp) <;> simp [-qt,-qd,-ql,rgs,yN,qb])
  all_goals
   first
   | (have hlt:i < xs.length:=(by first | omega | (simp at *; omega))
      rw [zQ hlt] at hJ
      first
      | (refine hnx.go (()) ?_ ?_ ?_ ?_ ?_ ?_;omega;(simp [zI hlt hlim]);(simp);exact zG;(first | omega | (simp;omega));(try dsimp only);clear hnx;first | ((try simp only [List.drop_length,Int.toNat_natCast,yH] at hJ ⊢);grind) | (simp_all [yH];done) | (simp_all;omega))
      | (refine ⟨?_,zG⟩;clear hnx;first | ((try simp only [List.drop_length,Int.toNat_natCast,yH] at hJ ⊢);grind) | (simp_all [yH];done) | (simp_all;omega)))
   | (obtain rfl:i = xs.length:=(by first | omega | (simp at *; omega))
      refine ⟨?_,zG⟩;clear hnx;first | ((try simp only [List.drop_length,Int.toNat_natCast,yH] at hJ ⊢);grind) | (simp_all [yH];done) | (simp_all;omega))
theorem zO4 {p:Bool} {xs:List Tmr} {q:Tmr → Bool} {fv:AV} (hq:∀ x ∈ xs,FV ctx.P fv [.agg (yN x)] (.bool (q x))) :
 PC ctx.P 232 [.view p 5 (xs.map yN),fv] (.bool (xs.any q)):=by
 refine PC.o okC Tryz.func232 rfl (.bool _) fun h nx hnx => ?_
 try simp [-qt,-qd,-ql,rgs,vE q xs 0 (Int.le_refl 0)]
 repeat' first | done | (((with_reducible show zD _ _ _ 333 _ _);refine zB (zI9 hq) ?_) <;> simp [-qt,-qd,-ql,rgs,vE q xs 0 (Int.le_refl 0)]) | fail
theorem c_allf_Timer {x:Tmr} {q:Tmr → Bool} {fv:AV} (hq:FV ctx.P fv [.agg (yN x)] (.bool (q x))):PC ctx.P 233 [.agg (yN x),.vptr [fv]] (.bool (!q x)):=by
 refine PC.o okC Tryz.func233 rfl (.bool _) fun h nx hnx => ?_
 try simp [-qt,-qd,-ql,rgs]
 repeat' first | done | ((refine zA1 (hq) ?_) <;> simp [-qt,-qd,-ql,rgs]) | fail
theorem c_all_Timer {p:Bool} {xs:List Tmr} {q:Tmr → Bool} {fv:AV} (hf:IsF fv) (hq:∀ x ∈ xs,FV ctx.P fv [.agg (yN x)] (.bool (q x))) :
 PC ctx.P 108 [.view p 5 (xs.map yN),fv] (.bool (xs.all q)):=by
 refine PC.o okC Tryz.func108 rfl (.bool _) fun h nx hnx => ?_
 have hc:=zO4 (p:=p) (q:=fun x => !q x) (xs:=xs) (fv:=.fn 233 [.vptr [fv]]) fun x hx=>c_allf_Timer (hq x hx)
 cases hf
 all_goals simp
 ·refine yG (hc) (by exact .bool _) (by repeat' first | exact Bors.nil | refine Bors.cons ?_ ?_ | exact Bor.same _ | refine Bor.fn1 ?_ | refine Bor.ptr0 (by (simp;rfl)) ?_) ?_
  simp [resultsA,resA,List.all_eq_not_any_not]
 ·refine yG (hc) (by exact .bool _) (by repeat' first | exact Bors.nil | refine Bors.cons ?_ ?_ | exact Bor.same _ | refine Bor.fn1 ?_ | refine Bor.ptr0 (by (simp;rfl)) ?_) ?_
  simp [resultsA,resA,List.all_eq_not_any_not]
theorem c_size_After {p:Bool} {xs:List Afr}:PC ctx.P 235 [.view p 5 (xs.map vB)] (.int .i64 xs.length):=by
 refine PC.o okC Tryz.func235 rfl (.int _ _) fun h nx hnx => ?_
 try simp [-qt,-qd,-ql,rgs]
 repeat' first | done | (((with_reducible show zT _ _ _ _ _ _);refine zA rfl fun _ => ?_) <;> simp [-qt,-qd,-ql,rgs]) | fail
theorem zJ1 {p:Bool} {xs:List Afr} {q:Afr → Bool} {fv:AV} (hq:∀ x ∈ xs,FV ctx.P fv [.agg (vB x)] (.bool (q x))) :
 PC ctx.P 338 [.view p 5 (xs.map vB),fv] (.int .i64 (yH q xs 0)):=by
 refine PC.lim (n:=xs.length) (x:=.view p 5 (xs.map vB)) (by simp) (.here (by simp)) ⟨_,Tryz.func338,by kernel_rfl,by kernel_rfl⟩ fun hlim => ?_
 refine PC.o okC Tryz.func338 rfl (.int _ _) fun h nx hnx => ?_
 try simp [-qt,-qd,-ql,rgs]
 repeat' first | done | (((with_reducible show zT _ _ _ _ _ _);refine zA rfl fun _ => ?_) <;> simp [-qt,-qd,-ql,rgs]) | fail
 refine zR [4,5,8,9,10,11,12,13,14,15,16,17,18] (xs.length) (fun (i:Nat) a=>[(8,.int .i64 i)]) (fun i_ a_ h_ _=>(fun i (_:Unit) _=>yH q (xs.drop i) i = yH q xs 0) i_ a_ h_) (()) (by simp) ?_ zO (Nat.le_refl _) ?_
 ·simp
 ·intro i a tm h' n' hle hJ hE hn' next hnx
  try dsimp only at hJ
  have hK:KeepB nx h' h:=KeepB.sub hE zG (by omega)
  simp [-qt,-qd,-ql]
  repeat' first | done | ((first | ((with_reducible show zK _ _ _ _ _ _ _);refine zH rfl omA omA ?_) | (refine zA1 (hq _ (vR (by omega) (by omega))) ?_)) <;> simp [-qt,-qd,-ql,rgs,vB]) | ((with_reducible refine zC ?_ ?_) <;> intro qb <;> (have qp:=qb;try simp only [psq] at qp) <;> simp [-qt,-qd,-ql,rgs,vB,qb])
  all_goals
   first
   | (have hlt:i < xs.length:=(by first | omega | (simp at *; omega))
      rw [zQ hlt] at hJ
      first
      | (refine hnx.go (()) ?_ ?_ ?_ ?_ ?_ ?_;omega;(simp [zI hlt hlim]);(simp);exact zG;(first | omega | (simp;omega));(try dsimp only);clear hnx;first | ((try simp only [List.drop_length,Int.toNat_natCast,yH] at hJ ⊢);grind) | (simp_all [yH];done) | (simp_all;omega))
      | (refine ⟨?_,zG⟩;clear hnx;first | ((try simp only [List.drop_length,Int.toNat_natCast,yH] at hJ ⊢);grind) | (simp_all [yH];done) | (simp_all;omega)))
   | (obtain rfl:i = xs.length:=(by first | omega | (simp at *; omega))
      refine ⟨?_,zG⟩;clear hnx;first | ((try simp only [List.drop_length,Int.toNat_natCast,yH] at hJ ⊢);grind) | (simp_all [yH];done) | (simp_all;omega))
theorem zO1 {p:Bool} {xs:List Afr} {q:Afr → Bool} {fv:AV} (hq:∀ x ∈ xs,FV ctx.P fv [.agg (vB x)] (.bool (q x))) :
 PC ctx.P 240 [.view p 5 (xs.map vB),fv] (.bool (xs.any q)):=by
 refine PC.o okC Tryz.func240 rfl (.bool _) fun h nx hnx => ?_
 try simp [-qt,-qd,-ql,rgs,vE q xs 0 (Int.le_refl 0)]
 repeat' first | done | (((with_reducible show zD _ _ _ 338 _ _);refine zB (zJ1 hq) ?_) <;> simp [-qt,-qd,-ql,rgs,vE q xs 0 (Int.le_refl 0)]) | fail
theorem c_allf_After {x:Afr} {q:Afr → Bool} {fv:AV} (hq:FV ctx.P fv [.agg (vB x)] (.bool (q x))):PC ctx.P 241 [.agg (vB x),.vptr [fv]] (.bool (!q x)):=by
 refine PC.o okC Tryz.func241 rfl (.bool _) fun h nx hnx => ?_
 try simp [-qt,-qd,-ql,rgs]
 repeat' first | done | ((refine zA1 (hq) ?_) <;> simp [-qt,-qd,-ql,rgs]) | fail
theorem c_all_After {p:Bool} {xs:List Afr} {q:Afr → Bool} {fv:AV} (hf:IsF fv) (hq:∀ x ∈ xs,FV ctx.P fv [.agg (vB x)] (.bool (q x))) :
 PC ctx.P 111 [.view p 5 (xs.map vB),fv] (.bool (xs.all q)):=by
 refine PC.o okC Tryz.func111 rfl (.bool _) fun h nx hnx => ?_
 have hc:=zO1 (p:=p) (q:=fun x => !q x) (xs:=xs) (fv:=.fn 241 [.vptr [fv]]) fun x hx=>c_allf_After (hq x hx)
 cases hf
 all_goals simp
 ·refine yG (hc) (by exact .bool _) (by repeat' first | exact Bors.nil | refine Bors.cons ?_ ?_ | exact Bor.same _ | refine Bor.fn1 ?_ | refine Bor.ptr0 (by (simp;rfl)) ?_) ?_
  simp [resultsA,resA,List.all_eq_not_any_not]
 ·refine yG (hc) (by exact .bool _) (by repeat' first | exact Bors.nil | refine Bors.cons ?_ ?_ | exact Bor.same _ | refine Bor.fn1 ?_ | refine Bor.ptr0 (by (simp;rfl)) ?_) ?_
  simp [resultsA,resA,List.all_eq_not_any_not]
theorem c_size_Task {p:Bool} {xs:List Tsk}:PC ctx.P 312 [.view p 9 (xs.map yM)] (.int .i64 xs.length):=by
 refine PC.o okC Tryz.func312 rfl (.int _ _) fun h nx hnx => ?_
 try simp [-qt,-qd,-ql,rgs]
 repeat' first | done | (((with_reducible show zT _ _ _ _ _ _);refine zA rfl fun _ => ?_) <;> simp [-qt,-qd,-ql,rgs]) | fail
theorem c_isIn_Task {p:Bool} {n:Int} {xs:List Tsk}:PC ctx.P 211 [.int .i64 n,.view p 9 (xs.map yM)] (.bool (uF n xs)):=by
 refine PC.lim (n:=xs.length) (x:=.view p 9 (xs.map yM)) (by simp) (.here (by simp)) ⟨_,Tryz.func211,by kernel_rfl,by kernel_rfl⟩ fun hlim => ?_
 refine PC.o okC Tryz.func211 rfl (.bool _) fun h nx hnx => ?_
 try simp [-qt,-qd,-ql,rgs,yA hlim,uF]
 repeat' first | done | ((first | ((with_reducible show zD _ _ _ 312 _ _);refine zB (c_size_Task) ?_) | ((with_reducible show zD _ _ _ 106 _ _);refine zB (yY) ?_)) <;> simp [-qt,-qd,-ql,rgs,yA hlim,uF]) | fail
theorem c_IndexFunc_Task {p:Bool} {xs:List Tsk} {q:Tsk → Bool} {fv:AV} (hq:∀ x ∈ xs,FV ctx.P fv [.agg (yM x)] (.bool (q x))) :
 PC ctx.P 340 [.view p 9 (xs.map yM),fv] (.int .i64 (yH q xs 0)):=by
 refine PC.lim (n:=xs.length) (x:=.view p 9 (xs.map yM)) (by simp) (.here (by simp)) ⟨_,Tryz.func340,by kernel_rfl,by kernel_rfl⟩ fun hlim => ?_
 refine PC.o okC Tryz.func340 rfl (.int _ _) fun h nx hnx => ?_
 try simp [-qt,-qd,-ql,rgs]
 repeat' first | done | (((with_reducible show zT _ _ _ _ _ _);refine zA rfl fun _ => ?_) <;> simp [-qt,-qd,-ql,rgs]) | fail
 refine zR [4,5,8,9,10,11,12,13,14,15,16,17,18] (xs.length) (fun (i:Nat) a=>[(8,.int .i64 i)]) (fun i_ a_ h_ _=>(fun i (_:Unit) _=>yH q (xs.drop i) i = yH q xs 0) i_ a_ h_) (()) (by simp) ?_ zO (Nat.le_refl _) ?_
 ·simp
 ·intro i a tm h' n' hle hJ hE hn' next hnx
  try dsimp only at hJ
  have hK:KeepB nx h' h:=KeepB.sub hE zG (by omega)
  simp [-qt,-qd,-ql]
  repeat' first | done | ((first | ((with_reducible show zK _ _ _ _ _ _ _);refine zH rfl omA omA ?_) | (refine zA1 (hq _ (vR (by omega) (by omega))) ?_)) <;> simp [-qt,-qd,-ql,rgs,yM]) | ((with_reducible refine zC ?_ ?_) <;> intro qb <;> (have qp:=qb;try simp only [psq] at qp) <;> simp [-qt,-qd,-ql,rgs,yM,qb])
  all_goals
   first
   | (have hlt:i < xs.length:=(by first | omega | (simp at *; omega))
      rw [zQ hlt] at hJ
      first
      | (refine hnx.go (()) ?_ ?_ ?_ ?_ ?_ ?_;omega;(simp [zI hlt hlim]);(simp);exact zG;(first | omega | (simp;omega));(try dsimp only);clear hnx;first | ((try simp only [List.drop_length,Int.toNat_natCast,yH] at hJ ⊢);grind) | (simp_all [yH];done) | (simp_all;omega))
      | (refine ⟨?_,zG⟩;clear hnx;first | ((try simp only [List.drop_length,Int.toNat_natCast,yH] at hJ ⊢);grind) | (simp_all [yH];done) | (simp_all;omega)))
   | (obtain rfl:i = xs.length:=(by first | omega | (simp at *; omega))
      refine ⟨?_,zG⟩;clear hnx;first | ((try simp only [List.drop_length,Int.toNat_natCast,yH] at hJ ⊢);grind) | (simp_all [yH];done) | (simp_all;omega))
theorem zH0 {p:Bool} {xs:List Tsk} {q:Tsk → Bool} {fv:AV} (hq:∀ x ∈ xs,FV ctx.P fv [.agg (yM x)] (.bool (q x))) :
 PC ctx.P 242 [.view p 9 (xs.map yM),fv] (.bool (xs.any q)):=by
 refine PC.o okC Tryz.func242 rfl (.bool _) fun h nx hnx => ?_
 try simp [-qt,-qd,-ql,rgs,vE q xs 0 (Int.le_refl 0)]
 repeat' first | done | (((with_reducible show zD _ _ _ 340 _ _);refine zB (c_IndexFunc_Task hq) ?_) <;> simp [-qt,-qd,-ql,rgs,vE q xs 0 (Int.le_refl 0)]) | fail
theorem c_allf_Task {x:Tsk} {q:Tsk → Bool} {fv:AV} (hq:FV ctx.P fv [.agg (yM x)] (.bool (q x))):PC ctx.P 245 [.agg (yM x),.vptr [fv]] (.bool (!q x)):=by
 refine PC.o okC Tryz.func245 rfl (.bool _) fun h nx hnx => ?_
 try simp [-qt,-qd,-ql,rgs]
 repeat' first | done | ((refine zA1 (hq) ?_) <;> simp [-qt,-qd,-ql,rgs]) | fail
theorem c_all_Task {p:Bool} {xs:List Tsk} {q:Tsk → Bool} {fv:AV} (hf:IsF fv) (hq:∀ x ∈ xs,FV ctx.P fv [.agg (yM x)] (.bool (q x))) :
 PC ctx.P 115 [.view p 9 (xs.map yM),fv] (.bool (xs.all q)):=by
 refine PC.o okC Tryz.func115 rfl (.bool _) fun h nx hnx => ?_
 have hc:=zH0 (p:=p) (q:=fun x => !q x) (xs:=xs) (fv:=.fn 245 [.vptr [fv]]) fun x hx=>c_allf_Task (hq x hx)
 cases hf
 all_goals simp
 ·refine yG (hc) (by exact .bool _) (by repeat' first | exact Bors.nil | refine Bors.cons ?_ ?_ | exact Bor.same _ | refine Bor.fn1 ?_ | refine Bor.ptr0 (by (simp;rfl)) ?_) ?_
  simp [resultsA,resA,List.all_eq_not_any_not]
 ·refine yG (hc) (by exact .bool _) (by repeat' first | exact Bors.nil | refine Bors.cons ?_ ?_ | exact Bor.same _ | refine Bor.fn1 ?_ | refine Bor.ptr0 (by (simp;rfl)) ?_) ?_
  simp [resultsA,resA,List.all_eq_not_any_not]
theorem c_size_Group {p:Bool} {pg:Bool} {xs:List Grp}:PC ctx.P 247 [.view p 5 (xs.map (vJ pg))] (.int .i64 xs.length):=by
 refine PC.o okC Tryz.func247 rfl (.int _ _) fun h nx hnx => ?_
 try simp [-qt,-qd,-ql,rgs]
 repeat' first | done | (((with_reducible show zT _ _ _ _ _ _);refine zA rfl fun _ => ?_) <;> simp [-qt,-qd,-ql,rgs]) | fail
theorem c_isIn_Group {p:Bool} {pg:Bool} {n:Int} {xs:List Grp}:PC ctx.P 248 [.int .i64 n,.view p 5 (xs.map (vJ pg))] (.bool (uF n xs)):=by
 refine PC.lim (n:=xs.length) (x:=.view p 5 (xs.map (vJ pg))) (by simp) (.here (by simp)) ⟨_,Tryz.func248,by kernel_rfl,by kernel_rfl⟩ fun hlim => ?_
 refine PC.o okC Tryz.func248 rfl (.bool _) fun h nx hnx => ?_
 try simp [-qt,-qd,-ql,rgs,yA hlim,uF]
 repeat' first | done | ((first | ((with_reducible show zD _ _ _ 247 _ _);refine zB (c_size_Group) ?_) | ((with_reducible show zD _ _ _ 106 _ _);refine zB (yY) ?_)) <;> simp [-qt,-qd,-ql,rgs,yA hlim,uF]) | fail
theorem c_IndexFunc_Group {p:Bool} {pg:Bool} {xs:List Grp} {q:Grp → Bool} {fv:AV} (hq:∀ x ∈ xs,FV ctx.P fv [.agg (vJ pg x)] (.bool (q x))) :
 PC ctx.P 342 [.view p 5 (xs.map (vJ pg)),fv] (.int .i64 (yH q xs 0)):=by
 refine PC.lim (n:=xs.length) (x:=.view p 5 (xs.map (vJ pg))) (by simp) (.here (by simp)) ⟨_,Tryz.func342,by kernel_rfl,by kernel_rfl⟩ fun hlim => ?_
 refine PC.o okC Tryz.func342 rfl (.int _ _) fun h nx hnx => ?_
 try simp [-qt,-qd,-ql,rgs]
 repeat' first | done | (((with_reducible show zT _ _ _ _ _ _);refine zA rfl fun _ => ?_) <;> simp [-qt,-qd,-ql,rgs]) | fail
 refine zR [4,5,8,9,10,11,12,13,14,15,16,17,18] (xs.length) (fun (i:Nat) a=>[(8,.int .i64 i)]) (fun i_ a_ h_ _=>(fun i (_:Unit) _=>yH q (xs.drop i) i = yH q xs 0) i_ a_ h_) (()) (by simp) ?_ zO (Nat.le_refl _) ?_
 ·simp
 ·intro i a tm h' n' hle hJ hE hn' next hnx
  try dsimp only at hJ
  have hK:KeepB nx h' h:=KeepB.sub hE zG (by omega)
  simp [-qt,-qd,-ql]
  repeat' first | done | ((first | ((with_reducible show zK _ _ _ _ _ _ _);refine zH rfl omA omA ?_) | (refine zA1 (hq _ (vR (by omega) (by omega))) ?_)) <;> simp [-qt,-qd,-ql,rgs,vJ]) | ((with_reducible refine zC ?_ ?_) <;> intro qb <;> (have qp:=qb;try simp only [psq] at qp) <;> simp [-qt,-qd,-ql,rgs,vJ,qb])
  all_goals
   first
   | (have hlt:i < xs.length:=(by first | omega | (simp at *; omega))
      rw [zQ hlt] at hJ
      first
      | (refine hnx.go (()) ?_ ?_ ?_ ?_ ?_ ?_;omega;(simp [zI hlt hlim]);(simp);exact zG;(first | omega | (simp;omega));(try dsimp only);clear hnx;first | ((try simp only [List.drop_length,Int.toNat_natCast,yH] at hJ ⊢);grind) | (simp_all [yH];done) | (simp_all;omega))
      | (refine ⟨?_,zG⟩;clear hnx;first | ((try simp only [List.drop_length,Int.toNat_natCast,yH] at hJ ⊢);grind) | (simp_all [yH];done) | (simp_all;omega)))
   | (obtain rfl:i = xs.length:=(by first | omega | (simp at *; omega))
      refine ⟨?_,zG⟩;clear hnx;first | ((try simp only [List.drop_length,Int.toNat_natCast,yH] at hJ ⊢);grind) | (simp_all [yH];done) | (simp_all;omega))
theorem zP0 {p:Bool} {pg:Bool} {xs:List Grp} {q:Grp → Bool} {fv:AV} (hq:∀ x ∈ xs,FV ctx.P fv [.agg (vJ pg x)] (.bool (q x))) :
 PC ctx.P 249 [.view p 5 (xs.map (vJ pg)),fv] (.bool (xs.any q)):=by
 refine PC.o okC Tryz.func249 rfl (.bool _) fun h nx hnx => ?_
 try simp [-qt,-qd,-ql,rgs,vE q xs 0 (Int.le_refl 0)]
 repeat' first | done | (((with_reducible show zD _ _ _ 342 _ _);refine zB (c_IndexFunc_Group hq) ?_) <;> simp [-qt,-qd,-ql,rgs,vE q xs 0 (Int.le_refl 0)]) | fail
theorem c_allf_Group {pg:Bool} {x:Grp} {q:Grp → Bool} {fv:AV} (hq:FV ctx.P fv [.agg (vJ pg x)] (.bool (q x))):PC ctx.P 250 [.agg (vJ pg x),.vptr [fv]] (.bool (!q x)):=by
 refine PC.o okC Tryz.func250 rfl (.bool _) fun h nx hnx => ?_
 try simp [-qt,-qd,-ql,rgs]
 repeat' first | done | ((refine zA1 (hq) ?_) <;> simp [-qt,-qd,-ql,rgs]) | fail
theorem c_all_Group {p:Bool} {pg:Bool} {xs:List Grp} {q:Grp → Bool} {fv:AV} (hf:IsF fv) (hq:∀ x ∈ xs,FV ctx.P fv [.agg (vJ pg x)] (.bool (q x))) :
 PC ctx.P 117 [.view p 5 (xs.map (vJ pg)),fv] (.bool (xs.all q)):=by
 refine PC.o okC Tryz.func117 rfl (.bool _) fun h nx hnx => ?_
 have hc:=zP0 (p:=p) (q:=fun x => !q x) (xs:=xs) (fv:=.fn 250 [.vptr [fv]]) fun x hx=>c_allf_Group (hq x hx)
 cases hf
 all_goals simp
 ·refine yG (hc) (by exact .bool _) (by repeat' first | exact Bors.nil | refine Bors.cons ?_ ?_ | exact Bor.same _ | refine Bor.fn1 ?_ | refine Bor.ptr0 (by (simp;rfl)) ?_) ?_
  simp [resultsA,resA,List.all_eq_not_any_not]
 ·refine yG (hc) (by exact .bool _) (by repeat' first | exact Bors.nil | refine Bors.cons ?_ ?_ | exact Bor.same _ | refine Bor.fn1 ?_ | refine Bor.ptr0 (by (simp;rfl)) ?_) ?_
  simp [resultsA,resA,List.all_eq_not_any_not]
theorem c_IndexFunc_Sight {p:Bool} {xs:List Sgt} {q:Sgt → Bool} {fv:AV} (hq:∀ x ∈ xs,FV ctx.P fv [.agg (uU x)] (.bool (q x))) :
 PC ctx.P 343 [.view p 4 (xs.map uU),fv] (.int .i64 (yH q xs 0)):=by
 refine PC.lim (n:=xs.length) (x:=.view p 4 (xs.map uU)) (by simp) (.here (by simp)) ⟨_,Tryz.func343,by kernel_rfl,by kernel_rfl⟩ fun hlim => ?_
 refine PC.o okC Tryz.func343 rfl (.int _ _) fun h nx hnx => ?_
 try simp [-qt,-qd,-ql,rgs]
 repeat' first | done | (((with_reducible show zT _ _ _ _ _ _);refine zA rfl fun _ => ?_) <;> simp [-qt,-qd,-ql,rgs]) | fail
 refine zR [4,5,8,9,10,11,12,13,14,15,16,17,18] (xs.length) (fun (i:Nat) a=>[(8,.int .i64 i)]) (fun i_ a_ h_ _=>(fun i (_:Unit) _=>yH q (xs.drop i) i = yH q xs 0) i_ a_ h_) (()) (by simp) ?_ zO (Nat.le_refl _) ?_
 ·simp
 ·intro i a tm h' n' hle hJ hE hn' next hnx
  try dsimp only at hJ
  have hK:KeepB nx h' h:=KeepB.sub hE zG (by omega)
  simp [-qt,-qd,-ql]
  repeat' first | done | ((first | ((with_reducible show zK _ _ _ _ _ _ _);refine zH rfl omA omA ?_) | (refine zA1 (hq _ (vR (by omega) (by omega))) ?_)) <;> simp [-qt,-qd,-ql,rgs,uU]) | ((with_reducible refine zC ?_ ?_) <;> intro qb <;> (have qp:=qb;try simp only [psq] at qp) <;> simp [-qt,-qd,-ql,rgs,uU,qb])
  all_goals
   first
   | (have hlt:i < xs.length:=(by first | omega | (simp at *; omega))
      rw [zQ hlt] at hJ
      first
      | (refine hnx.go (()) ?_ ?_ ?_ ?_ ?_ ?_;omega;(simp [zI hlt hlim]);(simp);exact zG;(first | omega | (simp;omega));(try dsimp only);clear hnx;first | ((try simp only [List.drop_length,Int.toNat_natCast,yH] at hJ ⊢);grind) | (simp_all [yH];done) | (simp_all;omega))
      | (refine ⟨?_,zG⟩;clear hnx;first | ((try simp only [List.drop_length,Int.toNat_natCast,yH] at hJ ⊢);grind) | (simp_all [yH];done) | (simp_all;omega)))
   | (obtain rfl:i = xs.length:=(by first | omega | (simp at *; omega))
      refine ⟨?_,zG⟩;clear hnx;first | ((try simp only [List.drop_length,Int.toNat_natCast,yH] at hJ ⊢);grind) | (simp_all [yH];done) | (simp_all;omega))
theorem zO6 {p:Bool} {xs:List Sgt} {q:Sgt → Bool} {fv:AV} (hq:∀ x ∈ xs,FV ctx.P fv [.agg (uU x)] (.bool (q x))) :
 PC ctx.P 253 [.view p 4 (xs.map uU),fv] (.bool (xs.any q)):=by
 refine PC.o okC Tryz.func253 rfl (.bool _) fun h nx hnx => ?_
 try simp [-qt,-qd,-ql,rgs,vE q xs 0 (Int.le_refl 0)]
 repeat' first | done | (((with_reducible show zD _ _ _ 343 _ _);refine zB (c_IndexFunc_Sight hq) ?_) <;> simp [-qt,-qd,-ql,rgs,vE q xs 0 (Int.le_refl 0)]) | fail
theorem c_allf_Sight {x:Sgt} {q:Sgt → Bool} {fv:AV} (hq:FV ctx.P fv [.agg (uU x)] (.bool (q x))):PC ctx.P 254 [.agg (uU x),.vptr [fv]] (.bool (!q x)):=by
 refine PC.o okC Tryz.func254 rfl (.bool _) fun h nx hnx => ?_
 try simp [-qt,-qd,-ql,rgs]
 repeat' first | done | ((refine zA1 (hq) ?_) <;> simp [-qt,-qd,-ql,rgs]) | fail
theorem c_all_Sight {p:Bool} {xs:List Sgt} {q:Sgt → Bool} {fv:AV} (hf:IsF fv) (hq:∀ x ∈ xs,FV ctx.P fv [.agg (uU x)] (.bool (q x))) :
 PC ctx.P 119 [.view p 4 (xs.map uU),fv] (.bool (xs.all q)):=by
 refine PC.o okC Tryz.func119 rfl (.bool _) fun h nx hnx => ?_
 have hc:=zO6 (p:=p) (q:=fun x => !q x) (xs:=xs) (fv:=.fn 254 [.vptr [fv]]) fun x hx=>c_allf_Sight (hq x hx)
 cases hf
 all_goals simp
 ·refine yG (hc) (by exact .bool _) (by repeat' first | exact Bors.nil | refine Bors.cons ?_ ?_ | exact Bor.same _ | refine Bor.fn1 ?_ | refine Bor.ptr0 (by (simp;rfl)) ?_) ?_
  simp [resultsA,resA,List.all_eq_not_any_not]
 ·refine yG (hc) (by exact .bool _) (by repeat' first | exact Bors.nil | refine Bors.cons ?_ ?_ | exact Bor.same _ | refine Bor.fn1 ?_ | refine Bor.ptr0 (by (simp;rfl)) ?_) ?_
  simp [resultsA,resA,List.all_eq_not_any_not]
theorem c_size_int64 {p:Bool} {xs:List Int}:PC ctx.P 335 [.view p 1 (xs.map iv)] (.int .i64 xs.length):=by
 refine PC.o okC Tryz.func335 rfl (.int _ _) fun h nx hnx => ?_
 try simp [-qt,-qd,-ql,rgs]
 repeat' first | done | (((with_reducible show zT _ _ _ _ _ _);refine zA rfl fun _ => ?_) <;> simp [-qt,-qd,-ql,rgs]) | fail
theorem c_isIn_int64 {p:Bool} {n:Int} {xs:List Int}:PC ctx.P 337 [.int .i64 n,.view p 1 (xs.map iv)] (.bool (uF n xs)):=by
 refine PC.lim (n:=xs.length) (x:=.view p 1 (xs.map iv)) (by simp) (.here (by simp)) ⟨_,Tryz.func337,by kernel_rfl,by kernel_rfl⟩ fun hlim => ?_
 refine PC.o okC Tryz.func337 rfl (.bool _) fun h nx hnx => ?_
 try simp [-qt,-qd,-ql,rgs,yA hlim,uF]
 repeat' first | done | ((first | ((with_reducible show zD _ _ _ 335 _ _);refine zB (c_size_int64) ?_) | ((with_reducible show zD _ _ _ 106 _ _);refine zB (yY) ?_)) <;> simp [-qt,-qd,-ql,rgs,yA hlim,uF]) | fail
theorem zI7 {p:Bool} {xs:List Int} {q:Int → Bool} {fv:AV} (hq:∀ x ∈ xs,FV ctx.P fv [.int .i64 x] (.bool (q x))) :
 PC ctx.P 328 [.view p 1 (xs.map iv),fv] (.int .i64 (yH q xs 0)):=by
 refine PC.lim (n:=xs.length) (x:=.view p 1 (xs.map iv)) (by simp) (.here (by simp)) ⟨_,Tryz.func328,by kernel_rfl,by kernel_rfl⟩ fun hlim => ?_
 refine PC.o okC Tryz.func328 rfl (.int _ _) fun h nx hnx => ?_
 try simp [-qt,-qd,-ql,rgs]
 repeat' first | done | (((with_reducible show zT _ _ _ _ _ _);refine zA rfl fun _ => ?_) <;> simp [-qt,-qd,-ql,rgs]) | fail
 refine zR [4,5,8,9,10,11,12,13,14,15,16,17,18] (xs.length) (fun (i:Nat) a=>[(8,.int .i64 i)]) (fun i_ a_ h_ _=>(fun i (_:Unit) _=>yH q (xs.drop i) i = yH q xs 0) i_ a_ h_) (()) (by simp) ?_ zO (Nat.le_refl _) ?_
 ·simp
 ·intro i a tm h' n' hle hJ hE hn' next hnx
  try dsimp only at hJ
  have hK:KeepB nx h' h:=KeepB.sub hE zG (by omega)
  simp [-qt,-qd,-ql]
  repeat' first | done | ((first | ((with_reducible show zK _ _ _ _ _ _ _);refine zH rfl omA omA ?_) | (refine zA1 (hq _ (vR (by omega) (by omega))) ?_)) <;> simp [-qt,-qd,-ql,rgs,iv]) | ((with_reducible refine zC ?_ ?_) <;> intro qb <;> (have qp:=qb;try simp only [psq] at qp) <;> simp [-qt,-qd,-ql,rgs,iv,qb])
  all_goals
   first
   | (have hlt:i < xs.length:=(by first | omega | (simp at *; omega))
      rw [zQ hlt] at hJ
      first
      | (refine hnx.go (()) ?_ ?_ ?_ ?_ ?_ ?_;omega;(simp [zI hlt hlim]);(simp);exact zG;(first | omega | (simp;omega));(try dsimp only);clear hnx;first | ((try simp only [List.drop_length,Int.toNat_natCast,yH] at hJ ⊢);grind) | (simp_all [yH];done) | (simp_all;omega))
      | (refine ⟨?_,zG⟩;clear hnx;first | ((try simp only [List.drop_length,Int.toNat_natCast,yH] at hJ ⊢);grind) | (simp_all [yH];done) | (simp_all;omega)))
   | (obtain rfl:i = xs.length:=(by first | omega | (simp at *; omega))
      refine ⟨?_,zG⟩;clear hnx;first | ((try simp only [List.drop_length,Int.toNat_natCast,yH] at hJ ⊢);grind) | (simp_all [yH];done) | (simp_all;omega))
theorem uL {p:Bool} {xs:List Int} {q:Int → Bool} {fv:AV} (hq:∀ x ∈ xs,FV ctx.P fv [.int .i64 x] (.bool (q x))) :
 PC ctx.P 224 [.view p 1 (xs.map iv),fv] (.bool (xs.any q)):=by
 refine PC.o okC Tryz.func224 rfl (.bool _) fun h nx hnx => ?_
 try simp [-qt,-qd,-ql,rgs,vE q xs 0 (Int.le_refl 0)]
 repeat' first | done | (((with_reducible show zD _ _ _ 328 _ _);refine zB (zI7 hq) ?_) <;> simp [-qt,-qd,-ql,rgs,vE q xs 0 (Int.le_refl 0)]) | fail
theorem c_allf_int64 {x:Int} {q:Int → Bool} {fv:AV} (hq:FV ctx.P fv [.int .i64 x] (.bool (q x))):PC ctx.P 256 [.int .i64 x,.vptr [fv]] (.bool (!q x)):=by
 refine PC.o okC Tryz.func256 rfl (.bool _) fun h nx hnx => ?_
 try simp [-qt,-qd,-ql,rgs]
 repeat' first | done | ((refine zA1 (hq) ?_) <;> simp [-qt,-qd,-ql,rgs]) | fail
theorem c_all_int64 {p:Bool} {xs:List Int} {q:Int → Bool} {fv:AV} (hf:IsF fv) (hq:∀ x ∈ xs,FV ctx.P fv [.int .i64 x] (.bool (q x))) :
 PC ctx.P 121 [.view p 1 (xs.map iv),fv] (.bool (xs.all q)):=by
 refine PC.o okC Tryz.func121 rfl (.bool _) fun h nx hnx => ?_
 have hc:=uL (p:=p) (q:=fun x => !q x) (xs:=xs) (fv:=.fn 256 [.vptr [fv]]) fun x hx=>c_allf_int64 (hq x hx)
 cases hf
 all_goals simp
 ·refine yG (hc) (by exact .bool _) (by repeat' first | exact Bors.nil | refine Bors.cons ?_ ?_ | exact Bor.same _ | refine Bor.fn1 ?_ | refine Bor.ptr0 (by (simp;rfl)) ?_) ?_
  simp [resultsA,resA,List.all_eq_not_any_not]
 ·refine yG (hc) (by exact .bool _) (by repeat' first | exact Bors.nil | refine Bors.cons ?_ ?_ | exact Bor.same _ | refine Bor.fn1 ?_ | refine Bor.ptr0 (by (simp;rfl)) ?_) ?_
  simp [resultsA,resA,List.all_eq_not_any_not]
theorem c_size_Prog {p:Bool} {pg:Bool} {xs:List (List Inn)}:PC ctx.P 341 [.view p 1 (xs.map (zD7 pg))] (.int .i64 xs.length):=by
 refine PC.o okC Tryz.func341 rfl (.int _ _) fun h nx hnx => ?_
 try simp [-qt,-qd,-ql,rgs]
 repeat' first | done | (((with_reducible show zT _ _ _ _ _ _);refine zA rfl fun _ => ?_) <;> simp [-qt,-qd,-ql,rgs]) | fail
theorem c_isIn_Prog {p:Bool} {pg:Bool} {n:Int} {xs:List (List Inn)}:PC ctx.P 246 [.int .i64 n,.view p 1 (xs.map (zD7 pg))] (.bool (uF n xs)):=by
 refine PC.lim (n:=xs.length) (x:=.view p 1 (xs.map (zD7 pg))) (by simp) (.here (by simp)) ⟨_,Tryz.func246,by kernel_rfl,by kernel_rfl⟩ fun hlim => ?_
 refine PC.o okC Tryz.func246 rfl (.bool _) fun h nx hnx => ?_
 try simp [-qt,-qd,-ql,rgs,yA hlim,uF]
 repeat' first | done | ((first | ((with_reducible show zD _ _ _ 341 _ _);refine zB (c_size_Prog) ?_) | ((with_reducible show zD _ _ _ 106 _ _);refine zB (yY) ?_)) <;> simp [-qt,-qd,-ql,rgs,yA hlim,uF]) | fail
theorem c_IndexFunc_Prog {p:Bool} {pg:Bool} {xs:List (List Inn)} {q:(List Inn) → Bool} {fv:AV} (hq:∀ x ∈ xs,FV ctx.P fv [.view pg 3 (x.map vY)] (.bool (q x))) :
 PC ctx.P 324 [.view p 1 (xs.map (zD7 pg)),fv] (.int .i64 (yH q xs 0)):=by
 refine PC.lim (n:=xs.length) (x:=.view p 1 (xs.map (zD7 pg))) (by simp) (.here (by simp)) ⟨_,Tryz.func324,by kernel_rfl,by kernel_rfl⟩ fun hlim => ?_
 refine PC.o okC Tryz.func324 rfl (.int _ _) fun h nx hnx => ?_
 try simp [-qt,-qd,-ql,rgs]
 repeat' first | done | (((with_reducible show zT _ _ _ _ _ _);refine zA rfl fun _ => ?_) <;> simp [-qt,-qd,-ql,rgs]) | fail
 refine zR [4,5,8,9,10,11,12,13,14,15,16,17,18] (xs.length) (fun (i:Nat) a=>[(8,.int .i64 i)]) (fun i_ a_ h_ _=>(fun i (_:Unit) _=>yH q (xs.drop i) i = yH q xs 0) i_ a_ h_) (()) (by simp) ?_ zO (Nat.le_refl _) ?_
 ·simp
 ·intro i a tm h' n' hle hJ hE hn' next hnx
  try dsimp only at hJ
  have hK:KeepB nx h' h:=KeepB.sub hE zG (by omega)
  simp [-qt,-qd,-ql]
  repeat' first | done | ((first | ((with_reducible show zK _ _ _ _ _ _ _);refine zH rfl omA omA ?_) | (refine zA1 (hq _ (vR (by omega) (by omega))) ?_)) <;> simp [-qt,-qd,-ql,rgs,zD7]) | ((with_reducible refine zC ?_ ?_) <;> intro qb <;> (have qp:=qb;try simp only [psq] at qp) <;> simp [-qt,-qd,-ql,rgs,zD7,qb])
  all_goals
   first
   | (have hlt:i < xs.length:=(by first | omega | (simp at *; omega))
      rw [zQ hlt] at hJ
      first
      | (refine hnx.go (()) ?_ ?_ ?_ ?_ ?_ ?_;omega;(simp [zI hlt hlim]);(simp);exact zG;(first | omega | (simp;omega));(try dsimp only);clear hnx;first | ((try simp only [List.drop_length,Int.toNat_natCast,yH] at hJ ⊢);grind) | (simp_all [yH];done) | (simp_all;omega))
      | (refine ⟨?_,zG⟩;clear hnx;first | ((try simp only [List.drop_length,Int.toNat_natCast,yH] at hJ ⊢);grind) | (simp_all [yH];done) | (simp_all;omega)))
   | (obtain rfl:i = xs.length:=(by first | omega | (simp at *; omega))
      refine ⟨?_,zG⟩;clear hnx;first | ((try simp only [List.drop_length,Int.toNat_natCast,yH] at hJ ⊢);grind) | (simp_all [yH];done) | (simp_all;omega))
theorem zP8 {p:Bool} {pg:Bool} {xs:List (List Inn)} {q:(List Inn) → Bool} {fv:AV} (hq:∀ x ∈ xs,FV ctx.P fv [.view pg 3 (x.map vY)] (.bool (q x))) :
 PC ctx.P 217 [.view p 1 (xs.map (zD7 pg)),fv] (.bool (xs.any q)):=by
 refine PC.o okC Tryz.func217 rfl (.bool _) fun h nx hnx => ?_
 try simp [-qt,-qd,-ql,rgs,vE q xs 0 (Int.le_refl 0)]
 repeat' first | done | (((with_reducible show zD _ _ _ 324 _ _);refine zB (c_IndexFunc_Prog hq) ?_) <;> simp [-qt,-qd,-ql,rgs,vE q xs 0 (Int.le_refl 0)]) | fail
theorem c_allf_Prog {pg:Bool} {x:(List Inn)} {q:(List Inn) → Bool} {fv:AV} (hq:FV ctx.P fv [.view pg 3 (x.map vY)] (.bool (q x))):PC ctx.P 218 [.view pg 3 (x.map vY),.vptr [fv]] (.bool (!q x)):=by
 refine PC.o okC Tryz.func218 rfl (.bool _) fun h nx hnx => ?_
 try simp [-qt,-qd,-ql,rgs]
 repeat' first | done | ((refine zA1 (hq) ?_) <;> simp [-qt,-qd,-ql,rgs]) | fail
theorem c_all_Prog {p:Bool} {pg:Bool} {xs:List (List Inn)} {q:(List Inn) → Bool} {fv:AV} (hf:IsF fv) (hq:∀ x ∈ xs,FV ctx.P fv [.view pg 3 (x.map vY)] (.bool (q x))) :
 PC ctx.P 100 [.view p 1 (xs.map (zD7 pg)),fv] (.bool (xs.all q)):=by
 refine PC.o okC Tryz.func100 rfl (.bool _) fun h nx hnx => ?_
 have hc:=zP8 (p:=p) (q:=fun x => !q x) (xs:=xs) (fv:=.fn 218 [.vptr [fv]]) fun x hx=>c_allf_Prog (hq x hx)
 cases hf
 all_goals simp
 ·refine yG (hc) (by exact .bool _) (by repeat' first | exact Bors.nil | refine Bors.cons ?_ ?_ | exact Bor.same _ | refine Bor.fn1 ?_ | refine Bor.ptr0 (by (simp;rfl)) ?_) ?_
  simp [resultsA,resA,List.all_eq_not_any_not]
 ·refine yG (hc) (by exact .bool _) (by repeat' first | exact Bors.nil | refine Bors.cons ?_ ?_ | exact Bor.same _ | refine Bor.fn1 ?_ | refine Bor.ptr0 (by (simp;rfl)) ?_) ?_
  simp [resultsA,resA,List.all_eq_not_any_not]
end Go.AE.Tryz
end
section
/- Contracts of the program's readers: slots, times, heaps, timers. -/
set_option maxRecDepth 8000
set_option maxHeartbeats 2000000
namespace Go.AE.Tryz
open Go.Proofs
open List renaming map_take → qt,map_drop → qd,map_tail → ql
theorem c_SlotsOk1 {x:Int}:PC ctx.P 336 [.int .i64 x] (.bool (!inR x 0 1000000)):=by
 refine PC.o okC Tryz.func336 rfl (.bool _) fun h nx hnx => ?_
 try simp [-qt,-qd,-ql,rgs]
 repeat' first | done | (((with_reducible show zD _ _ _ 106 _ _);refine zB (yY) ?_) <;> simp [-qt,-qd,-ql,rgs]) | fail
theorem c_SlotsOk {F:Nat → Bool} {s:Slt}:PC ctx.P 234 [.agg (uD F s)] (.bool (zF0 s)):=by
 refine PC.o okC Tryz.func234 rfl (.bool _) fun h nx hnx => ?_
 try simp [-qt,-qd,-ql,rgs,uD,zF0]
 repeat' first | done | ((first | ((with_reducible show zT _ _ _ _ _ _);refine zA rfl fun _ => ?_) | ((with_reducible show zD _ _ _ 335 _ _);refine zB (c_size_int64) ?_) | ((with_reducible show zD _ _ _ 106 _ _);refine zB (yY) ?_) | ((with_reducible show zD _ _ _ 224 _ _);refine zB (uL (q:=fun a => !inR a 0 1000000) (fun x _=>c_SlotsOk1)) ?_)) <;> simp [-qt,-qd,-ql,rgs,uD,zF0]) | ((with_reducible refine zL ?_ ?_) <;> intro qb <;> (have qp:=qb;try simp only [psq] at qp) <;> simp [-qt,-qd,-ql,rgs,uD,zF0,qb])
theorem c_used {F:Nat → Bool} {s:Slt}:PC ctx.P 236 [.agg (uD F s)] (.int .i64 (cntB id s.used)):=by
 refine PC.lim (n:=s.used.length) (x:=.agg (uD F s)) (by simp) (.agg (x:=.view (F 9) 1 (s.used.map bv)) (by simp [uD]) (.here (by simp))) ⟨_,Tryz.func236,by kernel_rfl,by kernel_rfl⟩ fun hlim => ?_
 refine PC.o okC Tryz.func236 rfl (.int _ _) fun h nx hnx => ?_
 try simp [-qt,-qd,-ql,rgs,uD]
 repeat' first | done | (((with_reducible show zT _ _ _ _ _ _);refine zA rfl fun _ => ?_) <;> simp [-qt,-qd,-ql,rgs,uD]) | fail
 refine zR [3,5,9,10,11,12,13,14,15,16] (s.used.length) (fun (i:Nat) a=>[(9,.int .i64 i),(3,.int .i64 a)]) (fun i_ a_ h_ _=>(fun i (a:Int) _=>a + cntB id (s.used.drop i) = cntB id s.used ∧ 0 ≤ a ∧ a ≤ i) i_ a_ h_) (0) (by simp) ?_ zO (Nat.le_refl _) ?_
 ·simp
 ·intro i a tm h' n' hle hJ hE hn' next hnx
  try dsimp only at hJ
  have hK:KeepB nx h' h:=KeepB.sub hE zG (by omega)
  simp [-qt,-qd,-ql]
  repeat' first | done | (((with_reducible show zK _ _ _ _ _ _ _);refine zH rfl omA omA ?_) <;> simp [-qt,-qd,-ql,rgs,bv]) | ((with_reducible refine zC ?_ ?_) <;> intro qb <;> (have qp:=qb;try simp only [psq] at qp) <;> simp [-qt,-qd,-ql,rgs,bv,qb])
  ·rw [zQ (by omega)] at hJ
   refine hnx.go (a + 1) (by omega) (by simp [zI (i:=i) (n:=s.used.length) (by omega) hlim,zE (x:=a + 1) (by simp only [LIM] at hlim;omega)]) (by simp) zG (by first | omega | (simp;omega)) ?_
   try dsimp only
   simp [cntB,qb] at hJ ⊢
   omega
  ·rw [zQ (by omega)] at hJ
   refine hnx.go (a) (by omega) (by simp [zI (i:=i) (n:=s.used.length) (by omega) hlim]) (by simp) zG (by first | omega | (simp;omega)) ?_
   try dsimp only
   simp [cntB,qb] at hJ ⊢
   omega
  ·refine ⟨?_,by simp [hK]⟩
   rw [List.drop_eq_nil_of_le (by omega)] at hJ
   simp [cntB] at hJ ⊢
   omega
theorem c_holds {F:Nat → Bool} {s:Slt} {x:Han} (hl:s.used.length = s.ages.length):PC ctx.P 238 [.agg (uD F s),.agg (zG0 x)] (.bool (zA4 s x)):=by
 refine PC.o okC Tryz.func238 rfl (.bool _) fun h nx hnx => ?_
 try simp [-qt,-qd,-ql,rgs,uD,zG0,iv,bv,zA4]
 repeat' first | done | ((first | ((with_reducible show zK _ _ _ _ _ _ _);refine zH rfl omA omA ?_) | ((with_reducible show zD _ _ _ 337 _ _);refine zB (c_isIn_int64) ?_) | (with_reducible refine zP (i:=1) [(0,[],[]),(1,[],[]),(2,[],[]),(3,[],[]),(4,[],[]),(5,[],[]),(6,[],[]),(7,[],[]),(8,[],[]),(9,[],[]),(10,[],[]),(11,[],[]),(12,[],[]),(13,[],[]),(14,[],[]),(15,[],[]),(16,[],[]),(17,[],[]),(18,[],[]),(19,[],[]),(20,[],[]),(21,[],[]),(22,[],[]),(23,[],[]),(24,[],[])] (by kernel_rfl) ?_)) <;> simp [-qt,-qd,-ql,rgs,uD,zG0,iv,bv,zA4]) | ((with_reducible refine yQ ?_ ?_) <;> intro qb <;> (have qp:=qb;try simp only [psq] at qp) <;> simp [-qt,-qd,-ql,rgs,uD,zG0,iv,bv,zA4,qb])
theorem c_IsDue {a b:Int}:PC ctx.P 135 [.int .i64 a,.int .i64 b] (.bool (isDue a b)):=by
 refine PC.o okC Tryz.func135 rfl (.bool _) fun h nx hnx => ?_
 try simp [-qt,-qd,-ql,rgs,isDue,never]
 repeat' first | done | ((with_reducible refine zL ?_ ?_) <;> intro qb <;> (have qp:=qb;try simp only [psq] at qp) <;> simp [-qt,-qd,-ql,rgs,isDue,never,qb])
theorem c_isNaN {a:Int}:PC ctx.P 411 [.int .i64 a] (.bool false):=by
 refine PC.o okC Tryz.func411 rfl (.bool _) fun h nx hnx => ?_
 try simp [-qt,-qd,-ql,rgs]
theorem c_Compare {a b:Int}:PC ctx.P 395 [.int .i64 a,.int .i64 b] (.int .i64 (cmp2 a b)):=by
 refine PC.o okC Tryz.func395 rfl (.int _ _) fun h nx hnx => ?_
 try simp [-qt,-qd,-ql,rgs,cmp2]
 repeat' first | done | (((with_reducible show zD _ _ _ 411 _ _);refine zB (c_isNaN) ?_) <;> simp [-qt,-qd,-ql,rgs,cmp2]) | ((with_reducible refine zC ?_ ?_) <;> intro qb <;> (have qp:=qb;try simp only [psq] at qp) <;> simp [-qt,-qd,-ql,rgs,cmp2,qb])
 all_goals omega
theorem c_Or {p:Bool} {xs:List Int}:PC ctx.P 394 [.view p 1 (xs.map iv)] (.int .i64 (orI xs)):=by
 refine PC.lim (n:=xs.length) (x:=.view p 1 (xs.map iv)) (by simp) (.here (by simp)) ⟨_,Tryz.func394,by kernel_rfl,by kernel_rfl⟩ fun hlim => ?_
 refine PC.o okC Tryz.func394 rfl (.int _ _) fun h nx hnx => ?_
 try simp [-qt,-qd,-ql,rgs]
 repeat' first | done | (((with_reducible show zT _ _ _ _ _ _);refine zA rfl fun _ => ?_) <;> simp [-qt,-qd,-ql,rgs]) | fail
 refine zR [2,5,8,9,10,11,12,13,14,15,16] (xs.length) (fun (i:Nat) a=>[(8,.int .i64 i)]) (fun i_ a_ h_ _=>(fun i (_:Unit) _=>orI (xs.drop i) = orI xs) i_ a_ h_) (()) (by simp) ?_ zO (Nat.le_refl _) ?_
 ·simp
 ·intro i a tm h' n' hle hJ hE hn' next hnx
  try dsimp only at hJ
  have hK:KeepB nx h' h:=KeepB.sub hE zG (by omega)
  simp [-qt,-qd,-ql]
  repeat' first | done | (((with_reducible show zK _ _ _ _ _ _ _);refine zH rfl omA omA ?_) <;> simp [-qt,-qd,-ql,rgs,iv]) | ((with_reducible refine zC ?_ ?_) <;> intro qb <;> (have qp:=qb;try simp only [psq] at qp) <;> simp [-qt,-qd,-ql,rgs,iv,qb])
  all_goals
   first
   | (have hlt:i < xs.length:=(by first | omega | (simp at *; omega))
      rw [zQ hlt] at hJ
      first
      | (refine hnx.go (()) ?_ ?_ ?_ ?_ ?_ ?_;omega;(simp [zI hlt hlim]);(simp);exact zG;(first | omega | (simp;omega));(try dsimp only);clear hnx;first | ((try simp only [List.drop_length,Int.toNat_natCast,orI] at hJ ⊢);grind) | (simp_all [orI];done) | (simp_all;omega))
      | (refine ⟨?_,zG⟩;clear hnx;first | ((try simp only [List.drop_length,Int.toNat_natCast,orI] at hJ ⊢);grind) | (simp_all [orI];done) | (simp_all;omega)))
   | (obtain rfl:i = xs.length:=(by first | omega | (simp at *; omega))
      refine ⟨?_,zG⟩;clear hnx;first | ((try simp only [List.drop_length,Int.toNat_natCast,orI] at hJ ⊢);grind) | (simp_all [orI];done) | (simp_all;omega))
end Go.AE.Tryz
end
section
/- Contracts of the program's readers: heaps, timers, trees. -/
set_option maxRecDepth 8000
set_option maxHeartbeats 2000000
namespace Go.AE.Tryz
open Go.Proofs
open List renaming map_take → qt,map_drop → qd,map_tail → ql
theorem c_compare {a b:Twg}:PC ctx.P 348 [.agg (zZ a),.agg (zZ b)] (.int .i64 (uX a b)):=by
 refine PC.o okC Tryz.func348 rfl (.int _ _) fun h nx hnx => ?_
 try simp [-qt,-qd,-ql,rgs,zZ]
 repeat' first | done | ((first | ((with_reducible show zD _ _ _ 395 _ _);refine zB (c_Compare) ?_) | ((with_reducible show zD _ _ _ 394 _ _);refine yG (c_Or (p:=false) (xs:=[cmp2 a.due b.due,cmp2 a.seq b.seq])) (by exact .int _ _) (by repeat' first | exact Bors.nil | refine Bors.cons ?_ ?_ | refine Bor.ref0 (by (simp [iv,bv];done)) (by simp) (by simp)) ?_) | (with_reducible refine zP (i:=1) [(0,[],[]),(1,[],[]),(2,[],[]),(3,[],[]),(5,[],[]),(6,[],[]),(7,[],[]),(8,[],[]),(4,[.tmp 10,.tmp 12],[]),(9,[],[]),(10,[],[]),(11,[],[]),(12,[],[])] (by kernel_rfl) ?_)) <;> simp [-qt,-qd,-ql,rgs,zZ]) | fail
 all_goals (try clear hnx)
 all_goals (simp_all [uX];done)
theorem zK4 {p:Bool} {l:List Twg} (hp:0 < l.length) (h0:0 ≤ (gt l 0).lefts) (h1:(gt l 0).lefts < l.length) :
 PC ctx.P 349 [.view p 3 (l.map zZ)] (.tup [.view p 3 ((l.tail.take (gt l 0).lefts.toNat).map zZ),.view p 3 ((l.drop ((gt l 0).lefts.toNat + 1)).map zZ)]):=by
 refine PC.lim (n:=l.length) (x:=.view p 3 (l.map zZ)) (by simp) (.here (by simp)) ⟨_,Tryz.func349,by kernel_rfl,by kernel_rfl⟩ fun hlim => ?_
 simp only [LIM] at hlim
 have q1:(1 + (gt l 0).lefts).toNat = (gt l 0).lefts.toNat + 1:=by omega
 refine PC.o okC Tryz.func349 rfl (.tup _ (by simp [-List.map_take,-List.map_drop];exact ⟨.vmap yJ,.vmap yJ⟩)) fun h nx hnx => ?_
 try simp [-qt,-qd,-ql,rgs,zZ,zE (x:=1 + (gt l 0).lefts) (by omega),q1]
 repeat' first | done | ((first | ((with_reducible show zK _ _ _ _ _ _ _);refine zH rfl omA omA ?_) | ((with_reducible show zG9 _ _ _ _ _ _ _ _ _ _ _);refine sliceI_from rfl omA omA ?_) | ((with_reducible show zG9 _ _ _ _ _ _ _ _ _ _ _);refine sliceI_mid rfl omA omA omA ?_) | (with_reducible refine zP (i:=2) [(0,[],[]),(1,[],[]),(2,[],[]),(3,[],[]),(4,[],[]),(5,[],[]),(6,[],[]),(7,[],[])] (by kernel_rfl) ?_)) <;> simp [-qt,-qd,-ql,rgs,zZ,zE (x:=1 + (gt l 0).lefts) (by omega),q1]) | fail
theorem c_seqAt1 {x:Twg} {s:Int}:PC ctx.P 391 [.agg (zZ x),.vptr [.int .i64 s]] (.bool (x.seq == s)):=by
 refine PC.o okC Tryz.func391 rfl (.bool _) fun h nx hnx => ?_
 try simp [-qt,-qd,-ql,rgs,zZ]
theorem c_seqAt {p:Bool} {h:List Twg} {s:Int}:PC ctx.P 330 [.view p 3 (h.map zZ),.int .i64 s] (.int .i64 (zH3 h s)):=by
 refine PC.o okC Tryz.func330 rfl (.int _ _) fun h nx hnx => ?_
 try simp [-qt,-qd,-ql,rgs,zH3]
 repeat' first | done | (((with_reducible show zD _ _ _ 332 _ _);refine yG (zL1 (q:=fun x=>x.seq == s) (fv:=.fn 391 [.vptr [.int .i64 s]]) (fun x _=>c_seqAt1)) (by exact .int _ _) (by repeat' first | exact Bors.nil | refine Bors.cons ?_ ?_ | exact Bor.same _ | refine Bor.fn1 ?_ | refine Bor.ptr0 (by (simp;rfl)) ?_) ?_) <;> simp [-qt,-qd,-ql,rgs,zH3]) | fail
theorem c_tmsAt1 {x:Tmr} {s:Int}:PC ctx.P 334 [.agg (yN x),.vptr [.int .i64 s]] (.bool (x.seq == s)):=by
 refine PC.o okC Tryz.func334 rfl (.bool _) fun h nx hnx => ?_
 try simp [-qt,-qd,-ql,rgs,yN]
theorem c_tmsAt {F:Nat → Bool} {t:Tms} {s:Int}:PC ctx.P 231 [.agg (vM F t),.int .i64 s] (.int .i64 (yE t.list s)):=by
 refine PC.o okC Tryz.func231 rfl (.int _ _) fun h nx hnx => ?_
 try simp [-qt,-qd,-ql,rgs,vM,yE]
 repeat' first | done | (((with_reducible show zD _ _ _ 333 _ _);refine yG (zI9 (q:=fun x=>x.seq == s) (fv:=.fn 334 [.vptr [.int .i64 s]]) (fun x _=>c_tmsAt1)) (by exact .int _ _) (by repeat' first | exact Bors.nil | refine Bors.cons ?_ ?_ | exact Bor.same _ | refine Bor.fn1 ?_ | refine Bor.ptr0 (by (simp;rfl)) ?_) ?_) <;> simp [-qt,-qd,-ql,rgs,vM,yE]) | fail
theorem c_TimersOk1 {F:Nat → Bool} {t:Tms} {x:Twg}:PC ctx.P 230 [.agg (zZ x),.vptr (vM F t)] (.bool (decide (yE t.list x.seq < 0) || (!(gt t.list (yE t.list x.seq)).armed || (gt t.list (yE t.list x.seq)).due != x.due))):=by
 have hat:=zB2 t.list x.seq
 refine PC.o okC Tryz.func230 rfl (.bool _) fun h nx hnx => ?_
 try simp [-qt,-qd,-ql,rgs,zZ,vM,yN]
 repeat' first | done | ((first | ((with_reducible show zK _ _ _ _ _ _ _);refine zH rfl omA omA ?_) | ((with_reducible show zD _ _ _ 231 _ _);refine zB (c_tmsAt (F:=F) (t:=t)) ?_) | (with_reducible refine zP (i:=2) [(0,[],[]),(1,[],[]),(2,[],[]),(3,[],[]),(4,[],[]),(5,[],[]),(6,[],[]),(7,[],[]),(8,[],[]),(9,[],[]),(10,[],[]),(11,[],[]),(12,[],[]),(13,[],[]),(14,[],[]),(15,[],[]),(16,[],[]),(17,[],[]),(18,[],[]),(19,[],[]),(20,[],[]),(21,[],[]),(22,[],[])] (by kernel_rfl) ?_)) <;> simp [-qt,-qd,-ql,rgs,zZ,vM,yN]) | ((with_reducible refine yQ ?_ ?_) <;> intro qb <;> (have qp:=qb;try simp only [psq] at qp) <;> simp [-qt,-qd,-ql,rgs,zZ,vM,yN,qb])
theorem c_rank {p:Bool} {h0:List Twg} {r:Nat} (hr:rk h0 = some r):PC ctx.P 393 [.view p 3 (h0.map zZ)] (.int .i64 r):=by
 refine PC.lim (n:=h0.length) (x:=.view p 3 (h0.map zZ)) (by simp) (.here (by simp)) ⟨_,Tryz.func393,by kernel_rfl,by kernel_rfl⟩ fun hlim => ?_
 have hrl:=rk_le hr
 simp only [LIM] at hlim
 refine PC.o okC Tryz.func393 rfl (.int _ _) fun h nx hnx => ?_
 try simp [-qt,-qd,-ql,rgs]
 refine go_dnP [0,3,4,5,6,7,8,9,10,11,12,13] (fun a=>[(0,.view p 3 (a.1.map zZ)),(3,.int .i64 a.2)]) (fun a=>a.1.length) (fun a_ h_ _=>(fun (a:List Twg × Int) _ => ∃ k:Nat,rk a.1 = some k ∧ a.2 + k = r ∧ 0 ≤ a.2) a_ h_) ((h0,0)) (by simp) ?_ zO (Nat.le_refl _) ?_
 ·exact ⟨r,hr,by simp,by simp⟩
 ·intro a tm h' n' hJ hE hn' next hnx
  try dsimp only at hJ
  have hK:KeepB nx h' h:=KeepB.sub hE zG (by omega)
  obtain ⟨l,n⟩:=a
  obtain ⟨k,hk,hn,h0⟩:=hJ
  dsimp only at hk hn h0 ⊢
  rcases rk_cases hk with ⟨rfl,rfl⟩ | ⟨hp,hx0,hx1,b,hb,rfl⟩
  ·try simp [-qt,-qd,-ql,rgs]
   repeat' first | done | (((with_reducible show zT _ _ _ _ _ _);refine zA rfl fun _ => ?_) <;> simp [-qt,-qd,-ql,rgs]) | fail
   all_goals (first | exact ⟨by simpa using hn,hK⟩ | (simp at *; omega))
  ·simp at hn h0
   try simp [-qt,-qd,-ql,rgs]
   repeat' first | done | ((first | ((with_reducible show zT _ _ _ _ _ _);refine zA rfl fun _ => ?_) | ((with_reducible show zD _ _ _ 349 _ _);refine zB (zK4 hp hx0 hx1) ?_)) <;> simp [-qt,-qd,-ql,rgs]) | ((with_reducible refine zC ?_ ?_) <;> intro qb <;> (have qp:=qb;try simp only [psq] at qp) <;> simp [-qt,-qd,-ql,rgs,qb])
   ·refine hnx.go (l.drop ((gt l 0).lefts.toNat + 1),n + 1) (by simp;omega) (by simp [zE (x:=n + 1) (by omega)]) (by simp) zG (by first | omega | (simp;omega)) ⟨b,hb,by simp;omega,by simp;omega⟩
   ·omega
theorem c_isHeapN {p:Bool}:∀ (n:Nat) (l:List Twg),l.length ≤ n → PC ctx.P 331 [.view p 3 (l.map zZ)] (.bool (rk l).isSome):=by
 intro n
 induction n with
 | zero =>
   intro l hl
   obtain rfl:l = []:=by simpa using hl
   refine PC.o okC Tryz.func331 rfl (.bool _) fun h nx hnx => ?_
   try simp [-qt,-qd,-ql,rgs,rk_nil]
   repeat' first | done | (((with_reducible show zT _ _ _ _ _ _);refine zA rfl fun _ => ?_) <;> simp [-qt,-qd,-ql,rgs,rk_nil]) | fail
 | succ n ih =>
   intro l hl
   refine PC.lim (n:=l.length) (x:=.view p 3 (l.map zZ)) (by simp) (.here (by simp)) ⟨_,Tryz.func331,by kernel_rfl,by kernel_rfl⟩ fun hlim => ?_
   simp only [LIM] at hlim
   by_cases hp:0 < l.length
   ·have i1:=ih (l.tail.take (gt l 0).lefts.toNat) (by simp;omega)
    have i2:=ih (l.drop ((gt l 0).lefts.toNat + 1)) (by simp;omega)
    rw [rk_tail hp]
    cases ha:rk (l.tail.take (gt l 0).lefts.toNat) with
    | none =>
      rw [ha] at i1
      refine PC.o okC Tryz.func331 rfl (.bool _) fun h nx hnx => ?_
      try simp [-qt,-qd,-ql,rgs,zZ,zE (x:=(l.length:Int) - 1) (by omega)]
      repeat' first | done | ((first | ((with_reducible show zT _ _ _ _ _ _);refine zA rfl fun _ => ?_) | ((with_reducible show zK _ _ _ _ _ _ _);refine zH rfl omA omA ?_) | ((with_reducible show zD _ _ _ 392 _ _);refine zB (zG7) ?_) | ((with_reducible show zD _ _ _ 106 _ _);refine zB (yY) ?_) | ((with_reducible show zD _ _ _ 349 _ _);refine zB (zK4 hp (by omega) (by omega)) ?_) | (refine zB (i1) ?_) | (with_reducible refine zP (i:=3) [(0,[],[]),(1,[],[]),(2,[],[]),(3,[],[]),(4,[],[]),(5,[.tmp 10],[]),(6,[],[]),(7,[],[]),(8,[],[])] (by kernel_rfl) ?_)) <;> simp [-qt,-qd,-ql,rgs,zZ,zE (x:=(l.length:Int) - 1) (by omega)]) | ((with_reducible refine zC ?_ ?_) <;> intro qb <;> (have qp:=qb;try simp only [psq] at qp) <;> simp [-qt,-qd,-ql,rgs,zZ,zE (x:=(l.length:Int) - 1) (by omega),qb])
      all_goals (clear ih i1 i2 hnx;simp_all)
    | some a =>
      rw [ha] at i1
      cases hb:rk (l.drop ((gt l 0).lefts.toNat + 1)) with
      | none =>
        rw [hb] at i2
        refine PC.o okC Tryz.func331 rfl (.bool _) fun h nx hnx => ?_
        try simp [-qt,-qd,-ql,rgs,zZ,zE (x:=(l.length:Int) - 1) (by omega)]
        repeat' first | done | ((first | ((with_reducible show zT _ _ _ _ _ _);refine zA rfl fun _ => ?_) | ((with_reducible show zK _ _ _ _ _ _ _);refine zH rfl omA omA ?_) | ((with_reducible show zD _ _ _ 392 _ _);refine zB (zG7) ?_) | ((with_reducible show zD _ _ _ 106 _ _);refine zB (yY) ?_) | ((with_reducible show zD _ _ _ 349 _ _);refine zB (zK4 hp (by omega) (by omega)) ?_) | (refine zB (i1) ?_) | (refine zB (i2) ?_) | (with_reducible refine zP (i:=3) [(0,[],[]),(1,[],[]),(2,[],[]),(3,[],[]),(4,[],[]),(5,[.tmp 10],[]),(6,[],[]),(7,[],[]),(8,[],[])] (by kernel_rfl) ?_)) <;> simp [-qt,-qd,-ql,rgs,zZ,zE (x:=(l.length:Int) - 1) (by omega)]) | ((with_reducible refine zC ?_ ?_) <;> intro qb <;> (have qp:=qb;try simp only [psq] at qp) <;> simp [-qt,-qd,-ql,rgs,zZ,zE (x:=(l.length:Int) - 1) (by omega),qb])
        all_goals (clear ih i1 i2 hnx;simp_all)
      | some b =>
        rw [hb] at i2
        simp only [head_all]
        refine PC.o okC Tryz.func331 rfl (.bool _) fun h nx hnx => ?_
        try simp [-qt,-qd,-ql,rgs,zZ,zE (x:=(l.length:Int) - 1) (by omega)]
        repeat' first | done | ((first | ((with_reducible show zT _ _ _ _ _ _);refine zA rfl fun _ => ?_) | ((with_reducible show zK _ _ _ _ _ _ _);refine zH rfl omA omA ?_) | ((with_reducible show zD _ _ _ 392 _ _);refine zB (zG7) ?_) | ((with_reducible show zD _ _ _ 106 _ _);refine zB (yY) ?_) | ((with_reducible show zD _ _ _ 349 _ _);refine zB (zK4 hp (by omega) (by omega)) ?_) | (refine zB (i1) ?_) | (refine zB (i2) ?_) | ((with_reducible show zD _ _ _ 393 _ _);refine zB (c_rank ha) ?_) | ((with_reducible show zD _ _ _ 393 _ _);refine zB (c_rank hb) ?_) | ((with_reducible show zD _ _ _ 348 _ _);refine zB (c_compare (a:=gt l 0)) ?_) | (with_reducible refine zP (i:=3) [(0,[],[]),(1,[],[]),(2,[],[]),(3,[],[]),(4,[],[]),(5,[.tmp 10],[]),(6,[],[]),(7,[],[]),(8,[],[])] (by kernel_rfl) ?_) | (with_reducible refine zP (i:=8) [(0,[],[]),(1,[],[]),(2,[],[]),(3,[],[]),(4,[],[]),(5,[],[]),(6,[],[]),(7,[],[]),(8,[],[]),(9,[],[]),(10,[],[]),(11,[],[]),(12,[],[]),(13,[],[]),(14,[],[]),(15,[],[]),(16,[],[]),(17,[],[]),(18,[],[]),(19,[],[]),(20,[],[]),(21,[],[]),(22,[],[]),(23,[],[]),(24,[],[]),(25,[],[]),(26,[],[]),(27,[],[]),(28,[],[])] (by kernel_rfl) ?_)) <;> simp [-qt,-qd,-ql,rgs,zZ,zE (x:=(l.length:Int) - 1) (by omega)]) | ((first | (with_reducible refine yQ ?_ ?_) | (with_reducible refine zC ?_ ?_)) <;> intro qb <;> (have qp:=qb;try simp only [psq] at qp) <;> simp [-qt,-qd,-ql,rgs,zZ,zE (x:=(l.length:Int) - 1) (by omega),qb])
        all_goals clear ih i1 i2 hnx
        all_goals first | (simp_all;done) | (simp_all;omega) | grind | trace_state
   ·obtain rfl:l = []:=by cases l <;> simp at hp ⊢
    refine PC.o okC Tryz.func331 rfl (.bool _) fun h nx hnx => ?_
    try simp [-qt,-qd,-ql,rgs,rk_nil]
    repeat' first | done | (((with_reducible show zT _ _ _ _ _ _);refine zA rfl fun _ => ?_) <;> simp [-qt,-qd,-ql,rgs,rk_nil]) | fail
theorem c_isHeap {p:Bool} {l:List Twg}:PC ctx.P 331 [.view p 3 (l.map zZ)] (.bool (rk l).isSome):=c_isHeapN _ _ (Nat.le_refl _)
theorem c_HeapOk {p:Bool} {l:List Twg}:PC ctx.P 228 [.view p 3 (l.map zZ)] (.bool (zF6 l)):=by
 refine PC.lim (n:=l.length) (x:=.view p 3 (l.map zZ)) (by simp) (.here (by simp)) ⟨_,Tryz.func228,by kernel_rfl,by kernel_rfl⟩ fun hlim => ?_
 refine PC.o okC Tryz.func228 rfl (.bool _) fun h nx hnx => ?_
 try simp [-qt,-qd,-ql,rgs]
 repeat' first | done | (((with_reducible show zT _ _ _ _ _ _);refine zA rfl fun _ => ?_) <;> simp [-qt,-qd,-ql,rgs]) | ((with_reducible refine zC ?_ ?_) <;> intro qb <;> (have qp:=qb;try simp only [psq] at qp) <;> simp [-qt,-qd,-ql,rgs,qb])
 ·all_goals (try clear hnx)
  all_goals (simp_all [zF6];omega)
 ·refine zR [2,3,4,10,11,12,13,14,15,16,17,18,19,20,21,22] (l.length) (fun (i:Nat) a=>[(10,.int .i64 i)]) (fun i_ a_ h_ _=>(fun i (_:Unit) _=>uA (fun i x => !(decide (0 ≤ zH3 (l.take i.toNat) x.seq))) (l.drop i) i = uA (fun i x => !(decide (0 ≤ zH3 (l.take i.toNat) x.seq))) l 0) i_ a_ h_) (()) (by simp) ?_ zO (Nat.le_refl _) ?_
  ·simp
  ·intro i a tm h' n' hle hJ hE hn' next hnx
   try dsimp only at hJ
   have hK:KeepB nx h' h:=KeepB.sub hE zG (by omega)
   simp [-qt,-qd,-ql]
   repeat' first | done | ((first | ((with_reducible show zK _ _ _ _ _ _ _);refine zH rfl omA omA ?_) | ((with_reducible show zG9 _ _ _ _ _ _ _ _ _ _ _);refine zS0 rfl omA omA ?_) | ((with_reducible show zD _ _ _ 330 _ _);refine zB (c_seqAt) ?_) | ((with_reducible show zD _ _ _ 331 _ _);refine zB (c_isHeap) ?_) | (with_reducible refine zP (i:=6) [(0,[],[]),(1,[],[]),(2,[],[]),(3,[],[]),(4,[],[]),(5,[],[]),(6,[],[])] (by kernel_rfl) ?_)) <;> simp [-qt,-qd,-ql,rgs,zZ]) | ((with_reducible refine zC ?_ ?_) <;> intro qb <;> (have qp:=qb;try simp only [psq] at qp) <;> simp [-qt,-qd,-ql,rgs,zZ,qb])
   all_goals
    first
    | (have hlt:i < l.length:=(by first | omega | (simp at *; omega))
       rw [zQ hlt] at hJ
       first
       | (refine hnx.go (()) ?_ ?_ ?_ ?_ ?_ ?_;omega;(simp [zI hlt hlim]);(simp);exact zG;(first | omega | (simp;omega));(try dsimp only);clear hnx;first | ((try simp only [List.drop_length,Int.toNat_natCast,uA,zF6] at hJ ⊢);grind) | (simp_all [uA,zF6];done) | (simp_all;omega))
       | (refine ⟨?_,zG⟩;clear hnx;first | ((try simp only [List.drop_length,Int.toNat_natCast,uA,zF6] at hJ ⊢);grind) | (simp_all [uA,zF6];done) | (simp_all;omega)))
    | (obtain rfl:i = l.length:=(by first | omega | (simp at *; omega))
       refine ⟨?_,zG⟩;clear hnx;first | ((try simp only [List.drop_length,Int.toNat_natCast,uA,zF6] at hJ ⊢);grind) | (simp_all [uA,zF6];done) | (simp_all;omega))
theorem c_isNode {n:Nod} {i:Int} (h0:0 ≤ i) (h1:i ≤ LIM):PC ctx.P 131 [.agg (yS n),.int .i64 i] (.bool (zK9 n i)):=by
 simp only [LIM] at h1
 refine PC.o okC Tryz.func131 rfl (.bool _) fun h nx hnx => ?_
 try simp [-qt,-qd,-ql,rgs,yS,zE (x:=i) (by omega),zE (x:=i - 1) (by omega)]
 repeat' first | done | (((with_reducible show zD _ _ _ 106 _ _);refine zB (yY) ?_) <;> simp [-qt,-qd,-ql,rgs,yS,zE (x:=i) (by omega),zE (x:=i - 1) (by omega)]) | ((first | (with_reducible refine zL ?_ ?_) | (with_reducible refine zC ?_ ?_)) <;> intro qb <;> (have qp:=qb;try simp only [psq] at qp) <;> simp [-qt,-qd,-ql,rgs,yS,zE (x:=i) (by omega),zE (x:=i - 1) (by omega),qb])
 all_goals (try clear hnx)
 all_goals (simp_all [zK9,never];done)
theorem c_TreeOk {p:Bool} {t:List Nod}:PC ctx.P 222 [.view p 5 (t.map yS)] (.bool (uJ t)):=by
 refine PC.lim (n:=t.length) (x:=.view p 5 (t.map yS)) (by simp) (.here (by simp)) ⟨_,Tryz.func222,by kernel_rfl,by kernel_rfl⟩ fun hlim => ?_
 refine PC.o okC Tryz.func222 rfl (.bool _) fun h nx hnx => ?_
 try simp [-qt,-qd,-ql,rgs]
 repeat' first | done | (((with_reducible show zT _ _ _ _ _ _);refine zA rfl fun _ => ?_) <;> simp [-qt,-qd,-ql,rgs]) | fail
 refine zR [2,3,4,7,8,9,10,11,12,13,14,15,16,17,18,19,20] (t.length) (fun (i:Nat) a=>[(7,.int .i64 i)]) (fun i_ a_ h_ _=>(fun i (_:Unit) _=>uA (fun i n=>i != 60 && zK9 n i) (t.drop i) i = uJ t) i_ a_ h_) (()) (by simp) ?_ zO (Nat.le_refl _) ?_
 ·simp [uJ]
 ·intro i a tm h' n' hle hJ hE hn' next hnx
  try dsimp only at hJ
  have hK:KeepB nx h' h:=KeepB.sub hE zG (by omega)
  simp [-qt,-qd,-ql]
  repeat' first | done | ((first | ((with_reducible show zK _ _ _ _ _ _ _);refine zH rfl omA omA ?_) | ((with_reducible show zD _ _ _ 131 _ _);refine zB (c_isNode (by omega) (by omega)) ?_)) <;> simp [-qt,-qd,-ql,rgs]) | ((first | (with_reducible refine zL ?_ ?_) | (with_reducible refine zC ?_ ?_)) <;> intro qb <;> (have qp:=qb;try simp only [psq] at qp) <;> simp [-qt,-qd,-ql,rgs,qb])
  all_goals
   first
   | (have hlt:i < t.length:=(by first | omega | (simp at *; omega))
      rw [zQ hlt] at hJ
      first
      | (refine hnx.go (()) ?_ ?_ ?_ ?_ ?_ ?_;omega;(simp [zI hlt hlim]);(simp);exact zG;(first | omega | (simp;omega));(try dsimp only);clear hnx;first | ((try simp only [List.drop_length,Int.toNat_natCast,uA] at hJ ⊢);grind) | (simp_all [uA];done) | (simp_all;omega))
      | (refine ⟨?_,zG⟩;clear hnx;first | ((try simp only [List.drop_length,Int.toNat_natCast,uA] at hJ ⊢);grind) | (simp_all [uA];done) | (simp_all;omega)))
   | (obtain rfl:i = t.length:=(by first | omega | (simp at *; omega))
      refine ⟨?_,zG⟩;clear hnx;first | ((try simp only [List.drop_length,Int.toNat_natCast,uA] at hJ ⊢);grind) | (simp_all [uA];done) | (simp_all;omega))
theorem c_Index {p:Bool} {xs:List Int} {n:Int}:PC ctx.P 352 [.view p 1 (xs.map iv),.int .i64 n] (.int .i64 (yH (fun x=>n == x) xs 0)):=by
 refine PC.lim (n:=xs.length) (x:=.view p 1 (xs.map iv)) (by simp) (.here (by simp)) ⟨_,Tryz.func352,by kernel_rfl,by kernel_rfl⟩ fun hlim => ?_
 refine PC.o okC Tryz.func352 rfl (.int _ _) fun h nx hnx => ?_
 try simp [-qt,-qd,-ql,rgs]
 repeat' first | done | (((with_reducible show zT _ _ _ _ _ _);refine zA rfl fun _ => ?_) <;> simp [-qt,-qd,-ql,rgs]) | fail
 refine zR [4,5,8,9,10,11,12,13,14,15,16,17,18] (xs.length) (fun (i:Nat) a=>[(8,.int .i64 i)]) (fun i_ a_ h_ _=>(fun i (_:Unit) _=>yH (fun x=>n == x) (xs.drop i) i = yH (fun x=>n == x) xs 0) i_ a_ h_) (()) (by simp) ?_ zO (Nat.le_refl _) ?_
 ·simp
 ·intro i a tm h' n' hle hJ hE hn' next hnx
  try dsimp only at hJ
  have hK:KeepB nx h' h:=KeepB.sub hE zG (by omega)
  simp [-qt,-qd,-ql]
  repeat' first | done | (((with_reducible show zK _ _ _ _ _ _ _);refine zH rfl omA omA ?_) <;> simp [-qt,-qd,-ql,rgs,iv]) | ((with_reducible refine zC ?_ ?_) <;> intro qb <;> (have qp:=qb;try simp only [psq] at qp) <;> simp [-qt,-qd,-ql,rgs,iv,qb])
  all_goals
   first
   | (have hlt:i < xs.length:=(by first | omega | (simp at *; omega))
      rw [zQ hlt] at hJ
      first
      | (refine hnx.go (()) ?_ ?_ ?_ ?_ ?_ ?_;omega;(simp [zI hlt hlim]);(simp);exact zG;(first | omega | (simp;omega));(try dsimp only);clear hnx;first | ((try simp only [List.drop_length,Int.toNat_natCast,yH] at hJ ⊢);grind) | (simp_all [yH];done) | (simp_all;omega))
      | (refine ⟨?_,zG⟩;clear hnx;first | ((try simp only [List.drop_length,Int.toNat_natCast,yH] at hJ ⊢);grind) | (simp_all [yH];done) | (simp_all;omega)))
   | (obtain rfl:i = xs.length:=(by first | omega | (simp at *; omega))
      refine ⟨?_,zG⟩;clear hnx;first | ((try simp only [List.drop_length,Int.toNat_natCast,yH] at hJ ⊢);grind) | (simp_all [yH];done) | (simp_all;omega))
theorem c_Contains {p:Bool} {xs:List Int} {n:Int}:PC ctx.P 270 [.view p 1 (xs.map iv),.int .i64 n] (.bool (xs.contains n)):=by
 have e:decide (0 ≤ yH (fun x=>n == x) xs 0) = xs.contains n:=by rw [vE _ _ 0 (Int.le_refl 0),any_contains]
 refine PC.o okC Tryz.func270 rfl (.bool _) fun h nx hnx => ?_
 try simp [-qt,-qd,-ql,rgs,e]
 repeat' first | done | (((with_reducible show zD _ _ _ 352 _ _);refine zB (c_Index) ?_) <;> simp [-qt,-qd,-ql,rgs,e]) | fail
theorem c_isEvent {p:Bool} {t:List Nod} {e:Evt}:PC ctx.P 327 [.agg (vD e),.view p 5 (t.map yS)] (.bool (zD4 t e)):=by
 refine PC.o okC Tryz.func327 rfl (.bool _) fun h nx hnx => ?_
 try simp [-qt,-qd,-ql,rgs,vD,yS]
 repeat' first | done | ((first | ((with_reducible show zK _ _ _ _ _ _ _);refine zH rfl omA omA ?_) | ((with_reducible show zD _ _ _ 113 _ _);refine zB (zC2) ?_) | ((with_reducible show zD _ _ _ 106 _ _);refine zB (yY) ?_) | ((with_reducible show zD _ _ _ 135 _ _);refine zB (c_IsDue) ?_) | (with_reducible refine zP (i:=8) [(0,[],[]),(1,[],[]),(2,[],[]),(3,[],[]),(4,[],[]),(5,[],[]),(6,[],[]),(7,[],[]),(8,[],[]),(9,[],[]),(10,[],[]),(11,[],[]),(12,[],[]),(13,[],[]),(14,[],[]),(15,[],[]),(16,[],[]),(17,[],[]),(18,[],[])] (by kernel_rfl) ?_)) <;> simp [-qt,-qd,-ql,rgs,vD,yS]) | ((first | (with_reducible refine yQ ?_ ?_) | (with_reducible refine zL ?_ ?_) | (with_reducible refine zC ?_ ?_)) <;> intro qb <;> (have qp:=qb;try simp only [psq] at qp) <;> simp [-qt,-qd,-ql,rgs,vD,yS,qb])
 all_goals (try clear hnx)
 all_goals (simp_all [zD4];done)
theorem c_isSpread1 {p:Bool} {t:List Nod} {n:Int}:PC ctx.P 225 [.int .i64 n,.vptr [.view p 5 (t.map yS)]] (.bool (!uF n t)):=by
 refine PC.o okC Tryz.func225 rfl (.bool _) fun h nx hnx => ?_
 try simp [-qt,-qd,-ql,rgs]
 repeat' first | done | (((with_reducible show zD _ _ _ 113 _ _);refine zB (zC2) ?_) <;> simp [-qt,-qd,-ql,rgs]) | fail
theorem c_isSpread {F:Nat → Bool} {p:Bool} {t:List Nod} {s:Spr}:PC ctx.P 103 [.agg (uK F s),.view p 5 (t.map yS)] (.bool (vF s t)):=by
 refine PC.o okC Tryz.func103 rfl (.bool _) fun h nx hnx => ?_
 try simp [-qt,-qd,-ql,rgs,uK]
 repeat' first | done | ((first | ((with_reducible show zT _ _ _ _ _ _);refine zA rfl fun _ => ?_) | ((with_reducible show zD _ _ _ 224 _ _);refine yG (uL (q:=fun n => !uF n t) (fv:=.fn 225 [.vptr [.view p 5 (t.map yS)]]) (fun x _=>c_isSpread1)) (by exact .bool _) (by repeat' first | exact Bors.nil | refine Bors.cons ?_ ?_ | exact Bor.same _ | refine Bor.fn1 ?_ | refine Bor.ptr0 (by (simp;rfl)) ?_) ?_)) <;> simp [-qt,-qd,-ql,rgs,uK]) | ((with_reducible refine zL ?_ ?_) <;> intro qb <;> (have qp:=qb;try simp only [psq] at qp) <;> simp [-qt,-qd,-ql,rgs,uK,qb])
 all_goals (try clear hnx)
 all_goals first | (simp_all [vF];done) | (simp_all [vF];omega)
end Go.AE.Tryz
end
section
/- Contracts of the program's readers: tasks, groups, worlds. -/
set_option maxRecDepth 8000
set_option maxHeartbeats 2000000
namespace Go.AE.Tryz
open Go.Proofs
open List renaming map_take → qt,map_drop → qd,map_tail → ql
theorem c_hasNode {n:Int}:PC ctx.P 214 [.int .i64 n] (.bool (hasNode n)):=by
 refine PC.o okC Tryz.func214 rfl (.bool _) fun h nx hnx => ?_
 try simp [-qt,-qd,-ql,rgs]
 repeat' first | done | (((with_reducible show zD _ _ _ 106 _ _);refine zB (yY) ?_) <;> simp [-qt,-qd,-ql,rgs]) | ((with_reducible refine zL ?_ ?_) <;> intro qb <;> (have qp:=qb;try simp only [psq] at qp) <;> simp [-qt,-qd,-ql,rgs,qb])
 all_goals (try clear hnx)
 all_goals (simp_all [hasNode];done)
theorem c_hasB {n:Int}:PC ctx.P 326 [.int .i64 n] (.bool (hasB n)):=by
 refine PC.o okC Tryz.func326 rfl (.bool _) fun h nx hnx => ?_
 try simp [-qt,-qd,-ql,rgs]
 repeat' first | done | ((with_reducible refine zL ?_ ?_) <;> intro qb <;> (have qp:=qb;try simp only [psq] at qp) <;> simp [-qt,-qd,-ql,rgs,qb])
 all_goals (try clear hnx)
 all_goals first | (simp_all [hasB];done) | (rw [Bool.eq_iff_iff];simp_all [hasB];done)
theorem c_InsOk {x:Inn}:PC ctx.P 221 [.agg (vY x)] (.bool (innOk x)):=by
 refine PC.o okC Tryz.func221 rfl (.bool _) fun h nx hnx => ?_
 try simp [-qt,-qd,-ql,rgs,vY]
 repeat' first | done | ((first | ((with_reducible show zD _ _ _ 214 _ _);refine zB (c_hasNode) ?_) | ((with_reducible show zD _ _ _ 326 _ _);refine zB (c_hasB) ?_) | ((with_reducible show zD _ _ _ 106 _ _);refine zB (yY) ?_)) <;> simp [-qt,-qd,-ql,rgs,vY]) | ((first | (with_reducible refine zL ?_ ?_) | (with_reducible refine zC ?_ ?_)) <;> intro qb <;> (have qp:=qb;try simp only [psq] at qp) <;> simp [-qt,-qd,-ql,rgs,vY,qb])
 all_goals (try clear hnx)
 all_goals (simp_all [innOk];done)
theorem c_ProgOk1 {x:Inn}:PC ctx.P 220 [.agg (vY x)] (.bool (!innOk x)):=by
 refine PC.o okC Tryz.func220 rfl (.bool _) fun h nx hnx => ?_
 try simp [-qt,-qd,-ql,rgs]
 repeat' first | done | (((with_reducible show zD _ _ _ 221 _ _);refine zB (c_InsOk) ?_) <;> simp [-qt,-qd,-ql,rgs]) | fail
theorem c_ProgOk {p:Bool} {l:List Inn}:PC ctx.P 101 [.view p 3 (l.map vY)] (.bool (zF4 l)):=by
 refine PC.o okC Tryz.func101 rfl (.bool _) fun h nx hnx => ?_
 try simp [-qt,-qd,-ql,rgs]
 repeat' first | done | ((first | ((with_reducible show zT _ _ _ _ _ _);refine zA rfl fun _ => ?_) | ((with_reducible show zD _ _ _ 219 _ _);refine zB (zR9 (q:=fun x => !innOk x) (fun x _=>c_ProgOk1)) ?_)) <;> simp [-qt,-qd,-ql,rgs]) | ((with_reducible refine zL ?_ ?_) <;> intro qb <;> (have qp:=qb;try simp only [psq] at qp) <;> simp [-qt,-qd,-ql,rgs,qb])
 all_goals (try clear hnx)
 all_goals (simp_all [zF4];omega)
theorem zK3 {t:Tsk}:PC ctx.P 244 [.agg (yM t)] (.bool (zB5 t)):=by
 refine PC.o okC Tryz.func244 rfl (.bool _) fun h nx hnx => ?_
 try simp [-qt,-qd,-ql,rgs,yM]
 repeat' first | done | ((first | ((with_reducible show zD _ _ _ 106 _ _);refine zB (yY) ?_) | (with_reducible refine zP (i:=3) [(0,[],[]),(1,[],[]),(2,[],[]),(3,[],[]),(4,[],[]),(5,[.tmp 34],[]),(6,[],[]),(7,[],[]),(8,[],[]),(9,[],[]),(10,[],[]),(11,[],[]),(12,[],[]),(13,[],[]),(14,[],[]),(15,[],[]),(16,[],[])] (by kernel_rfl) ?_)) <;> simp [-qt,-qd,-ql,rgs,yM]) | ((first | (with_reducible refine yQ ?_ ?_) | (with_reducible refine zL ?_ ?_) | (with_reducible refine zC ?_ ?_)) <;> intro qb <;> (have qp:=qb;try simp only [psq] at qp) <;> simp [-qt,-qd,-ql,rgs,yM,qb])
 all_goals (try clear hnx)
 all_goals first | (simp_all [zB5];done) | (simp only [zB5];grind)
theorem c_TasksOk1 {t:Tsk}:PC ctx.P 243 [.agg (yM t)] (.bool (!zB5 t)):=by
 refine PC.o okC Tryz.func243 rfl (.bool _) fun h nx hnx => ?_
 try simp [-qt,-qd,-ql,rgs]
 repeat' first | done | (((with_reducible show zD _ _ _ 244 _ _);refine zB (zK3) ?_) <;> simp [-qt,-qd,-ql,rgs]) | fail
theorem c_TasksOk {p:Bool} {l:List Tsk}:PC ctx.P 114 [.view p 9 (l.map yM)] (.bool (vA l)):=by
 refine PC.o okC Tryz.func114 rfl (.bool _) fun h nx hnx => ?_
 try simp [-qt,-qd,-ql,rgs]
 repeat' first | done | ((first | ((with_reducible show zT _ _ _ _ _ _);refine zA rfl fun _ => ?_) | ((with_reducible show zD _ _ _ 242 _ _);refine zB (zH0 (q:=fun x => !zB5 x) (fun x _=>c_TasksOk1)) ?_)) <;> simp [-qt,-qd,-ql,rgs]) | ((with_reducible refine zL ?_ ?_) <;> intro qb <;> (have qp:=qb;try simp only [psq] at qp) <;> simp [-qt,-qd,-ql,rgs,qb])
 all_goals (try clear hnx)
 all_goals (simp_all [vA];omega)
theorem c_isAfter {a b:Int}:PC ctx.P 237 [.int .i64 a,.int .i64 b] (.bool (zC3 a b)):=by
 refine PC.o okC Tryz.func237 rfl (.bool _) fun h nx hnx => ?_
 try simp [-qt,-qd,-ql,rgs]
 repeat' first | done | (((with_reducible show zD _ _ _ 106 _ _);refine zB (yY) ?_) <;> simp [-qt,-qd,-ql,rgs]) | ((with_reducible refine zL ?_ ?_) <;> intro qb <;> (have qp:=qb;try simp only [psq] at qp) <;> simp [-qt,-qd,-ql,rgs,qb])
 all_goals (try clear hnx)
 all_goals (simp_all [zC3];done)
theorem c_afsAt1 {x:Afr} {h:Han}:PC ctx.P 339 [.agg (vB x),.vptr (zG0 h)] (.bool (x.han == h)):=by
 refine PC.o okC Tryz.func339 rfl (.bool _) fun h nx hnx => ?_
 try simp [-qt,-qd,-ql,rgs,vB,zG0,han_eq,lfOf,uR,cellEq]
theorem c_afsAt {F:Nat → Bool} {a:Afs} {x:Han}:PC ctx.P 239 [.agg (uZ F a),.agg (zG0 x)] (.int .i64 (afsAt a.list x)):=by
 refine PC.o okC Tryz.func239 rfl (.int _ _) fun h nx hnx => ?_
 try simp [-qt,-qd,-ql,rgs,uZ,afsAt]
 repeat' first | done | (((with_reducible show zD _ _ _ 338 _ _);refine yG (zJ1 (q:=fun y=>y.han == x) (fv:=.fn 339 [.vptr (zG0 x)]) (fun x _=>c_afsAt1)) (by exact .int _ _) (by repeat' first | exact Bors.nil | refine Bors.cons ?_ ?_ | exact Bor.same _ | refine Bor.fn1 ?_ | refine Bor.ptr0 (by (simp;rfl)) ?_) ?_) <;> simp [-qt,-qd,-ql,rgs,uZ,afsAt]) | fail
theorem c_isTimer {F:Nat → Bool} {w:Wld} {t:Tmr}:PC ctx.P 109 [.agg (wldV F w),.agg (yN t)] (.bool (zD3 w t)):=by
 refine PC.o okC Tryz.func109 rfl (.bool _) fun h nx hnx => ?_
 try simp [-qt,-qd,-ql,rgs,wldV,yN]
 repeat' first | done | ((first | ((with_reducible show zD _ _ _ 113 _ _);refine zB (zC2) ?_) | ((with_reducible show zD _ _ _ 211 _ _);refine zB (c_isIn_Task) ?_)) <;> simp [-qt,-qd,-ql,rgs,wldV,yN]) | ((with_reducible refine zC ?_ ?_) <;> intro qb <;> (have qp:=qb;try simp only [psq] at qp) <;> simp [-qt,-qd,-ql,rgs,wldV,yN,qb])
 all_goals (try clear hnx)
 all_goals (simp_all [zD3];done)
theorem c_isSight {F:Nat → Bool} {w:Wld} {s:Sgt}:PC ctx.P 120 [.agg (wldV F w),.agg (uU s)] (.bool (zH9 w s)):=by
 refine PC.o okC Tryz.func120 rfl (.bool _) fun h nx hnx => ?_
 try simp [-qt,-qd,-ql,rgs,wldV,uU]
 repeat' first | done | ((first | ((with_reducible show zD _ _ _ 113 _ _);refine zB (zC2) ?_) | ((with_reducible show zD _ _ _ 106 _ _);refine zB (yY) ?_) | ((with_reducible show zD _ _ _ 255 _ _);refine zB (c_size_Event) ?_) | (with_reducible refine zP (i:=1) [(0,[],[]),(1,[],[]),(2,[],[]),(3,[],[]),(4,[],[]),(5,[],[]),(6,[],[]),(7,[],[]),(8,[],[]),(9,[],[]),(10,[],[]),(11,[.tmp 12],[]),(12,[],[]),(13,[],[]),(14,[],[])] (by kernel_rfl) ?_)) <;> simp [-qt,-qd,-ql,rgs,wldV,uU]) | ((first | (with_reducible refine yQ ?_ ?_) | (with_reducible refine zL ?_ ?_) | (with_reducible refine zC ?_ ?_)) <;> intro qb <;> (have qp:=qb;try simp only [psq] at qp) <;> simp [-qt,-qd,-ql,rgs,wldV,uU,qb])
 all_goals (try clear hnx)
 all_goals (simp_all [zH9];done)
theorem c_isTask {F:Nat → Bool} {w:Wld} {t:Tsk}:PC ctx.P 116 [.agg (wldV F w),.agg (yM t)] (.bool (zH8 w t)):=by
 refine PC.lim (n:=w.groups.length) (x:=.agg (wldV F w)) (by simp) (.agg (x:=.view (F 12) 5 (w.groups.map (vJ (F 13)))) (by simp [wldV]) (.here (by simp))) ⟨_,Tryz.func116,by kernel_rfl,by kernel_rfl⟩ fun hlim => ?_
 refine PC.o okC Tryz.func116 rfl (.bool _) fun h nx hnx => ?_
 try simp [-qt,-qd,-ql,rgs,wldV,yM,zD7,yA hlim]
 repeat' first | done | ((first | ((with_reducible show zK _ _ _ _ _ _ _);refine zH rfl omA omA ?_) | ((with_reducible show zD _ _ _ 246 _ _);refine zB (c_isIn_Prog) ?_) | ((with_reducible show zD _ _ _ 212 _ _);refine zB (c_size_Ins) ?_) | ((with_reducible show zD _ _ _ 247 _ _);refine zB (c_size_Group) ?_) | ((with_reducible show zD _ _ _ 106 _ _);refine zB (yY) ?_) | ((with_reducible show zD _ _ _ 113 _ _);refine zB (zC2) ?_) | ((with_reducible show zD _ _ _ 248 _ _);refine zB (c_isIn_Group) ?_) | (with_reducible refine zP (i:=1) [(0,[],[]),(1,[],[]),(2,[],[]),(3,[],[]),(4,[],[]),(5,[],[]),(6,[],[]),(7,[],[]),(8,[],[]),(9,[],[]),(10,[],[]),(11,[],[]),(12,[],[]),(13,[],[]),(14,[],[]),(15,[.tmp 12],[]),(16,[],[]),(17,[],[]),(18,[],[]),(19,[],[]),(20,[],[]),(21,[],[]),(22,[],[]),(23,[.tmp 24],[]),(24,[],[]),(25,[],[]),(26,[],[]),(27,[],[])] (by kernel_rfl) ?_)) <;> simp [-qt,-qd,-ql,rgs,wldV,yM,zD7,yA hlim]) | ((first | (with_reducible refine yQ ?_ ?_) | (with_reducible refine zC ?_ ?_)) <;> intro qb <;> (have qp:=qb;try simp only [psq] at qp) <;> simp [-qt,-qd,-ql,rgs,wldV,yM,zD7,yA hlim,qb])
 all_goals (try clear hnx)
 all_goals (simp_all [zH8];done)
theorem c_isGroup1 {F:Nat → Bool} {w:Wld} {n:Int}:PC ctx.P 252 [.int .i64 n,.vptr (wldV F w)] (.bool (!uF n w.tasks)):=by
 refine PC.o okC Tryz.func252 rfl (.bool _) fun h nx hnx => ?_
 try simp [-qt,-qd,-ql,rgs,wldV]
 repeat' first | done | (((with_reducible show zD _ _ _ 211 _ _);refine zB (c_isIn_Task) ?_) <;> simp [-qt,-qd,-ql,rgs,wldV]) | fail
theorem c_WorldOk1 {F:Nat → Bool} {w:Wld} {e:Evt}:PC ctx.P 105 [.agg (vD e),.vptr (wldV F w)] (.bool (inR e.time 0 w.now)):=by
 refine PC.o okC Tryz.func105 rfl (.bool _) fun h nx hnx => ?_
 try simp [-qt,-qd,-ql,rgs,wldV,vD]
 repeat' first | done | (((with_reducible show zD _ _ _ 106 _ _);refine zB (yY) ?_) <;> simp [-qt,-qd,-ql,rgs,wldV,vD]) | fail
theorem c_WorldOk2 {F:Nat → Bool} {w:Wld} {x:Afr}:PC ctx.P 112 [.agg (vB x),.vptr (wldV F w)] (.bool (uF x.node w.tree)):=by
 refine PC.o okC Tryz.func112 rfl (.bool _) fun h nx hnx => ?_
 try simp [-qt,-qd,-ql,rgs,wldV,vB]
 repeat' first | done | (((with_reducible show zD _ _ _ 113 _ _);refine zB (zC2) ?_) <;> simp [-qt,-qd,-ql,rgs,wldV,vB]) | fail
theorem c_WorldOk3 {n:Int}:PC ctx.P 122 [.int .i64 n] (.bool (inR n 0 99)):=by
 refine PC.o okC Tryz.func122 rfl (.bool _) fun h nx hnx => ?_
 try simp [-qt,-qd,-ql,rgs]
 repeat' first | done | (((with_reducible show zD _ _ _ 106 _ _);refine zB (yY) ?_) <;> simp [-qt,-qd,-ql,rgs]) | fail
theorem c_WorldOk4 {n:Int}:PC ctx.P 123 [.int .i64 n] (.bool (inR n 0 99)):=by
 refine PC.o okC Tryz.func123 rfl (.bool _) fun h nx hnx => ?_
 try simp [-qt,-qd,-ql,rgs]
 repeat' first | done | (((with_reducible show zD _ _ _ 106 _ _);refine zB (yY) ?_) <;> simp [-qt,-qd,-ql,rgs]) | fail
end Go.AE.Tryz
end
section
/- Contracts of the program's readers: timers, chains, events. -/
set_option maxRecDepth 8000
set_option maxHeartbeats 2000000
namespace Go.AE.Tryz
open Go.Proofs
open List renaming map_take → qt,map_drop → qd,map_tail → ql
theorem c_TimersOk {F:Nat → Bool} {t:Tms}:PC ctx.P 107 [.agg (vM F t)] (.bool (vZ t)):=by
 refine PC.lim (n:=t.list.length) (x:=.agg (vM F t)) (by simp) (.agg (x:=.view (F 7) 5 (t.list.map yN)) (by simp [vM]) (.here (by simp))) ⟨_,Tryz.func107,by kernel_rfl,by kernel_rfl⟩ fun hlim => ?_
 refine PC.o okC Tryz.func107 rfl (.bool _) fun h nx hnx => ?_
 try simp [-qt,-qd,-ql,rgs,vM]
 repeat' first | done | ((first | ((with_reducible show zT _ _ _ _ _ _);refine zA rfl fun _ => ?_) | ((with_reducible show zD _ _ _ 106 _ _);refine zB (yY) ?_) | ((with_reducible show zD _ _ _ 228 _ _);refine zB (c_HeapOk) ?_)) <;> simp [-qt,-qd,-ql,rgs,vM]) | ((first | (with_reducible refine zL ?_ ?_) | (with_reducible refine zC ?_ ?_)) <;> intro qb <;> (have qp:=qb;try simp only [psq] at qp) <;> simp [-qt,-qd,-ql,rgs,vM,qb])
 ·all_goals (try clear hnx)
  all_goals (simp_all [vZ];done)
 ·all_goals (try clear hnx)
  all_goals (simp_all [vZ];omega)
 ·all_goals (try clear hnx)
  all_goals (simp_all [vZ];done)
 ·refine zR [2,3,4,6,26,27,28,29,30,31,32,33,34,35,36,37,38,39,40,41,42,43,44,45,46,47,48,49,50,51,52,53,54,55,56,57,58,59] (t.list.length) (fun (i:Nat) a=>[(26,.int .i64 i),(3,.int .i64 a.1),(4,.int .i64 a.2)]) (fun i_ a_ h_ _=>(fun i (a:Int × Int) _=>vL t.next (t.list.drop i) a.1 = vL t.next t.list (-1) ∧ a.2 + cntB (·.armed) (t.list.drop i) = cntB (·.armed) t.list ∧ 0 ≤ a.2 ∧ a.2 ≤ i) i_ a_ h_) ((-1,0)) (by simp) ?_ zO (Nat.le_refl _) ?_
  ·simp
  ·intro i a tm h' n' hle hJ hE hn' next hnx
   try dsimp only at hJ
   have hK:KeepB nx h' h:=KeepB.sub hE zG (by omega)
   simp [-qt,-qd,-ql]
   have e1:h' (nx) = some (.obj (vM F t)):=by have:=hE (nx) (by omega);simpa [vM] using this
   have e1n:∀ k,((nx) = n' + k) = False:=fun k=>by simp only [eq_iff_iff,iff_false];omega
   have e1m:((nx) = n') = False:=by simp only [eq_iff_iff,iff_false];omega
   repeat' first | done | ((first | ((with_reducible show zT _ _ _ _ _ _);refine zA rfl fun _ => ?_) | ((with_reducible show zK _ _ _ _ _ _ _);refine zH rfl omA omA ?_) | ((with_reducible show zD _ _ _ 106 _ _);refine zB (yY) ?_) | ((with_reducible show zD _ _ _ 229 _ _);refine yG (zP9 (q:=fun h=>decide (yE t.list h.seq < 0) || (!(gt t.list (yE t.list h.seq)).armed || (gt t.list (yE t.list h.seq)).due != h.due)) (fv:=.fn 230 [.vptr (vM F t)]) (fun x _=>c_TimersOk1)) (by exact .bool _) (by repeat' first | exact Bors.nil | refine Bors.cons ?_ ?_ | exact Bor.same _ | refine Bor.fn1 ?_ | refine Bor.ptr0 (by assumption) ?_) ?_)) <;> simp [-qt,-qd,-ql,rgs,vM,yN,e1,e1n,e1m]) | ((first | (with_reducible refine zL ?_ ?_) | (with_reducible refine zC ?_ ?_)) <;> intro qb <;> (have qp:=qb;try simp only [psq] at qp) <;> simp [-qt,-qd,-ql,rgs,vM,yN,e1,e1n,e1m,qb])
   all_goals
    first
    | (have hlt:i < t.list.length:=(by omega)
       rw [zQ hlt] at hJ
       first
       | (refine ⟨?_,zG⟩;clear hnx;(try simp only [vL,vZ,zQ6,cntB_nil] at hJ ⊢);grind)
       | skip)
    | skip
   ·simp only [LIM] at hlim
    refine hnx.go ((gt t.list (i:Int)).seq,a.2 + 1) ?_ ?_ ?_ ?_ ?_ ?_
    ·omega
    ·simp [zE (x:=(i:Int) + 1) (by omega),zE (x:=a.2 + 1) (by omega)]
    ·simp
    ·exact zG
    ·first | omega | (simp;omega)
    dsimp only
    simp only [vL,zQ6] at hJ
    grind
   ·simp only [LIM] at hlim
    refine hnx.go ((gt t.list (i:Int)).seq,a.2) ?_ ?_ ?_ ?_ ?_ ?_
    ·omega
    ·simp [zE (x:=(i:Int) + 1) (by omega)]
    ·simp
    ·exact zG
    ·first | omega | (simp;omega)
    dsimp only
    simp only [vL,zQ6] at hJ
    grind
   all_goals
    obtain rfl:i = t.list.length:=(by omega)
    refine ⟨?_,zG⟩
    simp only [List.drop_length,vL,vZ,cntB_nil] at hJ ⊢
    grind
theorem c_chain {p:Bool} {t:List Nod} {n:Int} (ht:uJ t = true) (h0:0 ≤ n) (h1:n < t.length):PC ctx.P 269 [.view p 5 (t.map yS),.int .i64 n] (.view true 1 ((zH6 t n).map iv)):=by
 have hl60:=zC4 ht
 refine PC.o okC Tryz.func269 rfl (.vmap zA5) fun h nx hnx => ?_
 try simp [-qt,-qd,-ql,rgs]
 refine go_dnP (h0:=h) (nx0:=nx) [1,5,8,9,10,11,12,13,14,15,16,17,18,19,20,21,22,23,24,25,26,27,28,29,30] (fun a=>[(1,.int .i64 a.1),(5,.ref a.2.2 1 0 (a.2.1.length + 1))]) (fun a=>a.1.toNat) (fun (a:Int × List Int × Nat) h' n'=>0 ≤ a.1 ∧ a.1 < t.length ∧ nx ≤ a.2.2 ∧ h' a.2.2 = some (.row 1 ((a.2.1 ++ [a.1]).map iv)) ∧ a.2.1 ++ zH6 t a.1 = zH6 t n ∧ (a.2.1.length:Int) + a.1 ≤ n ∧ a.2.2 < n') ((n,[],nx + 2)) (by simp) ?_ zG (by omega) ?_
 ·simp [h0,h1,iv]
 ·intro a tm h' n' hJ hE hn' next hnx
  try dsimp only at hJ
  have hK:KeepB nx h' h:=KeepB.sub hE zG (by omega)
  obtain ⟨m,pre,id⟩:=a
  obtain ⟨g0,g1,g2,g3,g4,g5,g6⟩:=hJ
  dsimp only at g0 g1 g2 g3 g4 g5 g6 ⊢
  have hs:=chain_step ht g0 g1
  have hu:=zJ8 ht g0 g1
  have k1:∀ k,(id = n' + k) = False:=fun k=>by simp only [eq_iff_iff,iff_false];omega
  try simp [-qt,-qd,-ql,rgs,yS,g3,k1,iv]
  repeat' first | done | ((first | ((with_reducible show zK _ _ _ _ _ _ _);refine zH rfl omA omA ?_) | ((with_reducible show zL4 _ _ _ _ _ _ _ _);refine yO rfl rfl (by decide) (by decide) (by (simp [-qt,-qd,-ql,rgs,yS,g3,k1,iv];rfl)) (by (simp [-qt,-qd,-ql,rgs,yS,g3,k1,iv];rfl)) (by (simp;done)) (by (simp only [yW,LIM] at *; simp;omega)) (by simp [iv,bv]) ?_)) <;> simp [-qt,-qd,-ql,rgs,yS,g3,k1,iv]) | ((first | (with_reducible refine zL ?_ ?_) | (with_reducible refine zC ?_ ?_)) <;> intro qb <;> (have qp:=qb;try simp only [psq] at qp) <;> simp [-qt,-qd,-ql,rgs,yS,g3,k1,iv,qb])
  ·have hk:(gt t m).kind ≠ 0:=by omega
   have hu':=hu hk
   refine hnx.go ((gt t m).up,pre ++ [m],n' + 23) ?_ ?_ ?_ ?_ ?_ ?_
   ·simp;omega
   ·simp
   ·simp
   ·exact zG
   ·first | omega | (simp;omega)
   dsimp only
   refine ⟨by omega,by omega,by omega,by simp [iv],?_,by simp;omega,by simp⟩
   rw [if_neg (by simp;omega)] at hs
   rw [← g4,hs];simp
  all_goals
   refine ⟨?_,zG⟩
   rw [if_pos (by simp;omega)] at hs
   rw [← g4,hs,List.take_of_length_le (by simp)];simp [iv]
theorem c_firstOf {p q:Bool} {t:List Nod} {l:List Evt} {n:Int} (ht:uJ t = true) (h0:0 ≤ n) (h1:n < t.length) :
 PC ctx.P 133 [.view p 5 (t.map yS),.view q 4 (l.map vD),.int .i64 n] (.tup [.agg (vD ((zH1 t l n).getD ⟨0,0,0,0⟩)),.bool (zH1 t l n).isSome]):=by
 refine PC.lim (n:=l.length) (x:=.view q 4 (l.map vD)) (by simp) (.here (by simp)) ⟨_,Tryz.func133,by kernel_rfl,by kernel_rfl⟩ fun hlim => ?_
 refine PC.o okC Tryz.func133 rfl (.tup _ (by simp;exact .agg _ (zQ2 _))) fun h nx hnx => ?_
 try simp [-qt,-qd,-ql,rgs]
 repeat' first | done | ((first | ((with_reducible show zT _ _ _ _ _ _);refine zA rfl fun _ => ?_) | ((with_reducible show zD _ _ _ 269 _ _);refine zB (c_chain ht h0 h1) ?_)) <;> simp [-qt,-qd,-ql,rgs]) | fail
 refine zR [7,10,16,17,18,19,20,21,22,23,24,25] (l.length) (fun (i:Nat) a=>[(16,.int .i64 i)]) (fun i_ a_ h_ _=>(fun i (_:Unit) _=>(l.drop i).find? (fun e=>(zH6 t n).contains e.node) = zH1 t l n) i_ a_ h_) (()) (by simp) ?_ zO (Nat.le_refl _) ?_
 ·simp [zH1]
 ·intro i a tm h' n' hle hJ hE hn' next hnx
  try dsimp only at hJ
  have hK:KeepB nx h' h:=KeepB.sub hE zG (by omega)
  simp [-qt,-qd,-ql]
  have e1:h' (nx) = some (.obj [.int .i64 0,.int .i64 0,.int .i64 0,.int .i64 0]):=by have:=hE (nx) (by omega);simpa using this
  have e1n:∀ k,((nx) = n' + k) = False:=fun k=>by simp only [eq_iff_iff,iff_false];omega
  have e1m:((nx) = n') = False:=by simp only [eq_iff_iff,iff_false];omega
  try simp [-qt,-qd,-ql,rgs,vD,e1,e1n,e1m]
  repeat' first | done | ((first | ((with_reducible show zK _ _ _ _ _ _ _);refine zH rfl omA omA ?_) | ((with_reducible show zD _ _ _ 270 _ _);refine zB (c_Contains) ?_)) <;> simp [-qt,-qd,-ql,rgs,vD,e1,e1n,e1m]) | ((with_reducible refine zC ?_ ?_) <;> intro qb <;> (have qp:=qb;try simp only [psq] at qp) <;> simp [-qt,-qd,-ql,rgs,vD,e1,e1n,e1m,qb])
  ·have hf:zH1 t l n = some (gt l i):=by rw [zQ (xs:=l) (i:=i) (by omega),List.find?_cons] at hJ;simpa [qp] using hJ.symm
   refine ⟨by simp [hf],zG⟩
  ·have hf:(l.drop (i + 1)).find? (fun e=>(zH6 t n).contains e.node) = zH1 t l n:=by rw [zQ (xs:=l) (i:=i) (by omega),List.find?_cons] at hJ;simpa [qp] using hJ
   refine hnx.go () ?_ ?_ ?_ ?_ ?_ ?_
   ·omega
   ·simp [zI (show i < l.length by omega) hlim]
   ·simp
   ·exact zG
   ·first | omega | (simp;omega)
   exact hf
  ·have hf:zH1 t l n = none:=by rw [← hJ,List.drop_eq_nil_of_le (by omega)];rfl
   refine ⟨by simp [hf],zG⟩
theorem c_fits {p q:Bool} {t:List Nod} {l:List Evt} {e:Evt} (ht:uJ t = true):PC ctx.P 223 [.agg (vD e),.view p 5 (t.map yS),.view q 4 (l.map vD)] (.bool (fits t l e)):=by
 refine PC.lim (n:=l.length) (x:=.view q 4 (l.map vD)) (by simp) (.here (by simp)) ⟨_,Tryz.func223,by kernel_rfl,by kernel_rfl⟩ fun hlim => ?_
 by_cases hev:zD4 t e = true
 ·have hb:0 ≤ e.node ∧ e.node < t.length:=by
   unfold zD4 at hev;split at hev
   ·cases hev
   ·rename_i h2;simpa [zE4] using h2
  refine PC.o okC Tryz.func223 rfl (.bool _) fun h nx hnx => ?_
  try simp [-qt,-qd,-ql,rgs,vD,yA hlim,hev]
  repeat' first | done | ((first | ((with_reducible show zK _ _ _ _ _ _ _);refine zH rfl omA omA ?_) | ((with_reducible show zD _ _ _ 327 _ _);refine zB (c_isEvent (e:=e)) ?_) | ((with_reducible show zD _ _ _ 133 _ _);refine zB (c_firstOf ht hb.1 hb.2) ?_) | (with_reducible refine zP (i:=1) [(0,[],[]),(1,[],[]),(2,[],[]),(3,[],[]),(4,[],[]),(5,[],[]),(6,[],[]),(7,[],[]),(8,[],[]),(9,[],[]),(10,[],[]),(11,[],[]),(12,[],[]),(13,[],[]),(14,[],[]),(15,[],[]),(16,[],[]),(17,[],[]),(18,[],[]),(19,[],[]),(20,[],[])] (by kernel_rfl) ?_)) <;> simp [-qt,-qd,-ql,rgs,vD,yA hlim,hev]) | ((first | (with_reducible refine yQ ?_ ?_) | (with_reducible refine zC ?_ ?_)) <;> intro qb <;> (have qp:=qb;try simp only [psq] at qp) <;> simp [-qt,-qd,-ql,rgs,vD,yA hlim,hev,qb])
  all_goals (try clear hnx)
  all_goals (simp_all [fits];done)
 ·refine PC.o okC Tryz.func223 rfl (.bool _) fun h nx hnx => ?_
  try simp [-qt,-qd,-ql,rgs,vD,hev]
  repeat' first | done | ((first | ((with_reducible show zD _ _ _ 327 _ _);refine zB (c_isEvent (e:=e)) ?_) | (with_reducible refine zP (i:=1) [(0,[],[]),(1,[],[]),(2,[],[]),(3,[],[]),(4,[],[]),(5,[],[]),(6,[],[]),(7,[],[]),(8,[],[]),(9,[],[]),(10,[],[]),(11,[],[]),(12,[],[]),(13,[],[]),(14,[],[]),(15,[],[]),(16,[],[]),(17,[],[]),(18,[],[]),(19,[],[]),(20,[],[])] (by kernel_rfl) ?_)) <;> simp [-qt,-qd,-ql,rgs,vD,hev]) | fail
  all_goals (try clear hnx)
  all_goals (simp_all [fits];done)
end Go.AE.Tryz
end
section
/- Contracts of the program's readers: events, worlds. -/
set_option maxRecDepth 8000
set_option maxHeartbeats 2000000
namespace Go.AE.Tryz
open Go.Proofs
open List renaming map_take → qt,map_drop → qd,map_tail → ql
theorem c_EventsOk {p q:Bool} {t:List Nod} {l:List Evt}:PC ctx.P 102 [.view p 5 (t.map yS),.view q 4 (l.map vD)] (.bool (yT t l)):=by
 refine PC.lim (n:=l.length) (x:=.view q 4 (l.map vD)) (by simp) (.here (by simp)) ⟨_,Tryz.func102,by kernel_rfl,by kernel_rfl⟩ fun hlim => ?_
 by_cases ht:uJ t = true
 ·refine PC.o okC Tryz.func102 rfl (.bool _) fun h nx hnx => ?_
  try simp [-qt,-qd,-ql,rgs,ht]
  repeat' first | done | ((first | ((with_reducible show zT _ _ _ _ _ _);refine zA rfl fun _ => ?_) | ((with_reducible show zD _ _ _ 222 _ _);refine zB (c_TreeOk) ?_)) <;> simp [-qt,-qd,-ql,rgs,ht]) | fail
  refine zR [4,5,6,12,13,14,15,16,17,18,19,20,21,22,23,24] (l.length) (fun (i:Nat) a=>[(12,.int .i64 i)]) (fun i_ a_ h_ _=>(fun i (_:Unit) _=>uA (fun i e=>fits t (l.take i.toNat) e) (l.drop i) i = uA (fun i e=>fits t (l.take i.toNat) e) l 0) i_ a_ h_) (()) (by simp) ?_ zO (Nat.le_refl _) ?_
  ·simp
  ·intro i a tm h' n' hle hJ hE hn' next hnx
   try dsimp only at hJ
   have hK:KeepB nx h' h:=KeepB.sub hE zG (by omega)
   simp [-qt,-qd,-ql]
   repeat' first | done | ((first | ((with_reducible show zK _ _ _ _ _ _ _);refine zH rfl omA omA ?_) | ((with_reducible show zG9 _ _ _ _ _ _ _ _ _ _ _);refine zS0 rfl omA omA ?_) | ((with_reducible show zD _ _ _ 223 _ _);refine zB (c_fits ht) ?_) | (with_reducible refine zP (i:=6) [(0,[],[]),(1,[],[]),(2,[],[]),(3,[],[]),(4,[],[]),(5,[],[]),(6,[],[])] (by kernel_rfl) ?_)) <;> simp [-qt,-qd,-ql,rgs]) | ((with_reducible refine zC ?_ ?_) <;> intro qb <;> (have qp:=qb;try simp only [psq] at qp) <;> simp [-qt,-qd,-ql,rgs,qb])
   all_goals
    first
    | (have hlt:i < l.length:=(by first | omega | (simp at *; omega))
       rw [zQ hlt] at hJ
       first
       | (refine hnx.go (()) ?_ ?_ ?_ ?_ ?_ ?_;omega;(simp [zI hlt hlim]);(simp);exact zG;(first | omega | (simp;omega));(try dsimp only);clear hnx;first | ((try simp only [List.drop_length,Int.toNat_natCast,uA,yT] at hJ ⊢);grind) | (simp_all [uA,yT];done) | (simp_all;omega))
       | (refine ⟨?_,zG⟩;clear hnx;first | ((try simp only [List.drop_length,Int.toNat_natCast,uA,yT] at hJ ⊢);grind) | (simp_all [uA,yT];done) | (simp_all;omega)))
    | (obtain rfl:i = l.length:=(by first | omega | (simp at *; omega))
       refine ⟨?_,zG⟩;clear hnx;first | ((try simp only [List.drop_length,Int.toNat_natCast,uA,yT] at hJ ⊢);grind) | (simp_all [uA,yT];done) | (simp_all;omega))
 ·refine PC.o okC Tryz.func102 rfl (.bool _) fun h nx hnx => ?_
  try simp [-qt,-qd,-ql,rgs,ht]
  repeat' first | done | (((with_reducible show zD _ _ _ 222 _ _);refine zB (c_TreeOk) ?_) <;> simp [-qt,-qd,-ql,rgs,ht]) | fail
  all_goals (try clear hnx)
  all_goals (simp_all [yT];done)
theorem c_AftersOk {F:Nat → Bool} {x:Afs}:PC ctx.P 110 [.agg (uZ F x)] (.bool (zD6 x)):=by
 refine PC.lim (n:=x.list.length) (x:=.agg (uZ F x)) (by simp) (.agg (x:=.view (F 10) 5 (x.list.map vB)) (by simp [uZ]) (.here (by simp))) ⟨_,Tryz.func110,by kernel_rfl,by kernel_rfl⟩ fun hlim => ?_
 by_cases hs:zF0 x.slots = true
 ·have hl:x.slots.used.length = x.slots.ages.length:=by simp [zF0] at hs;omega
  refine PC.o okC Tryz.func110 rfl (.bool _) fun h nx hnx => ?_
  try simp [-qt,-qd,-ql,rgs,uZ,hs]
  repeat' first | done | ((first | ((with_reducible show zT _ _ _ _ _ _);refine zA rfl fun _ => ?_) | ((with_reducible show zD _ _ _ 234 _ _);refine zB (c_SlotsOk (s:=x.slots) (F:=F)) ?_) | ((with_reducible show zD _ _ _ 235 _ _);refine zB (c_size_After) ?_) | ((with_reducible show zD _ _ _ 236 _ _);refine zB (c_used (s:=x.slots) (F:=F)) ?_) | (with_reducible refine zP (i:=1) [(0,[],[]),(1,[],[]),(2,[],[]),(3,[],[]),(4,[],[]),(5,[],[]),(6,[],[]),(8,[],[]),(9,[],[]),(7,[.tmp 13],[]),(10,[],[]),(11,[],[]),(12,[],[])] (by kernel_rfl) ?_)) <;> simp [-qt,-qd,-ql,rgs,uZ,hs]) | ((with_reducible refine zC ?_ ?_) <;> intro qb <;> (have qp:=qb;try simp only [psq] at qp) <;> simp [-qt,-qd,-ql,rgs,uZ,hs,qb])
  ·simp only [zD6];grind
  ·refine zR [2,3,4,21,22,23,24,25,26,27,28,29,30,31,32,33,34,35,36,37,38,39,40,41,42,43,44,45,46,47,48] (x.list.length) (fun (i:Nat) a=>[(21,.int .i64 i)]) (fun i_ a_ h_ _=>(fun i (_:Unit) _=>uA (fun i y=>zC3 y.node y.fn && (zA4 x.slots y.han && afsAt x.list y.han == i)) (x.list.drop i) i = uA (fun i y=>zC3 y.node y.fn && (zA4 x.slots y.han && afsAt x.list y.han == i)) x.list 0) i_ a_ h_) (()) (by simp) ?_ zO (Nat.le_refl _) ?_
   ·simp
   ·intro i a tm h' n' hle hJ hE hn' next hnx
    try dsimp only at hJ
    have hK:KeepB nx h' h:=KeepB.sub hE zG (by omega)
    simp [-qt,-qd,-ql]
    have e1:h' (nx) = some (.obj (uZ F x)):=by have:=hE (nx) (by omega);simpa [uZ] using this
    have e1n:∀ k,((nx) = n' + k) = False:=fun k=>by simp only [eq_iff_iff,iff_false];omega
    have e1m:((nx) = n') = False:=by simp only [eq_iff_iff,iff_false];omega
    repeat' first | done | ((first | ((with_reducible show zK _ _ _ _ _ _ _);refine zH rfl omA omA ?_) | ((with_reducible show zD _ _ _ 237 _ _);refine zB (c_isAfter) ?_) | ((with_reducible show zD _ _ _ 238 _ _);refine zB (c_holds (s:=x.slots) (F:=F) (x:=(gt x.list (i:Int)).han) hl) ?_) | ((with_reducible show zD _ _ _ 239 _ _);refine zB (c_afsAt (a:=x) (F:=F) (x:=(gt x.list (i:Int)).han)) ?_)) <;> simp [-qt,-qd,-ql,rgs,uZ,vB,e1,e1n,e1m]) | ((first | (with_reducible refine zL ?_ ?_) | (with_reducible refine zC ?_ ?_)) <;> intro qb <;> (have qp:=qb;try simp only [psq] at qp) <;> simp [-qt,-qd,-ql,rgs,uZ,vB,e1,e1n,e1m,qb])
    all_goals
     first
     | (have hlt:i < x.list.length:=(by first | omega | (simp at *; omega))
        rw [zQ hlt] at hJ
        first
        | (refine hnx.go (()) ?_ ?_ ?_ ?_ ?_ ?_;omega;(simp [zI hlt hlim]);(simp);exact zG;(first | omega | (simp;omega));(try dsimp only);clear hnx;first | ((try simp only [List.drop_length,Int.toNat_natCast,uA,zD6] at hJ ⊢);grind) | (simp_all [uA,zD6];done) | (simp_all;omega))
        | (refine ⟨?_,zG⟩;clear hnx;first | ((try simp only [List.drop_length,Int.toNat_natCast,uA,zD6] at hJ ⊢);grind) | (simp_all [uA,zD6];done) | (simp_all;omega)))
     | (obtain rfl:i = x.list.length:=(by first | omega | (simp at *; omega))
        refine ⟨?_,zG⟩;clear hnx;first | ((try simp only [List.drop_length,Int.toNat_natCast,uA,zD6] at hJ ⊢);grind) | (simp_all [uA,zD6];done) | (simp_all;omega))
 ·refine PC.o okC Tryz.func110 rfl (.bool _) fun h nx hnx => ?_
  try simp [-qt,-qd,-ql,rgs,uZ,hs]
  repeat' first | done | ((first | ((with_reducible show zD _ _ _ 234 _ _);refine zB (c_SlotsOk (s:=x.slots) (F:=F)) ?_) | (with_reducible refine zP (i:=1) [(0,[],[]),(1,[],[]),(2,[],[]),(3,[],[]),(4,[],[]),(5,[],[]),(6,[],[]),(8,[],[]),(9,[],[]),(7,[.tmp 13],[]),(10,[],[]),(11,[],[]),(12,[],[])] (by kernel_rfl) ?_)) <;> simp [-qt,-qd,-ql,rgs,uZ,hs]) | fail
  all_goals (try clear hnx)
  all_goals (simp_all [zD6];done)
theorem c_GroupOk {p:Bool} {g:Grp}:PC ctx.P 251 [.agg (vJ p g)] (.bool (zJ6 g)):=by
 refine PC.lim (n:=g.waits.length) (x:=.agg (vJ p g)) (by simp) (.agg (x:=.view p 1 (g.waits.map iv)) (by simp [vJ]) (.here (by simp))) ⟨_,Tryz.func251,by kernel_rfl,by kernel_rfl⟩ fun hlim => ?_
 refine PC.o okC Tryz.func251 rfl (.bool _) fun h nx hnx => ?_
 try simp [-qt,-qd,-ql,rgs,vJ]
 repeat' first | done | ((first | ((with_reducible show zT _ _ _ _ _ _);refine zA rfl fun _ => ?_) | ((with_reducible show zD _ _ _ 106 _ _);refine zB (yY) ?_)) <;> simp [-qt,-qd,-ql,rgs,vJ]) | ((first | (with_reducible refine zL ?_ ?_) | (with_reducible refine zC ?_ ?_)) <;> intro qb <;> (have qp:=qb;try simp only [psq] at qp) <;> simp [-qt,-qd,-ql,rgs,vJ,qb])
 all_goals first | (clear hnx;simp only [zJ6];grind) | skip
 all_goals
  refine zR [2,3,4,58,59,60,61,62,63,64,65,66,67,68,69,70,71,72,73,74] (g.waits.length) (fun (i:Nat) a=>[(58,.int .i64 i)]) (fun i_ a_ h_ _=>(fun i (_:Unit) _=>uA (fun i n=>inR n 0 59 && !(g.waits.take i.toNat).contains n) (g.waits.drop i) i = uA (fun i n=>inR n 0 59 && !(g.waits.take i.toNat).contains n) g.waits 0) i_ a_ h_) (()) (by simp) ?_ zO (Nat.le_refl _) ?_
  ·simp
  ·intro i a tm h' n' hle hJ hE hn' next hnx
   try dsimp only at hJ
   have hK:KeepB nx h' h:=KeepB.sub hE zG (by omega)
   simp [-qt,-qd,-ql]
   have e1:h' (nx) = some (.obj (vJ p g)):=by have:=hE (nx) (by omega);simpa [vJ] using this
   have e1n:∀ k,((nx) = n' + k) = False:=fun k=>by simp only [eq_iff_iff,iff_false];omega
   have e1m:((nx) = n') = False:=by simp only [eq_iff_iff,iff_false];omega
   repeat' first | done | ((first | ((with_reducible show zK _ _ _ _ _ _ _);refine zH rfl omA omA ?_) | ((with_reducible show zJ2 _ _ _ _ _ _ _ _);refine slice_to rfl omA omA ?_) | ((with_reducible show zD _ _ _ 106 _ _);refine zB (yY) ?_) | ((with_reducible show zD _ _ _ 270 _ _);refine zB (c_Contains) ?_)) <;> simp [-qt,-qd,-ql,rgs,vJ,iv,e1,e1n,e1m]) | ((first | (with_reducible refine zL ?_ ?_) | (with_reducible refine zC ?_ ?_)) <;> intro qb <;> (have qp:=qb;try simp only [psq] at qp) <;> simp [-qt,-qd,-ql,rgs,vJ,iv,e1,e1n,e1m,qb])
   all_goals
    first
    | (have hlt:i < g.waits.length:=(by first | omega | (simp at *; omega))
       rw [zQ hlt] at hJ
       first
       | (refine hnx.go (()) ?_ ?_ ?_ ?_ ?_ ?_;omega;(simp [zI hlt hlim]);(simp);exact zG;(first | omega | (simp;omega));(try dsimp only);clear hnx;first | ((try simp only [List.drop_length,Int.toNat_natCast,uA,zJ6] at hJ ⊢);grind) | (simp_all [uA,zJ6];done) | (simp_all;omega))
       | (refine ⟨?_,zG⟩;clear hnx;first | ((try simp only [List.drop_length,Int.toNat_natCast,uA,zJ6] at hJ ⊢);grind) | (simp_all [uA,zJ6];done) | (simp_all;omega)))
    | (obtain rfl:i = g.waits.length:=(by first | omega | (simp at *; omega))
       refine ⟨?_,zG⟩;clear hnx;first | ((try simp only [List.drop_length,Int.toNat_natCast,uA,zJ6] at hJ ⊢);grind) | (simp_all [uA,zJ6];done) | (simp_all;omega))
end Go.AE.Tryz
end
section
/- Contracts of the program's readers: worlds. -/
set_option maxRecDepth 8000
set_option maxHeartbeats 4000000
namespace Go.AE.Tryz
open Go.Proofs
open List renaming map_take → qt,map_drop → qd,map_tail → ql
theorem c_isGroup {F:Nat → Bool} {p:Bool} {w:Wld} {g:Grp}:PC ctx.P 118 [.agg (wldV F w),.agg (vJ p g)] (.bool (zH2 w g)):=by
 refine PC.o okC Tryz.func118 rfl (.bool _) fun h nx hnx => ?_
 try simp [-qt,-qd,-ql,rgs,wldV,yS]
 repeat' first | done | ((first | ((with_reducible show zK _ _ _ _ _ _ _);refine zH rfl omA omA ?_) | ((with_reducible show zD _ _ _ 251 _ _);refine zB (c_GroupOk (g:=g) (p:=p)) ?_) | ((with_reducible show zD _ _ _ 113 _ _);refine zB (zC2) ?_) | ((with_reducible show zD _ _ _ 224 _ _);refine yG (uL (q:=fun i => !uF i w.tasks) (fv:=.fn 252 [.vptr (wldV F w)]) (fun x _=>c_isGroup1)) (by exact .bool _) (by repeat' first | exact Bors.nil | refine Bors.cons ?_ ?_ | exact Bor.same _ | refine Bor.fn1 ?_ | refine Bor.ptr0 (by (simp;rfl)) ?_) ?_)) <;> simp [-qt,-qd,-ql,rgs,wldV,yS]) | ((with_reducible refine zL ?_ ?_) <;> intro qb <;> (have qp:=qb;try simp only [psq] at qp) <;> simp [-qt,-qd,-ql,rgs,wldV,yS,qb])
 all_goals (try clear hnx)
 all_goals (simp_all [zH2];done)
theorem c_WorldOk {F:Nat → Bool} {w:Wld}:PC ctx.P 28 [.agg (wldV F w)] (.bool (zB1 w)):=by
 refine PC.o okC Tryz.func28 rfl (.bool _) fun h nx hnx => ?_
 try simp [-qt,-qd,-ql,rgs,wldV]
 repeat' first | done | ((first | ((with_reducible show zT _ _ _ _ _ _);refine zA rfl fun _ => ?_) | ((with_reducible show zD _ _ _ 100 _ _);refine zB (c_all_Prog (q:=zF4) (.fn _ _) (fun x _=>c_ProgOk)) ?_) | ((with_reducible show zD _ _ _ 102 _ _);refine zB (c_EventsOk) ?_) | ((with_reducible show zD _ _ _ 103 _ _);refine zB (c_isSpread (s:=w.spread) (F:=F)) ?_) | ((with_reducible show zD _ _ _ 104 _ _);refine yG (c_all_Event (q:=fun e=>inR e.time 0 w.now) (fv:=.fn 105 [.vptr (wldV F w)]) (.fn _ _) (fun x _=>c_WorldOk1)) (by exact .bool _) (by repeat' first | exact Bors.nil | refine Bors.cons ?_ ?_ | exact Bor.same _ | refine Bor.fn1 ?_ | refine Bor.ptr0 (by (simp;rfl)) ?_) ?_) | ((with_reducible show zD _ _ _ 107 _ _);refine zB (c_TimersOk (t:=w.timers) (F:=F)) ?_) | ((with_reducible show zD _ _ _ 108 _ _);refine zB (c_all_Timer (q:=zD3 w) (.bnd _ _) (fun x _=>c_isTimer (F:=F))) ?_) | ((with_reducible show zD _ _ _ 110 _ _);refine zB (c_AftersOk (x:=w.afters) (F:=F)) ?_) | ((with_reducible show zD _ _ _ 111 _ _);refine yG (c_all_After (q:=fun a=>uF a.node w.tree) (fv:=.fn 112 [.vptr (wldV F w)]) (.fn _ _) (fun x _=>c_WorldOk2)) (by exact .bool _) (by repeat' first | exact Bors.nil | refine Bors.cons ?_ ?_ | exact Bor.same _ | refine Bor.fn1 ?_ | refine Bor.ptr0 (by (simp;rfl)) ?_) ?_) | ((with_reducible show zD _ _ _ 114 _ _);refine zB (c_TasksOk) ?_) | ((with_reducible show zD _ _ _ 115 _ _);refine zB (c_all_Task (q:=zH8 w) (.bnd _ _) (fun x _=>c_isTask (F:=F))) ?_) | ((with_reducible show zD _ _ _ 117 _ _);refine zB (c_all_Group (q:=zH2 w) (.bnd _ _) (fun x _=>c_isGroup (F:=F))) ?_) | ((with_reducible show zD _ _ _ 119 _ _);refine zB (c_all_Sight (q:=zH9 w) (.bnd _ _) (fun x _=>c_isSight (F:=F))) ?_) | ((with_reducible show zD _ _ _ 121 _ _);refine zB (c_all_int64 (q:=fun n=>inR n 0 99) (.fn _ _) (fun x _=>c_WorldOk3)) ?_) | ((with_reducible show zD _ _ _ 121 _ _);refine zB (c_all_int64 (q:=fun n=>inR n 0 99) (.fn _ _) (fun x _=>c_WorldOk4)) ?_)) <;> simp [-qt,-qd,-ql,rgs,wldV]) | ((first | (with_reducible refine zL ?_ ?_) | (with_reducible refine zC ?_ ?_)) <;> intro qb <;> (have qp:=qb;try simp only [psq] at qp) <;> simp [-qt,-qd,-ql,rgs,wldV,qb])
 all_goals (try clear hnx)
 all_goals first | (simp_all [zB1];done) | (simp_all [zB1];omega) | (simp only [zB1];grind)
end Go.AE.Tryz
end
section
/- Contracts of the program's requests: what is asked of a world, and what it makes of a copy. -/
set_option maxRecDepth 8000
set_option maxHeartbeats 4000000
namespace Go.AE.Tryz
open Go.Proofs
open List renaming map_take → qt,map_drop → qd,map_tail → ql
theorem yL (X:WI) (w:Wld):(∀ x ∈ zB7 X w,x.one = true) = True:=by simp [zB7]
theorem vV (X:WI) (w:Wld):(zB7 X w).length = 17:=rfl
theorem vG (X:WI) (w:Wld):(zB7 X w).take 17 = zB7 X w:=rfl
theorem zG8 {F:Nat → Bool} {w:Wld}:(∀ x ∈ wldV F w,x.one = true) = True:=by simp [wldV]
theorem wldV_len (F:Nat → Bool) (w:Wld):(wldV F w).length = 17:=rfl
theorem wldV_take (F:Nat → Bool) (w:Wld):(wldV F w).take 17 = wldV F w:=rfl
theorem w_cloned {F:Nat → Bool} {w:Wld} (hs:zB8 w ≤ 1048576):WC ctx.P 124 [.agg (wldV F w)] (fun X=>.agg (zB7 X w)) w:=WC.of (w_clonedA hs)
theorem w_asked {F:Nat → Bool} {w w':Wld} {b:Bool} {g:FuncId} {qs:List (Nat × List AV × List AV)} (hs:zB8 w ≤ 1048576) (hd:zB1 w = true → DoOk ctx.P g qs w w' b) :
 AC ctx.P 29 [.agg (wldV F w),.fn g (qs.map fun q=>.ptr q.1 0)] (fun h _ => ∀ q ∈ qs,h q.1 = some (.obj q.2.1))
 (AskQ qs w w' b):=by
 refine AC.ghostT ?_
 refine AC.o okC Tryz.func29 rfl fun h nx hfr hnx hpre => ?_
 have hqn:∀ q ∈ qs,q.1 < nx:=fun q hq=>hnx q.1 (by rw [hpre q hq];simp)
 by_cases hw:zB1 w = true
 ·try simp [-qt,-qd,-ql,rgs,hw,zG8,wldV_len,wldV_take]
  repeat' first | done | (((with_reducible show zD _ _ _ 28 _ _);refine zB (c_WorldOk (w:=w) (F:=F)) ?_) <;> simp [-qt,-qd,-ql,rgs,hw,zG8,wldV_len,wldV_take]) | fail
  refine call_wc (w_cloned (F:=F) hs) ?_
  intro X1 h1 n1 V1 hid1 hle1 hfr1
  dsimp only at hid1 hle1 hfr1
  have nX:∀ j,j < nx + 9 → j ∉ X1.ids:=fun j hj hm=>by have:=hid1 j hm;omega
  try simp [-qt,-qd,-ql,rgs,hw,yL X1 w,vV,vG]
  generalize hH:upd (upd h1 (nx + 8) _) (nx + 8) (some (Ent.obj (zB7 X1 w))) = H2
  have V2:WV H2 X1 w:=hH ▸ (V1.keep fun id hid=>by have:=hid1 id hid;repeat rw [zF _ _ _ _ (by omega)])
  have o2:H2 (nx + 8) = some (.obj (zB7 X1 w)):=by rw [← hH,zJ]
  have a2:H2 nx = some (.obj (wldV F w)):=by
   rw [← hH]
   repeat rw [zF _ _ _ _ (by omega)]
   rw [hfr1 nx (nX _ (by omega))]
   repeat (first | exact zJ .. | rw [zF _ _ _ _ (by omega)])
  have z2:H2 (nx + 1) = some (.obj [AV.int IntKind.i64 0,AV.nil,AV.nil,AV.nil,AV.nil,AV.nil,AV.nil,AV.nil,AV.int IntKind.i64 0,AV.nil,AV.nil,AV.nil,AV.nil,AV.nil,AV.nil,AV.nil,AV.nil]):=by
   rw [← hH]
   repeat rw [zF _ _ _ _ (by omega)]
   rw [hfr1 (nx + 1) (nX _ (by omega))]
   exact zJ ..
  have K2:∀ j,j < nx → H2 j = h j:=fun j hj=>by
   rw [← hH]
   repeat rw [zF _ _ _ _ (by omega)]
   rw [hfr1 j (nX _ (by omega))]
   repeat rw [zF _ _ _ _ (by omega)]
  clear hH
  have qn:∀ j,nx ≤ j → ∀ q ∈ qs,j ≠ q.1:=fun j hj q hq=>by have:=hqn q hq;omega
  refine yP (hd hw (nx + 8) X1) ⟨o2,V2,fun q hq=>⟨by dsimp only;rw [K2 _ (hqn q hq)];exact hpre q hq,by have:=hqn q hq;omega⟩⟩ ?_
  rintro r h3 n3 ⟨rfl,hb,hq3,hf3⟩ hle3 hfr3
  dsimp only at hb hf3 hle3
  have a3:=hf3 nx (by omega) (by omega) (nX _ (by omega)) (qn _ (by omega))
  have z3:=hf3 (nx + 1) (by omega) (by omega) (nX _ (by omega)) (qn _ (by omega))
  rw [a2] at a3
  rw [z2] at z3
  have K3:∀ j,j < nx → (∀ q ∈ qs,j ≠ q.1) → h3 j = h j:=fun j hj hq=>by rw [hf3 j (by omega) (by omega) (nX _ (by omega)) hq,K2 j hj]
  cases b with
  | false =>
    try simp [-qt,-qd,-ql,rgs,a3,z3,zG8,wldV_len,wldV_take]
    refine call_wc (w_cloned (F:=F) hs) ?_
    intro X4 h4 n4 V4 hid4 hle4 hfr4
    dsimp only at hid4 hle4 hfr4
    have z4:=hfr4 (nx + 1) (fun hm=>by have:=hid4 _ hm;omega)
    rw [z3] at z4
    try simp [-qt,-qd,-ql,rgs,z4,yL X4 w,vV,vG]
    have e1:askW w w' false = w:=by simp [askW,hw]
    have e2:askB w w' false = false:=by simp [askB]
    refine .done ⟨⟨X4,by rw [e1,e2],by rw [e1];exact V4.keep fun id hid=>(by have:=hid4 id hid;repeat rw [zF _ _ _ _ (by omega)]),fun id hid=>by have:=hid4 id hid;omega⟩,fun q hq => ?_,fun j hj hq => ?_⟩
    ·have:=hqn q hq
     rw [if_pos hw,zF _ _ _ _ (by omega),hfr4 _ (fun hm=>by have:=hid4 _ hm;omega)]
     exact hq3 q hq
    ·rw [zF _ _ _ _ (by omega),hfr4 _ (fun hm=>by have:=hid4 _ hm;omega)]
     exact K3 j hj hq
  | true =>
    obtain ⟨X3,o3,V3,hid3⟩:=hb rfl
    try simp [-qt,-qd,-ql,rgs,a3,z3,o3,yL X3 w',vV,vG]
    refine yG (c_WorldOk (w:=w') (F:=FF)) (.bool _) ?hb2 ?_
    case hb2=>exact .cons (.agg1 V3.bors) .nil
    by_cases hw2:zB1 w' = true
    ·try simp [-qt,-qd,-ql,rgs,a3,z3,o3,hw2,yL X3 w',vV,vG]
     have e1:askW w w' true = w':=by simp [askW,hw,hw2]
     have e2:askB w w' true = true:=by simp [askB,hw,hw2]
     have hb3:∀ id ∈ X3.ids,nx + 9 ≤ id ∧ id < n3:=fun id hid=>by
      rcases hid3 id hid with q | q
      ·have:=hid1 id q;omega
      ·omega
     refine .done ⟨⟨X3,by rw [e1,e2],by rw [e1];exact V3.keep fun id hid=>(by have:=hb3 id hid;rw [zF _ _ _ _ (by omega)]),fun id hid=>by have:=hb3 id hid;omega⟩,fun q hq => ?_,fun j hj hq => ?_⟩
     ·have:=hqn q hq
      rw [if_pos hw,zF _ _ _ _ (by omega)]
      exact hq3 q hq
     ·rw [zF _ _ _ _ (by omega)]
      exact K3 j hj hq
    ·try simp [-qt,-qd,-ql,rgs,a3,z3,o3,hw2,zG8,wldV_len,wldV_take]
     refine call_wc (w_cloned (F:=F) hs) ?_
     intro X4 h4 n4 V4 hid4 hle4 hfr4
     dsimp only at hid4 hle4 hfr4
     have z4:=hfr4 (nx + 1) (fun hm=>by have:=hid4 _ hm;omega)
     rw [z3] at z4
     try simp [-qt,-qd,-ql,rgs,z4,yL X4 w,vV,vG]
     have e1:askW w w' true = w:=by simp [askW,hw,hw2]
     have e2:askB w w' true = false:=by simp [askB,hw2]
     refine .done ⟨⟨X4,by rw [e1,e2],by rw [e1];exact V4.keep fun id hid=>(by have:=hid4 id hid;repeat rw [zF _ _ _ _ (by omega)]),fun id hid=>by have:=hid4 id hid;omega⟩,fun q hq => ?_,fun j hj hq => ?_⟩
     ·have:=hqn q hq
      rw [if_pos hw,zF _ _ _ _ (by omega),hfr4 _ (fun hm=>by have:=hid4 _ hm;omega)]
      exact hq3 q hq
     ·rw [zF _ _ _ _ (by omega),hfr4 _ (fun hm=>by have:=hid4 _ hm;omega)]
      exact K3 j hj hq
 ·try simp [-qt,-qd,-ql,rgs,hw,zG8,wldV_len,wldV_take]
  repeat' first | done | (((with_reducible show zD _ _ _ 28 _ _);refine zB (c_WorldOk (w:=w) (F:=F)) ?_) <;> simp [-qt,-qd,-ql,rgs,hw,zG8,wldV_len,wldV_take]) | fail
  exact AskQ.bad hw hpre hqn (fun j hj=>by repeat rw [zF _ _ _ _ (by omega)]) (by omega)
end Go.AE.Tryz
end
section
/- Contracts of the reference's readers: slots, heaps, timers. -/
set_option maxRecDepth 8000
set_option maxHeartbeats 2000000
namespace Go.AE.Tryz
open Go.Proofs
open List renaming map_take → qt,map_drop → qd,map_tail → ql
theorem zA2 {x lo hi:Int}:PC ctx.P 205 [.int .i64 x,.int .i64 lo,.int .i64 hi] (.bool (inR x lo hi)):=by
 refine PC.o okC Tryz.func205 rfl (.bool _) fun h nx hnx => ?_
 try simp [-qt,-qd,-ql,rgs,inR]
 repeat' first | done | ((with_reducible refine zL ?_ ?_) <;> intro qb <;> (have qp:=qb;try simp only [psq] at qp) <;> simp [-qt,-qd,-ql,rgs,inR,qb])
theorem zM6 {F:Nat → Bool} {s:Slt}:PC ctx.P 360 [.agg (uD F s)] (.bool (zF0 s)):=by
 refine PC.lim (n:=s.ages.length) (x:=.agg (uD F s)) (by simp) (.agg (x:=.view (F 8) 1 (s.ages.map iv)) (by simp [uD]) (.here (by simp))) ⟨_,Tryz.func360,by kernel_rfl,by kernel_rfl⟩ fun hlim => ?_
 refine PC.o okC Tryz.func360 rfl (.bool _) fun h nx hnx => ?_
 try simp [-qt,-qd,-ql,rgs,uD]
 repeat' first | done | ((first | ((with_reducible show zT _ _ _ _ _ _);refine zA rfl fun _ => ?_) | ((with_reducible show zD _ _ _ 205 _ _);refine zB (zA2) ?_)) <;> simp [-qt,-qd,-ql,rgs,uD]) | ((first | (with_reducible refine zL ?_ ?_) | (with_reducible refine zC ?_ ?_)) <;> intro qb <;> (have qp:=qb;try simp only [psq] at qp) <;> simp [-qt,-qd,-ql,rgs,uD,qb])
 all_goals first | (clear hnx;simp [zF0];grind) | skip
 refine zR [2,3,18,19,20,21,22,23,24,25,26,27,28,29,30,31] (s.ages.length) (fun (i:Nat) a=>[(3,.int .i64 i)]) (fun i_ a_ h_ _=>(fun i (_:Unit) _=>((s.ages.drop i).any fun a => !inR a 0 1000000) = s.ages.any fun a => !inR a 0 1000000) i_ a_ h_) (()) (by simp) ?_ zO (Nat.le_refl _) ?_
 ·simp
 ·intro i a tm h' n' hle hJ hE hn' next hnx
  try dsimp only at hJ
  have hK:KeepB nx h' h:=KeepB.sub hE zG (by omega)
  simp [-qt,-qd,-ql]
  have e1:h' (nx) = some (.obj (uD F s)):=by have:=hE (nx) (by omega);simpa [uD] using this
  have e1n:∀ k,((nx) = n' + k) = False:=fun k=>by simp only [eq_iff_iff,iff_false];omega
  have e1m:((nx) = n') = False:=by simp only [eq_iff_iff,iff_false];omega
  try simp [-qt,-qd,-ql,rgs,uD,iv,e1,e1n,e1m]
  repeat' first | done | ((first | ((with_reducible show zT _ _ _ _ _ _);refine zA rfl fun _ => ?_) | ((with_reducible show zK _ _ _ _ _ _ _);refine zH rfl omA omA ?_) | ((with_reducible show zD _ _ _ 205 _ _);refine zB (zA2) ?_)) <;> simp [-qt,-qd,-ql,rgs,uD,iv,e1,e1n,e1m]) | ((with_reducible refine zC ?_ ?_) <;> intro qb <;> (have qp:=qb;try simp only [psq] at qp) <;> simp [-qt,-qd,-ql,rgs,uD,iv,e1,e1n,e1m,qb])
  all_goals
   first
   | (have hlt:i < s.ages.length:=(by first | omega | (simp at *; omega))
      rw [zQ hlt] at hJ
      first
      | (refine hnx.go (()) ?_ ?_ ?_ ?_ ?_ ?_;omega;(simp [zI hlt hlim]);(simp);exact zG;(first | omega | (simp;omega));(try dsimp only);clear hnx;first | ((try simp only [List.drop_length,Int.toNat_natCast,List.any_cons,List.any_nil,zF0] at hJ ⊢);grind) | (simp_all [List.any_cons,List.any_nil,zF0];done) | (simp_all;omega))
      | (refine ⟨?_,zG⟩;clear hnx;first | ((try simp only [List.drop_length,Int.toNat_natCast,List.any_cons,List.any_nil,zF0] at hJ ⊢);grind) | (simp_all [List.any_cons,List.any_nil,zF0];done) | (simp_all;omega)))
   | (obtain rfl:i = s.ages.length:=(by first | omega | (simp at *; omega))
      refine ⟨?_,zG⟩;clear hnx;first | ((try simp only [List.drop_length,Int.toNat_natCast,List.any_cons,List.any_nil,zF0] at hJ ⊢);grind) | (simp_all [List.any_cons,List.any_nil,zF0];done) | (simp_all;omega))
theorem s_UsedIn {F:Nat → Bool} {s:Slt}:PC ctx.P 361 [.agg (uD F s)] (.int .i64 (if zF0 s then cntB id s.used else -1)):=by
 refine PC.lim (n:=s.used.length) (x:=.agg (uD F s)) (by simp) (.agg (x:=.view (F 9) 1 (s.used.map bv)) (by simp [uD]) (.here (by simp))) ⟨_,Tryz.func361,by kernel_rfl,by kernel_rfl⟩ fun hlim => ?_
 refine PC.o okC Tryz.func361 rfl (.int _ _) fun h nx hnx => ?_
 try simp [-qt,-qd,-ql,rgs,uD]
 repeat' first | done | (((with_reducible show zD _ _ _ 360 _ _);refine zB (zM6 (s:=s) (F:=F)) ?_) <;> simp [-qt,-qd,-ql,rgs,uD]) | ((with_reducible refine zC ?_ ?_) <;> intro qb <;> (have qp:=qb;try simp only [psq] at qp) <;> simp [-qt,-qd,-ql,rgs,uD,qb])
 all_goals first | (clear hnx;simp_all;done) | skip
 refine zR [3,4,8,9,10,11,12,13,14,15,16,17,18,19,20,21] (s.used.length) (fun (i:Nat) a=>[(4,.int .i64 i),(3,.int .i64 a)]) (fun i_ a_ h_ _=>(fun i (a:Int) _=>a + cntB id (s.used.drop i) = cntB id s.used ∧ 0 ≤ a ∧ a ≤ i) i_ a_ h_) (0) (by simp) ?_ zO (Nat.le_refl _) ?_
 ·simp
 ·intro i a tm h' n' hle hJ hE hn' next hnx
  try dsimp only at hJ
  have hK:KeepB nx h' h:=KeepB.sub hE zG (by omega)
  simp [-qt,-qd,-ql]
  have e1:h' (nx) = some (.obj (uD F s)):=by have:=hE (nx) (by omega);simpa [uD] using this
  have e1n:∀ k,((nx) = n' + k) = False:=fun k=>by simp only [eq_iff_iff,iff_false];omega
  have e1m:((nx) = n') = False:=by simp only [eq_iff_iff,iff_false];omega
  try simp [-qt,-qd,-ql,rgs,uD,bv,e1,e1n,e1m]
  repeat' first | done | ((first | ((with_reducible show zT _ _ _ _ _ _);refine zA rfl fun _ => ?_) | ((with_reducible show zK _ _ _ _ _ _ _);refine zH rfl omA omA ?_)) <;> simp [-qt,-qd,-ql,rgs,uD,bv,e1,e1n,e1m]) | ((with_reducible refine zC ?_ ?_) <;> intro qb <;> (have qp:=qb;try simp only [psq] at qp) <;> simp [-qt,-qd,-ql,rgs,uD,bv,e1,e1n,e1m,qb])
  ·rw [zQ (by omega)] at hJ
   refine hnx.go (a + 1) (by omega) (by simp [zI (i:=i) (n:=s.used.length) (by omega) hlim,zE (x:=a + 1) (by simp only [LIM] at hlim;omega)]) (by simp) zG (by first | omega | (simp;omega)) ?_
   try dsimp only
   simp [cntB,qb] at hJ ⊢
   omega
  ·rw [zQ (by omega)] at hJ
   refine hnx.go (a) (by omega) (by simp [zI (i:=i) (n:=s.used.length) (by omega) hlim]) (by simp) zG (by first | omega | (simp;omega)) ?_
   try dsimp only
   simp [cntB,qb] at hJ ⊢
   omega
  ·refine ⟨?_,zG⟩
   rw [List.drop_eq_nil_of_le (by omega)] at hJ
   simp [cntB, *] at hJ ⊢
   omega
theorem s_Holds {F:Nat → Bool} {s:Slt} {x:Han}:PC ctx.P 362 [.agg (uD F s),.agg (zG0 x)] (.bool (zF0 s && zA4 s x)):=by
 refine PC.lim (n:=s.ages.length) (x:=.agg (uD F s)) (by simp) (.agg (x:=.view (F 8) 1 (s.ages.map iv)) (by simp [uD]) (.here (by simp))) ⟨_,Tryz.func362,by kernel_rfl,by kernel_rfl⟩ fun hlim => ?_
 by_cases hs:zF0 s = true
 ·have hl:=sltOk_len hs
  refine PC.o okC Tryz.func362 rfl (.bool _) fun h nx hnx => ?_
  try simp [-qt,-qd,-ql,rgs,uD,zG0,iv,bv,hs,yA hlim]
  repeat' first | done | ((first | ((with_reducible show zK _ _ _ _ _ _ _);refine zH rfl omA omA ?_) | ((with_reducible show zD _ _ _ 360 _ _);refine zB (zM6 (s:=s) (F:=F)) ?_) | ((with_reducible show zD _ _ _ 205 _ _);refine zB (zA2) ?_) | (with_reducible refine zP (i:=1) [(0,[],[]),(1,[],[]),(2,[],[]),(3,[],[]),(4,[],[]),(5,[],[]),(6,[],[]),(7,[],[]),(8,[],[]),(9,[],[]),(10,[],[]),(11,[],[]),(12,[],[]),(13,[],[]),(14,[],[]),(15,[],[]),(16,[],[]),(17,[],[]),(18,[],[]),(19,[],[]),(20,[],[]),(21,[],[]),(22,[],[]),(23,[],[]),(24,[],[]),(25,[],[]),(26,[],[]),(27,[],[]),(28,[],[]),(29,[],[]),(30,[],[])] (by kernel_rfl) ?_)) <;> simp [-qt,-qd,-ql,rgs,uD,zG0,iv,bv,hs,yA hlim]) | ((with_reducible refine yQ ?_ ?_) <;> intro qb <;> (have qp:=qb;try simp only [psq] at qp) <;> simp [-qt,-qd,-ql,rgs,uD,zG0,iv,bv,hs,yA hlim,qb])
  all_goals (try clear hnx)
  all_goals (simp_all [zA4,uF];done)
 ·refine PC.o okC Tryz.func362 rfl (.bool _) fun h nx hnx => ?_
  try simp [-qt,-qd,-ql,rgs,hs]
  repeat' first | done | ((first | ((with_reducible show zD _ _ _ 360 _ _);refine zB (zM6 (s:=s) (F:=F)) ?_) | (with_reducible refine zP (i:=1) [(0,[],[]),(1,[],[]),(2,[],[]),(3,[],[]),(4,[],[]),(5,[],[]),(6,[],[]),(7,[],[]),(8,[],[]),(9,[],[]),(10,[],[]),(11,[],[]),(12,[],[]),(13,[],[]),(14,[],[]),(15,[],[]),(16,[],[]),(17,[],[]),(18,[],[]),(19,[],[]),(20,[],[]),(21,[],[]),(22,[],[]),(23,[],[]),(24,[],[]),(25,[],[]),(26,[],[]),(27,[],[]),(28,[],[]),(29,[],[]),(30,[],[])] (by kernel_rfl) ?_)) <;> simp [-qt,-qd,-ql,rgs,hs]) | fail
  all_goals (try clear hnx)
end Go.AE.Tryz
end
section
/- Contracts of the reference's readers: heaps, timers, trees, events. -/
set_option maxRecDepth 8000
set_option maxHeartbeats 4000000
namespace Go.AE.Tryz
open Go.Proofs
open List renaming map_take → qt,map_drop → qd,map_tail → ql
theorem s_l3Ahead {a b:Twg}:PC ctx.P 414 [.agg (zZ a),.agg (zZ b)] (.bool (decide (uX a b < 0))):=by
 rw [twgCmp_lt]
 refine PC.o okC Tryz.func414 rfl (.bool _) fun h nx hnx => ?_
 try simp [-qt,-qd,-ql,rgs,zZ]
 repeat' first | done | ((with_reducible refine zL ?_ ?_) <;> intro qb <;> (have qp:=qb;try simp only [psq] at qp) <;> simp [-qt,-qd,-ql,rgs,zZ,qb])
 all_goals (try clear hnx)
theorem zJ7 {p:Bool} {l:List Twg} (hp:0 < l.length) (h0:0 ≤ (gt l 0).lefts) (h1:(gt l 0).lefts < l.length) :
 PC ctx.P 413 [.view p 3 (l.map zZ)] (.tup [.view p 3 ((l.tail.take (gt l 0).lefts.toNat).map zZ),.view p 3 ((l.drop ((gt l 0).lefts.toNat + 1)).map zZ),.bool true]):=by
 refine PC.lim (n:=l.length) (x:=.view p 3 (l.map zZ)) (by simp) (.here (by simp)) ⟨_,Tryz.func413,by kernel_rfl,by kernel_rfl⟩ fun hlim => ?_
 simp only [LIM] at hlim
 have q1:(1 + (gt l 0).lefts).toNat = (gt l 0).lefts.toNat + 1:=by omega
 have q2:inR (gt l 0).lefts 0 ((l.length:Int) - 1) = true:=by rw [vX];omega
 refine PC.o okC Tryz.func413 rfl (.tup _ (by simp [-List.map_take,-List.map_drop];exact ⟨.vmap yJ,.vmap yJ⟩)) fun h nx hnx => ?_
 try simp [-qt,-qd,-ql,rgs,zZ,zE (x:=1 + (gt l 0).lefts) (by omega),zE (x:=(l.length:Int) - 1) (by omega),q1,q2]
 repeat' first | done | ((first | ((with_reducible show zT _ _ _ _ _ _);refine zA rfl fun _ => ?_) | ((with_reducible show zK _ _ _ _ _ _ _);refine zH rfl omA omA ?_) | ((with_reducible show zG9 _ _ _ _ _ _ _ _ _ _ _);refine sliceI_from rfl omA omA ?_) | ((with_reducible show zG9 _ _ _ _ _ _ _ _ _ _ _);refine sliceI_mid rfl omA omA omA ?_) | ((with_reducible show zD _ _ _ 205 _ _);refine zB (zA2) ?_) | (with_reducible refine zP (i:=4) [(0,[],[]),(1,[],[]),(2,[],[]),(3,[],[]),(4,[],[]),(5,[],[]),(6,[],[]),(7,[],[]),(8,[],[]),(9,[],[]),(10,[],[])] (by kernel_rfl) ?_)) <;> simp [-qt,-qd,-ql,rgs,zZ,zE (x:=1 + (gt l 0).lefts) (by omega),zE (x:=(l.length:Int) - 1) (by omega),q1,q2]) | fail
theorem s_l3PartsN {p:Bool} {l:List Twg} (hp:0 < l.length) (h0:¬ (0 ≤ (gt l 0).lefts ∧ (gt l 0).lefts < l.length)) :
 PC ctx.P 413 [.view p 3 (l.map zZ)] (.tup [.view true 3 [],.view true 3 [],.bool false]):=by
 refine PC.lim (n:=l.length) (x:=.view p 3 (l.map zZ)) (by simp) (.here (by simp)) ⟨_,Tryz.func413,by kernel_rfl,by kernel_rfl⟩ fun hlim => ?_
 simp only [LIM] at hlim
 have q2:inR (gt l 0).lefts 0 ((l.length:Int) - 1) = false:=by rw [zR6];omega
 refine PC.o okC Tryz.func413 rfl (.tup _ (by simp;exact .view' (by simp))) fun h nx hnx => ?_
 try simp [-qt,-qd,-ql,rgs,zZ,zE (x:=(l.length:Int) - 1) (by omega),q2]
 repeat' first | done | ((first | ((with_reducible show zT _ _ _ _ _ _);refine zA rfl fun _ => ?_) | ((with_reducible show zK _ _ _ _ _ _ _);refine zH rfl omA omA ?_) | ((with_reducible show zD _ _ _ 205 _ _);refine zB (zA2) ?_)) <;> simp [-qt,-qd,-ql,rgs,zZ,zE (x:=(l.length:Int) - 1) (by omega),q2]) | fail
theorem s_l3RankN {p:Bool}:∀ (n:Nat) (l:List Twg),l.length ≤ n → PC ctx.P 401 [.view p 3 (l.map zZ)] (.int .i64 (rkI l)):=by
 intro n
 induction n with
 | zero =>
   intro l hl
   obtain rfl:l = []:=by simpa using hl
   refine PC.o okC Tryz.func401 rfl (.int _ _) fun h nx hnx => ?_
   try simp [-qt,-qd,-ql,rgs,rkI_nil]
   repeat' first | done | (((with_reducible show zT _ _ _ _ _ _);refine zA rfl fun _ => ?_) <;> simp [-qt,-qd,-ql,rgs,rkI_nil]) | fail
 | succ n ih =>
   intro l hl
   refine PC.lim (n:=l.length) (x:=.view p 3 (l.map zZ)) (by simp) (.here (by simp)) ⟨_,Tryz.func401,by kernel_rfl,by kernel_rfl⟩ fun hlim => ?_
   by_cases hp:0 < l.length
   ·by_cases hb:0 ≤ (gt l 0).lefts ∧ (gt l 0).lefts < l.length
    ·have i1:=ih (l.tail.take (gt l 0).lefts.toNat) (by simp;omega)
     have i2:=ih (l.drop ((gt l 0).lefts.toNat + 1)) (by simp;omega)
     have e:=rkI_step hp hb.1 hb.2
     have hr:=rkI_le (l.drop ((gt l 0).lefts.toNat + 1))
     simp only [LIM] at hlim
     simp only [List.length_drop] at hr
     refine PC.o okC Tryz.func401 rfl (.int _ _) fun h nx hnx => ?_
     try simp [-qt,-qd,-ql,rgs,zZ,zE (x:=rkI (l.drop ((gt l 0).lefts.toNat + 1)) + 1) (by omega)]
     repeat' first | done | ((first | ((with_reducible show zT _ _ _ _ _ _);refine zA rfl fun _ => ?_) | ((with_reducible show zK _ _ _ _ _ _ _);refine zH rfl omA omA ?_) | ((with_reducible show zD _ _ _ 413 _ _);refine zB (zJ7 hp hb.1 hb.2) ?_) | ((with_reducible show zD _ _ _ 414 _ _);refine zB (s_l3Ahead (a:=gt l 0)) ?_) | (refine zB (i1) ?_) | (refine zB (i2) ?_) | (with_reducible refine zP (i:=4) [(0,[],[]),(1,[],[]),(2,[],[]),(3,[],[]),(4,[],[]),(5,[],[]),(6,[],[]),(7,[],[]),(8,[],[]),(9,[],[]),(10,[],[]),(11,[],[]),(12,[],[]),(13,[],[]),(14,[],[]),(15,[],[]),(16,[],[]),(17,[],[]),(18,[],[]),(19,[],[]),(20,[],[]),(21,[],[]),(22,[],[]),(23,[],[]),(24,[],[]),(25,[],[]),(26,[],[]),(27,[],[]),(28,[],[]),(29,[],[]),(30,[],[]),(31,[],[])] (by kernel_rfl) ?_)) <;> simp [-qt,-qd,-ql,rgs,zZ,zE (x:=rkI (l.drop ((gt l 0).lefts.toNat + 1)) + 1) (by omega)]) | ((first | (with_reducible refine yQ ?_ ?_) | (with_reducible refine zL ?_ ?_) | (with_reducible refine zC ?_ ?_)) <;> intro qb <;> (have qp:=qb;try simp only [psq] at qp) <;> simp [-qt,-qd,-ql,rgs,zZ,zE (x:=rkI (l.drop ((gt l 0).lefts.toNat + 1)) + 1) (by omega),qb])
     all_goals (clear ih i1 i2 hnx;rw [e];grind)
    ·have e:=rkI_bad hp hb
     refine PC.o okC Tryz.func401 rfl (.int _ _) fun h nx hnx => ?_
     try simp [-qt,-qd,-ql,rgs,e]
     repeat' first | done | ((first | ((with_reducible show zT _ _ _ _ _ _);refine zA rfl fun _ => ?_) | ((with_reducible show zD _ _ _ 413 _ _);refine zB (s_l3PartsN hp hb) ?_) | (with_reducible refine zP (i:=4) [(0,[],[]),(1,[],[]),(2,[],[]),(3,[],[]),(4,[],[]),(5,[],[]),(6,[],[]),(7,[],[]),(8,[],[]),(9,[],[]),(10,[],[]),(11,[],[]),(12,[],[]),(13,[],[]),(14,[],[]),(15,[],[]),(16,[],[]),(17,[],[]),(18,[],[]),(19,[],[]),(20,[],[]),(21,[],[]),(22,[],[]),(23,[],[]),(24,[],[]),(25,[],[]),(26,[],[]),(27,[],[]),(28,[],[]),(29,[],[]),(30,[],[]),(31,[],[])] (by kernel_rfl) ?_)) <;> simp [-qt,-qd,-ql,rgs,e]) | ((with_reducible refine zC ?_ ?_) <;> intro qb <;> (have qp:=qb;try simp only [psq] at qp) <;> simp [-qt,-qd,-ql,rgs,e,qb])
     all_goals omega
   ·obtain rfl:l = []:=by cases l <;> simp at hp ⊢
    refine PC.o okC Tryz.func401 rfl (.int _ _) fun h nx hnx => ?_
    try simp [-qt,-qd,-ql,rgs,rkI_nil]
    repeat' first | done | (((with_reducible show zT _ _ _ _ _ _);refine zA rfl fun _ => ?_) <;> simp [-qt,-qd,-ql,rgs,rkI_nil]) | fail
theorem s_l3Rank {p:Bool} {l:List Twg}:PC ctx.P 401 [.view p 3 (l.map zZ)] (.int .i64 (rkI l)):=s_l3RankN _ _ (Nat.le_refl _)
theorem s_l3Twice {p:Bool} {l:List Twg}:PC ctx.P 400 [.view p 3 (l.map zZ)] (.bool (!zL2 l)):=by
 refine PC.lim (n:=l.length) (x:=.view p 3 (l.map zZ)) (by simp) (.here (by simp)) ⟨_,Tryz.func400,by kernel_rfl,by kernel_rfl⟩ fun hlim => ?_
 refine PC.o okC Tryz.func400 rfl (.bool _) fun h nx hnx => ?_
 try simp [-qt,-qd,-ql,rgs]
 refine zR [2,3,4,5,6,7,8,9,10,11,12,13,14,15,16,17,18,19,20,21,22,23,24,25,26] (l.length) (fun (i:Nat) a=>[(3,.int .i64 i)]) (fun i_ a_ h_ _=>(fun i (_:Unit) _=>uA (fun i x => !(decide (0 ≤ zH3 (l.take i.toNat) x.seq))) (l.drop i) i = zL2 l) i_ a_ h_) (()) (by simp) ?_ zO (Nat.le_refl _) ?_
 ·simp [zL2]
 ·intro i a tm h' n' hle hJ hE hn' next hnx
  try dsimp only at hJ
  have hK:KeepB nx h' h:=KeepB.sub hE zG (by omega)
  simp [-qt,-qd,-ql]
  repeat' first | done | (((with_reducible show zT _ _ _ _ _ _);refine zA rfl fun _ => ?_) <;> simp [-qt,-qd,-ql,rgs]) | ((with_reducible refine zC ?_ ?_) <;> intro qb <;> (have qp:=qb;try simp only [psq] at qp) <;> simp [-qt,-qd,-ql,rgs,qb])
  ·refine zR [2,4,11,12,13,14,15,16,17,18,19,20,21,22,23,24,25,26] (i) (fun (i:Nat) a=>[(4,.int .i64 i)]) (fun i_ a_ h_ _=>(fun j (_:Unit) _=>yH (fun y=>y.seq == (gt l (i:Int)).seq) ((l.take i).drop j) j = zH3 (l.take i) (gt l (i:Int)).seq) i_ a_ h_) (()) (by simp) ?_ zO (Nat.le_refl _) ?_
   ·simp [zH3]
   ·intro j b tm2 h2 n2 hle2 hJ2 hE2 hn2 next2 hnx2
    try dsimp only at hJ2
    have hK2:KeepB nx h2 h:=KeepB.sub hE2 zG (by omega)
    simp [-qt,-qd,-ql]
    repeat' first | done | ((first | ((with_reducible show zK _ _ _ _ _ _ _);refine zH rfl omA omA ?_) | (with_reducible refine zP (i:=7) [(0,[],[]),(1,[],[]),(2,[],[]),(3,[],[]),(4,[],[]),(5,[],[]),(6,[],[]),(7,[],[]),(8,[],[]),(9,[],[]),(10,[],[])] (by kernel_rfl) ?_)) <;> simp [-qt,-qd,-ql,rgs,zZ]) | ((with_reducible refine zC ?_ ?_) <;> intro qb <;> (have qp:=qb;try simp only [psq] at qp) <;> simp [-qt,-qd,-ql,rgs,zZ,qb])
    ·have r:=idx_here (by omega) (by omega) hJ2 (by simp;omega)
     exact ⟨seqs_false (by omega) hJ (by omega),zG⟩
    ·refine hnx2.go () (by omega) (by simp [zI (show j < l.length by omega) hlim]) (by simp) zG (by first | omega | (simp;omega)) ?_
     exact idx_on (by omega) (by omega) hJ2 (by simp;omega)
    ·have r:=idx_end (by omega) hJ2
     refine hnx.go () (by omega) (by simp [zI (show i < l.length by omega) hlim]) (by simp) zG (by first | omega | (simp;omega)) ?_
     exact seqs_next (by omega) hJ (by omega)
  ·refine ⟨?_,zG⟩
   rw [List.drop_eq_nil_of_le (by omega)] at hJ
   exact hJ.symm
theorem s_HeapOk {p:Bool} {l:List Twg}:PC ctx.P 358 [.view p 3 (l.map zZ)] (.bool (zF6 l)):=by
 rw [heapOk_eq]
 refine PC.o okC Tryz.func358 rfl (.bool _) fun h nx hnx => ?_
 try simp [-qt,-qd,-ql,rgs]
 repeat' first | done | ((first | ((with_reducible show zT _ _ _ _ _ _);refine zA rfl fun _ => ?_) | ((with_reducible show zD _ _ _ 400 _ _);refine zB (s_l3Twice) ?_) | ((with_reducible show zD _ _ _ 401 _ _);refine zB (s_l3Rank) ?_)) <;> simp [-qt,-qd,-ql,rgs]) | ((with_reducible refine zL ?_ ?_) <;> intro qb <;> (have qp:=qb;try simp only [psq] at qp) <;> simp [-qt,-qd,-ql,rgs,qb])
 all_goals (try clear hnx)
 all_goals (simp_all [];omega)
theorem s_l4At {F:Nat → Bool} {t:Tms} {s:Int}:PC ctx.P 285 [.agg (vM F t),.int .i64 s] (.int .i64 (yE t.list s)):=by
 refine PC.lim (n:=t.list.length) (x:=.agg (vM F t)) (by simp) (.agg (x:=.view (F 7) 5 (t.list.map yN)) (by simp [vM]) (.here (by simp))) ⟨_,Tryz.func285,by kernel_rfl,by kernel_rfl⟩ fun hlim => ?_
 refine PC.o okC Tryz.func285 rfl (.int _ _) fun h nx hnx => ?_
 try simp [-qt,-qd,-ql,rgs,vM]
 refine zR [4,5,6,7,8,9,10,11,12,13,14,15,16,17,18,19,20,21] (t.list.length) (fun (i:Nat) a=>[(5,.int .i64 i)]) (fun i_ a_ h_ _=>(fun i (_:Unit) _=>yH (fun x=>x.seq == s) (t.list.drop i) i = yE t.list s) i_ a_ h_) (()) (by simp) ?_ zO (Nat.le_refl _) ?_
 ·simp [yE]
 ·intro i a tm h' n' hle hJ hE hn' next hnx
  try dsimp only at hJ
  have hK:KeepB nx h' h:=KeepB.sub hE zG (by omega)
  simp [-qt,-qd,-ql]
  have e1:h' (nx) = some (.obj (vM F t)):=by have:=hE (nx) (by omega);simpa [vM] using this
  have e1n:∀ k,((nx) = n' + k) = False:=fun k=>by simp only [eq_iff_iff,iff_false];omega
  have e1m:((nx) = n') = False:=by simp only [eq_iff_iff,iff_false];omega
  try simp [-qt,-qd,-ql,rgs,vM,yN,e1,e1n,e1m]
  repeat' first | done | ((first | ((with_reducible show zT _ _ _ _ _ _);refine zA rfl fun _ => ?_) | ((with_reducible show zK _ _ _ _ _ _ _);refine zH rfl omA omA ?_)) <;> simp [-qt,-qd,-ql,rgs,vM,yN,e1,e1n,e1m]) | ((with_reducible refine zC ?_ ?_) <;> intro qb <;> (have qp:=qb;try simp only [psq] at qp) <;> simp [-qt,-qd,-ql,rgs,vM,yN,e1,e1n,e1m,qb])
  all_goals
   first
   | (have hlt:i < t.list.length:=(by first | omega | (simp at *; omega))
      rw [zQ hlt] at hJ
      first
      | (refine hnx.go (()) ?_ ?_ ?_ ?_ ?_ ?_;omega;(simp [zI hlt hlim]);(simp);exact zG;(first | omega | (simp;omega));(try dsimp only);clear hnx;first | ((try simp only [List.drop_length,Int.toNat_natCast,yH] at hJ ⊢);grind) | (simp_all [yH];done) | (simp_all;omega))
      | (refine ⟨?_,zG⟩;clear hnx;first | ((try simp only [List.drop_length,Int.toNat_natCast,yH] at hJ ⊢);grind) | (simp_all [yH];done) | (simp_all;omega)))
   | (obtain rfl:i = t.list.length:=(by first | omega | (simp at *; omega))
      refine ⟨?_,zG⟩;clear hnx;first | ((try simp only [List.drop_length,Int.toNat_natCast,yH] at hJ ⊢);grind) | (simp_all [yH];done) | (simp_all;omega))
theorem s_l4Timer {x:Tmr} {n:Int} (h : -9223372036854775808 < n ∧ n < 9223372036854775808):PC ctx.P 359 [.agg (yN x),.int .i64 n] (.bool (tmr1 x n)):=by
 refine PC.o okC Tryz.func359 rfl (.bool _) fun h nx hnx => ?_
 try simp [-qt,-qd,-ql,rgs,yN,zE (x:=n - 1) (by omega)]
 repeat' first | done | (((with_reducible show zD _ _ _ 205 _ _);refine zB (zA2) ?_) <;> simp [-qt,-qd,-ql,rgs,yN,zE (x:=n - 1) (by omega)]) | ((with_reducible refine zL ?_ ?_) <;> intro qb <;> (have qp:=qb;try simp only [psq] at qp) <;> simp [-qt,-qd,-ql,rgs,yN,zE (x:=n - 1) (by omega),qb])
 all_goals (try clear hnx)
 all_goals (simp_all [tmr1];done)
theorem zI8 {F:Nat → Bool} {t:Tms}:PC ctx.P 275 [.agg (vM F t)] (.bool (vZ t)):=by
 refine PC.lim (n:=t.list.length) (x:=.agg (vM F t)) (by simp) (.agg (x:=.view (F 7) 5 (t.list.map yN)) (by simp [vM]) (.here (by simp))) ⟨_,Tryz.func275,by kernel_rfl,by kernel_rfl⟩ fun hlim => ?_
 refine PC.lim (n:=t.heap.length) (x:=.agg (vM F t)) (by simp) (.agg (x:=.view (F 6) 3 (t.heap.map zZ)) (by simp [vM]) (.here (by simp))) ⟨_,Tryz.func275,by kernel_rfl,by kernel_rfl⟩ fun hlim2 => ?_
 refine PC.o okC Tryz.func275 rfl (.bool _) fun h nx hnx => ?_
 try simp [-qt,-qd,-ql,rgs,vM]
 repeat' first | done | ((first | ((with_reducible show zT _ _ _ _ _ _);refine zA rfl fun _ => ?_) | ((with_reducible show zD _ _ _ 205 _ _);refine zB (zA2) ?_) | ((with_reducible show zD _ _ _ 358 _ _);refine zB (s_HeapOk) ?_)) <;> simp [-qt,-qd,-ql,rgs,vM]) | ((first | (with_reducible refine zL ?_ ?_) | (with_reducible refine zC ?_ ?_)) <;> intro qb <;> (have qp:=qb;try simp only [psq] at qp) <;> simp [-qt,-qd,-ql,rgs,vM,qb])
 ·all_goals (try clear hnx)
  all_goals (simp_all [vZ];done)
 ·simp [vZ];omega
 ·all_goals (try clear hnx)
  all_goals (simp_all [vZ];done)
 ·have hnl : -9223372036854775808 < t.next ∧ t.next < 9223372036854775808:=by omega
  refine zR [2,3,4,23,24,25,26,27,28,29,30,31,32,33,34,35,36,37,38,39,40,41,42,43,44,45,46,47,48,49,50,51,52,53,54,55,56,57,58,59,60,61,62,63,64,65,66] (t.list.length) (fun (i:Nat) a=>[(4,.int .i64 i),(3,.int .i64 a.2)]) (fun i_ a_ h_ _=>(fun (i:Nat) (a:Int × Int) _=>a.1 = (if i = 0 then -1 else (gt t.list ((i:Int) - 1)).seq) ∧ -1 ≤ a.1 ∧ vL t.next (t.list.drop i) a.1 = vL t.next t.list (-1) ∧ a.2 + cntB (·.armed) (t.list.drop i) = cntB (·.armed) t.list ∧ 0 ≤ a.2 ∧ a.2 ≤ i) i_ a_ h_) ((-1,0)) (by simp) ?_ zO (Nat.le_refl _) ?_
  ·simp
  ·intro i a tm h' n' hle hJ hE hn' next hnx
   try dsimp only at hJ
   have hK:KeepB nx h' h:=KeepB.sub hE zG (by omega)
   simp [-qt,-qd,-ql]
   have e1:h' (nx) = some (.obj (vM F t)):=by have:=hE (nx) (by omega);simpa [vM] using this
   have e1n:∀ k,((nx) = n' + k) = False:=fun k=>by simp only [eq_iff_iff,iff_false];omega
   have e1m:((nx) = n') = False:=by simp only [eq_iff_iff,iff_false];omega
   simp only [LIM] at hlim
   try simp [-qt,-qd,-ql,rgs,vM,yN,e1,e1n,e1m,zE (x:=(i:Int) - 1) (by omega)]
   repeat' first | done | ((first | ((with_reducible show zT _ _ _ _ _ _);refine zA rfl fun _ => ?_) | ((with_reducible show zK _ _ _ _ _ _ _);refine zH rfl omA omA ?_) | ((with_reducible show zD _ _ _ 359 _ _);refine zB (s_l4Timer hnl) ?_) | (with_reducible refine zP (i:=7) [(0,[],[]),(1,[],[]),(2,[],[]),(3,[],[]),(4,[],[]),(5,[],[]),(6,[],[]),(7,[],[]),(8,[],[]),(9,[],[]),(10,[],[]),(11,[],[]),(12,[],[]),(13,[],[]),(14,[],[]),(15,[],[]),(16,[],[]),(17,[],[]),(18,[],[]),(19,[],[]),(20,[],[]),(21,[],[]),(22,[],[]),(23,[],[]),(24,[],[]),(25,[],[]),(26,[],[]),(27,[],[]),(28,[],[])] (by kernel_rfl) ?_)) <;> simp [-qt,-qd,-ql,rgs,vM,yN,e1,e1n,e1m,zE (x:=(i:Int) - 1) (by omega)]) | ((first | (with_reducible refine yQ ?_ ?_) | (with_reducible refine zC ?_ ?_)) <;> intro qb <;> (have qp:=qb;try simp only [psq] at qp) <;> simp [-qt,-qd,-ql,rgs,vM,yN,e1,e1n,e1m,zE (x:=(i:Int) - 1) (by omega),qb])
   all_goals
    first
    | (have hlt:i < t.list.length:=(by omega)
       obtain ⟨j0,j1,j2,j3,j4,j5⟩:=hJ
       rw [zQ hlt] at j2 j3
       simp only [vL,zQ6] at j2 j3
       first
       | (refine ⟨?_,zG⟩;clear hnx;simp only [vZ,tmr1,inR] at *; grind)
       | (refine hnx.go ((gt t.list (i:Int)).seq,a.2 + 1) ?_ ?_ ?_ ?_ ?_ ?_;omega;(simp [zE (x:=(i:Int) + 1) (by omega),zE (x:=a.2 + 1) (by omega)]);simp;exact zG;(first | omega | (simp;omega));(clear hnx;dsimp only;simp only [tmr1,inR] at *; grind))
       | (refine hnx.go ((gt t.list (i:Int)).seq,a.2) ?_ ?_ ?_ ?_ ?_ ?_;omega;(simp [zE (x:=(i:Int) + 1) (by omega)]);simp;exact zG;(first | omega | (simp;omega));(clear hnx;dsimp only;simp only [tmr1,inR] at *; grind)))
    | skip
   ·have hfin:vL t.next t.list (-1) = true ∧ a.2 = cntB (·.armed) t.list:=by
     obtain ⟨j0,j1,j2,j3,j4,j5⟩:=hJ
     rw [List.drop_eq_nil_of_le (by omega)] at j2 j3
     simp only [vL,cntB_nil] at j2 j3
     exact ⟨j2.symm,by omega⟩
    refine zR [2,5,6,67,68,69,70,71,72,73,74,75,76,77,78,79,80,81,82,83,84,85,86,87,88,89,90,91,92,93,94,95,96,97,98,99,100,101,102,103,104,105,106,107] (t.heap.length) (fun (i:Nat) a=>[(5,.int .i64 i)]) (fun i_ a_ h_ _=>(fun j (_:Unit) _=>(t.heap.drop j).any (fun h=>decide (yE t.list h.seq < 0) || (!(gt t.list (yE t.list h.seq)).armed || (gt t.list (yE t.list h.seq)).due != h.due)) = t.heap.any (fun h=>decide (yE t.list h.seq < 0) || (!(gt t.list (yE t.list h.seq)).armed || (gt t.list (yE t.list h.seq)).due != h.due))) i_ a_ h_) (()) (by simp) ?_ zO (Nat.le_refl _) ?_
    ·simp
    ·intro j b tm2 h2 n2 hle2 hJ2 hE2 hn2 next2 hnx2
     try dsimp only at hJ2
     have hK2:KeepB nx h2 h:=KeepB.sub hE2 zG (by omega)
     simp [-qt,-qd,-ql]
     have hat:=zB2 t.list (gt t.heap (j:Int)).seq
     have e2:=(hE2 (nx) (by omega)).trans e1
     have e2n:∀ k,((nx) = n2 + k) = False:=fun k=>by simp only [eq_iff_iff,iff_false];omega
     have e2m:((nx) = n2) = False:=by simp only [eq_iff_iff,iff_false];omega
     try simp [-qt,-qd,-ql,rgs,vM,yN,zZ,e2,e2n,e2m]
     repeat' first | done | ((first | ((with_reducible show zT _ _ _ _ _ _);refine zA rfl fun _ => ?_) | ((with_reducible show zK _ _ _ _ _ _ _);refine zH rfl omA omA ?_) | ((with_reducible show zD _ _ _ 285 _ _);refine zB (s_l4At (t:=t) (F:=F)) ?_) | (with_reducible refine zP (i:=14) [(0,[],[]),(1,[],[]),(2,[],[]),(3,[],[]),(4,[],[]),(5,[],[]),(6,[],[]),(7,[],[]),(8,[],[])] (by kernel_rfl) ?_) | (with_reducible refine zP (i:=15) [(0,[],[]),(1,[],[]),(2,[],[]),(3,[],[]),(4,[],[]),(5,[],[]),(6,[],[]),(7,[],[]),(8,[],[]),(9,[],[]),(10,[],[]),(11,[],[]),(12,[],[]),(13,[],[]),(14,[],[]),(15,[],[]),(16,[],[]),(17,[],[]),(18,[],[]),(19,[],[]),(20,[],[]),(21,[],[]),(22,[],[]),(23,[],[]),(24,[],[]),(25,[],[])] (by kernel_rfl) ?_)) <;> simp [-qt,-qd,-ql,rgs,vM,yN,zZ,e2,e2n,e2m]) | ((first | (with_reducible refine yQ ?_ ?_) | (with_reducible refine zC ?_ ?_)) <;> intro qb <;> (have qp:=qb;try simp only [psq] at qp) <;> simp [-qt,-qd,-ql,rgs,vM,yN,zZ,e2,e2n,e2m,qb])
     all_goals clear hJ hnx
     all_goals
      first
      | (have hlt:j < t.heap.length:=(by first | omega | (simp at *; omega))
         rw [zQ hlt] at hJ2
         first
         | (refine hnx2.go (()) ?_ ?_ ?_ ?_ ?_ ?_;omega;(simp [zI hlt hlim2]);(simp);exact zG;(first | omega | (simp;omega));(try dsimp only);clear hnx2;first | ((try simp only [List.drop_length,Int.toNat_natCast,List.any_cons,List.any_nil,vZ] at hJ2 ⊢);grind) | (simp_all [List.any_cons,List.any_nil,vZ];done) | (simp_all;omega))
         | (refine ⟨?_,zG⟩;clear hnx2;first | ((try simp only [List.drop_length,Int.toNat_natCast,List.any_cons,List.any_nil,vZ] at hJ2 ⊢);grind) | (simp_all [List.any_cons,List.any_nil,vZ];done) | (simp_all;omega)))
      | (obtain rfl:j = t.heap.length:=(by first | omega | (simp at *; omega))
         refine ⟨?_,zG⟩;clear hnx2;first | ((try simp only [List.drop_length,Int.toNat_natCast,List.any_cons,List.any_nil,vZ] at hJ2 ⊢);grind) | (simp_all [List.any_cons,List.any_nil,vZ];done) | (simp_all;omega))
theorem s_l5Node {n:Nod}:PC ctx.P 357 [.agg (yS n)] (.bool (nod1 n)):=by
 refine PC.o okC Tryz.func357 rfl (.bool _) fun h nx hnx => ?_
 try simp [-qt,-qd,-ql,rgs,yS]
 repeat' first | done | (((with_reducible show zD _ _ _ 205 _ _);refine zB (zA2) ?_) <;> simp [-qt,-qd,-ql,rgs,yS]) | ((first | (with_reducible refine zL ?_ ?_) | (with_reducible refine zC ?_ ?_)) <;> intro qb <;> (have qp:=qb;try simp only [psq] at qp) <;> simp [-qt,-qd,-ql,rgs,yS,qb])
 all_goals (try clear hnx)
 all_goals (simp_all [nod1,never];done)
theorem s_TreeOk {p:Bool} {t:List Nod}:PC ctx.P 274 [.view p 5 (t.map yS)] (.bool (uJ t)):=by
 rw [treeOk_eq]
 refine PC.lim (n:=t.length) (x:=.view p 5 (t.map yS)) (by simp) (.here (by simp)) ⟨_,Tryz.func274,by kernel_rfl,by kernel_rfl⟩ fun hlim => ?_
 have hlim2:=hlim
 simp only [LIM] at hlim2
 refine PC.o okC Tryz.func274 rfl (.bool _) fun h nx hnx => ?_
 try simp [-qt,-qd,-ql,rgs]
 repeat' first | done | (((with_reducible show zT _ _ _ _ _ _);refine zA rfl fun _ => ?_) <;> simp [-qt,-qd,-ql,rgs]) | ((with_reducible refine zC ?_ ?_) <;> intro qb <;> (have qp:=qb;try simp only [psq] at qp) <;> simp [-qt,-qd,-ql,rgs,qb])
 ·simp_all;omega
 ·refine zR [2,3,7,8,9,10,11,12,13,14,15,16,17,18,19,20,21,22,23,24,25,26,27,28,29,30,31,32,33,34,35,36,37,38,39] (t.length) (fun (i:Nat) a=>[(3,.int .i64 i)]) (fun i_ a_ h_ _=>(fun i (_:Unit) _=>uA (fun i n=>zK9 n i) (t.drop i) i = uA (fun i n=>zK9 n i) t 0) i_ a_ h_) (()) (by simp) ?_ zO (Nat.le_refl _) ?_
  ·simp
  ·intro i a tm h' n' hle hJ hE hn' next hnx
   try dsimp only at hJ
   have hK:KeepB nx h' h:=KeepB.sub hE zG (by omega)
   simp [-qt,-qd,-ql]
   repeat' first | done | ((first | ((with_reducible show zT _ _ _ _ _ _);refine zA rfl fun _ => ?_) | ((with_reducible show zK _ _ _ _ _ _ _);refine zH rfl omA omA ?_) | ((with_reducible show zD _ _ _ 357 _ _);refine zB (s_l5Node) ?_) | ((with_reducible show zD _ _ _ 205 _ _);refine zB (zA2) ?_)) <;> simp [-qt,-qd,-ql,rgs,yS,zE (x:=(i:Int)) (by omega),zE (x:=(i:Int) - 1) (by omega)]) | ((with_reducible refine zC ?_ ?_) <;> intro qb <;> (have qp:=qb;try simp only [psq] at qp) <;> simp [-qt,-qd,-ql,rgs,yS,zE (x:=(i:Int)) (by omega),zE (x:=(i:Int) - 1) (by omega),qb])
   all_goals
    first
    | (have hlt:i < t.length:=(by first | omega | (simp at *; omega))
       rw [zQ hlt] at hJ
       first
       | (refine hnx.go (()) ?_ ?_ ?_ ?_ ?_ ?_;omega;(simp [zI hlt hlim]);(simp);exact zG;(first | omega | (simp;omega));(try dsimp only);clear hnx;first | ((try simp only [List.drop_length,Int.toNat_natCast,uA,zJ9] at hJ ⊢);grind) | (simp_all [uA,zJ9];done) | (simp_all;omega))
       | (refine ⟨?_,zG⟩;clear hnx;first | ((try simp only [List.drop_length,Int.toNat_natCast,uA,zJ9] at hJ ⊢);grind) | (simp_all [uA,zJ9];done) | (simp_all;omega)))
    | (obtain rfl:i = t.length:=(by first | omega | (simp at *; omega))
       refine ⟨?_,zG⟩;clear hnx;first | ((try simp only [List.drop_length,Int.toNat_natCast,uA,zJ9] at hJ ⊢);grind) | (simp_all [uA,zJ9];done) | (simp_all;omega))
theorem s_l5Has {p:Bool} {t:List Nod} {n:Int}:PC ctx.P 365 [.view p 5 (t.map yS),.int .i64 n] (.bool (uJ t && uF n t)):=by
 refine PC.lim (n:=t.length) (x:=.view p 5 (t.map yS)) (by simp) (.here (by simp)) ⟨_,Tryz.func365,by kernel_rfl,by kernel_rfl⟩ fun hlim => ?_
 refine PC.o okC Tryz.func365 rfl (.bool _) fun h nx hnx => ?_
 try simp [-qt,-qd,-ql,rgs,yA hlim]
 repeat' first | done | ((first | ((with_reducible show zT _ _ _ _ _ _);refine zA rfl fun _ => ?_) | ((with_reducible show zD _ _ _ 274 _ _);refine zB (s_TreeOk) ?_) | ((with_reducible show zD _ _ _ 205 _ _);refine zB (zA2) ?_)) <;> simp [-qt,-qd,-ql,rgs,yA hlim]) | ((with_reducible refine zL ?_ ?_) <;> intro qb <;> (have qp:=qb;try simp only [psq] at qp) <;> simp [-qt,-qd,-ql,rgs,yA hlim,qb])
 all_goals (try clear hnx)
 all_goals (simp_all [uF];done)
theorem s_l6In {p:Bool} {xs:List Int} {n:Int}:PC ctx.P 364 [.view p 1 (xs.map iv),.int .i64 n] (.bool (xs.contains n)):=by
 refine PC.lim (n:=xs.length) (x:=.view p 1 (xs.map iv)) (by simp) (.here (by simp)) ⟨_,Tryz.func364,by kernel_rfl,by kernel_rfl⟩ fun hlim => ?_
 refine PC.o okC Tryz.func364 rfl (.bool _) fun h nx hnx => ?_
 try simp [-qt,-qd,-ql,rgs]
 refine zR [4,5,6,7,8,9,10,11,12,13,14,15,16,17] (xs.length) (fun (i:Nat) a=>[(5,.int .i64 i)]) (fun i_ a_ h_ _=>(fun i (_:Unit) _=>((xs.drop i).any fun x=>x == n) = xs.contains n) i_ a_ h_) (()) (by simp) ?_ zO (Nat.le_refl _) ?_
 ·simp [any_contains']
 ·intro i a tm h' n' hle hJ hE hn' next hnx
  try dsimp only at hJ
  have hK:KeepB nx h' h:=KeepB.sub hE zG (by omega)
  simp [-qt,-qd,-ql]
  repeat' first | done | ((first | ((with_reducible show zT _ _ _ _ _ _);refine zA rfl fun _ => ?_) | ((with_reducible show zK _ _ _ _ _ _ _);refine zH rfl omA omA ?_)) <;> simp [-qt,-qd,-ql,rgs,iv]) | ((with_reducible refine zC ?_ ?_) <;> intro qb <;> (have qp:=qb;try simp only [psq] at qp) <;> simp [-qt,-qd,-ql,rgs,iv,qb])
  all_goals
   first
   | (have hlt:i < xs.length:=(by first | omega | (simp at *; omega))
      rw [zQ hlt] at hJ
      first
      | (refine hnx.go (()) ?_ ?_ ?_ ?_ ?_ ?_;omega;(simp [zI hlt hlim]);(simp);exact zG;(first | omega | (simp;omega));(try dsimp only);clear hnx;first | ((try simp only [List.drop_length,Int.toNat_natCast,List.any_cons,List.any_nil] at hJ ⊢);grind) | (simp_all [List.any_cons,List.any_nil];done) | (simp_all;omega))
      | (refine ⟨?_,zG⟩;clear hnx;first | ((try simp only [List.drop_length,Int.toNat_natCast,List.any_cons,List.any_nil] at hJ ⊢);grind) | (simp_all [List.any_cons,List.any_nil];done) | (simp_all;omega)))
   | (obtain rfl:i = xs.length:=(by first | omega | (simp at *; omega))
      refine ⟨?_,zG⟩;clear hnx;first | ((try simp only [List.drop_length,Int.toNat_natCast,List.any_cons,List.any_nil] at hJ ⊢);grind) | (simp_all [List.any_cons,List.any_nil];done) | (simp_all;omega))
end Go.AE.Tryz
end
