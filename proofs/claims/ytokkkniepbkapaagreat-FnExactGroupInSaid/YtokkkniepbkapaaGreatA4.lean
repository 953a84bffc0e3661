/- An abstract machine over the model: its states, its steps, and that what it shows holds of the model. -/
import Derived.Test.YtokkkniepbkapaaGreatA3
set_option linter.unusedVariables false
set_option linter.unusedSimpArgs false
set_option linter.deprecated false
section
/- Abstract machine: nil in a row's cell is seen as an empty row; a world with one group more. -/
namespace Go.AE
section
variable {ρ:yR} {I:Imm} {w:World} {h:zZ}
theorem HRel.rowCells {id sz:Nat} {xs ys:List (List AV)} (H:HRel ρ I w h) (hp:h id = some (.row sz xs)) (hl:ys.length = xs.length) (hw:∀ (i:Nat) d,ys[i]? = some d → d.length = sz)
 (hc:∀ (i j:Nat) x y u,zB8 xs i j = some x → zB8 ys i j = some y → VR ρ I w x u → VR ρ I w y u):HRel ρ I w (upd h id (some (.row sz ys))) ∧ Ext h ρ I w (upd h id (some (.row sz ys))) ρ I w:=by
 have up:∀ {i e},upd h id (some (.row sz ys)) i = some e → ∃ e0,h i = some e0:=by
  intro i e he
  by_cases hid:i = id
  ·subst hid;exact ⟨_,hp⟩
  ·rw [zI _ _ _ _ hid] at he;exact ⟨_,he⟩
 refine ⟨⟨fun i c he => ?_,fun i s x he => ?_,fun i j e e' B B' b hi hj hne hB hB' hb => ?_,fun i e B b q hi hB hb => ?_,H.immlt⟩,⟨fun _ _ h=>h,fun _ _ h=>h,fun _ h=>h,fun _ h=>.inl h,fun b ⟨i,e,B,a1,a2,a3⟩ => ?_,rfl,rfl,rfl,Nat.le_refl _,fun _ _ _=>rfl⟩⟩
 ·by_cases hid:i = id
  ·subst hid;rw [zL] at he;cases he
  ·rw [zI _ _ _ _ hid] at he;exact H.obj i c he
 ·by_cases hid:i = id
  ·subst hid
   rw [zL] at he;cases he
   obtain ⟨B,h1,h2,h3,h4,h5,h6⟩:=H.row _ _ _ hp
   refine ⟨B,h1,h2,h3,by omega,hw,?_⟩
   rcases h6 with ⟨a,b,c⟩ | ⟨b,cur,ty,k1,k2,k3,k4,k5,k6⟩
   ·exact .inl ⟨a,List.eq_nil_of_length_eq_zero (by rw [hl,b];rfl),c⟩
   ·refine .inr ⟨b,cur,ty,k1,k2,k3,by omega,k5,fun m j y u hy hu => ?_⟩
    obtain ⟨d,q1,q2⟩:=yG hy
    have hm:m < xs.length:=by rw [← hl];exact (List.getElem?_eq_some_iff.1 q1).1
    have hc0:=List.getElem?_eq_getElem hm
    have hj:j < (xs[m]).length:=by rw [h5 _ _ hc0,← hw _ _ q1];exact (List.getElem?_eq_some_iff.1 q2).1
    have hx:zB8 xs m j = some (xs[m])[j]:=by simp only [zB8,hc0,Option.bind_some];exact List.getElem?_eq_getElem hj
    exact hc m j _ y u hx hy (k6 m j _ u hx hu)
  ·rw [zI _ _ _ _ hid] at he;exact H.row i s x he
 ·obtain ⟨e0,h0⟩:=up hi
  obtain ⟨e1,h1⟩:=up hj
  exact H.sep i j e0 e1 B B' b h0 h1 hne hB hB' hb
 ·obtain ⟨e0,h0⟩:=up hi
  exact H.imm i e0 B b q h0 hB hb
 ·obtain ⟨e0,h0⟩:=up a1
  exact .inl ⟨i,e0,B,h0,a2,a3⟩
theorem HRel.rowNil {nx id sz s i j:Nat} {xs:List (List AV)} {c:List AV} (H:HRel ρ I w h) (hn:ρ nx = none) (hp:h id = some (.row sz xs)) (hi:xs[i]? = some c) (hj:c[j]? = some .nil) (hs:0 < s) :
 HRel (upd ρ nx (some ⟨none,0,0,s⟩)) I w (upd (upd h nx (some (.row s []))) id (some (.row sz (xs.set i (c.set j (.ref nx s 0 0)))))) ∧
 Ext h ρ I w (upd (upd h nx (some (.row s []))) id (some (.row sz (xs.set i (c.set j (.ref nx s 0 0)))))) (upd ρ nx (some ⟨none,0,0,s⟩)) I w:=by
 obtain ⟨B,hB,-⟩:=H.row _ _ _ hp
 have hne:id ≠ nx:=fun e=>by rw [e,hn] at hB;cases hB
 obtain ⟨H',E'⟩:=nil_ext H hs hn
 have hp':upd h nx (some (.row s [])) id = some (.row sz xs):=(zI _ _ _ _ hne).trans hp
 have him:i < xs.length:=(List.getElem?_eq_some_iff.1 hi).1
 have hjm:j < c.length:=(List.getElem?_eq_some_iff.1 hj).1
 obtain ⟨-,-,-,-,-,hw5,-⟩:=H.row _ _ _ hp
 obtain ⟨H2,E2⟩:=H'.rowCells (ys:=xs.set i (c.set j (.ref nx s 0 0))) hp' (by simp) (fun m d hd=>by
  by_cases e:m = i
  ·subst e
   rw [List.getElem?_set_self him] at hd;cases hd
   rw [List.length_set];exact hw5 _ _ hi
  ·rw [List.getElem?_set_ne (by omega)] at hd;exact hw5 _ _ hd) (fun m k x y u hx hy hv=>by
  obtain ⟨c1,q1,q2⟩:=yG hx
  obtain ⟨d1,r1,r2⟩:=yG hy
  by_cases e:m = i
  ·subst e
   rw [hi] at q1;cases q1
   rw [List.getElem?_set_self him] at r1;cases r1
   by_cases e2:k = j
   ·subst e2
    rw [hj] at q2;cases q2
    rw [List.getElem?_set_self hjm] at r2;cases r2
    rw [hv.nil_inv]
    exact .ref0 nx s 0 none _ (zL ..) rfl
   ·rw [List.getElem?_set_ne (by omega)] at r2
    rw [q2] at r2;cases r2;exact hv
  ·rw [List.getElem?_set_ne (by omega)] at r1
   rw [q1] at r1;cases r1
   rw [q2] at r2;cases r2;exact hv)
 exact ⟨H2,E'.trans E2⟩
end
section
variable {P:Program} {f:FuncId} {args:List AV} {h:zZ} {nx:Nat} {Q:AV → zZ → Nat → Prop}
def RowNil (Q:AV → zZ → Nat → Prop) (r:AV) (h:zZ) (nx:Nat):Prop :=
 Q r h nx ∨ ∃ id sz xs i c j s,h id = some (.row sz xs) ∧ xs[i]? = some c ∧ c[j]? = some .nil ∧ 0 < s ∧ Q r (upd (upd h nx (some (.row s []))) id (some (.row sz (xs.set i (c.set j (.ref nx s 0 0)))))) (nx + 1)
theorem ACall.rowNil (hc:ACall P f args h nx (RowNil Q)):ACall P f args h nx Q :=
 ⟨hc.1,fun ρ I w vs h1 h2 h3=>(hc.2 ρ I w vs h1 h2 h3).mono fun e w' ⟨v,r,h',nx',ρ',I',g1,hq,g3,g4,g5,g6,g7,g8⟩=>by
   rcases hq with hq | ⟨id,sz,xs,i,c,j,s,a1,a2,a3,a4,hq⟩
   ·exact ⟨v,r,h',nx',ρ',I',g1,hq,g3,g4,g5,g6,g7,g8⟩
   ·have nofree:ρ' nx' = none:=by
     cases hh:ρ' nx' with
     | none=>rfl
     | some B=>have:=g8 nx' B hh;omega
    obtain ⟨H',E'⟩:=g4.rowNil nofree a1 a2 a3 a4
    have gr:∀ i B,ρ' i = some B → upd ρ' nx' (some ⟨none,0,0,s⟩) i = some B:=fun i B hB=>by
     rw [zI _ _ _ _ (by have:=g8 i B hB;omega)];exact hB
    refine ⟨v,r,_,nx' + 1,_,I',g1,hq,g3.mono gr (fun _ _ h=>h) fun _ _ _=>rfl,H',g5.trans E',fun i B hB => ?_,by omega,fun i B hB => ?_⟩
    ·by_cases hi:i = nx'
     ·exact .inr (by omega)
     ·rw [zI _ _ _ _ hi] at hB;exact g6 i B hB
    ·by_cases hi:i = nx'
     ·omega
     ·rw [zI _ _ _ _ hi] at hB;have:=g8 i B hB;omega⟩
theorem AC.rowNil {Pre:zZ → Nat → Prop} {Q:zZ → Nat → AV → zZ → Nat → Prop} (hc:AC P f args Pre (fun h nx r h' nx'=>RowNil (Q h nx) r h' nx')):AC P f args Pre Q:=fun h nx hp =>
 (((hc h nx hp).mono fun _ _ _ hq=>hq.1).rowNil).ends
theorem ACall.rowNilPre {id sz i j s:Nat} {xs:List (List AV)} {c:List AV} (a1:h id = some (.row sz xs)) (a2:xs[i]? = some c) (a3:c[j]? = some .nil) (a4:0 < s)
 (hc:ACall P f args (upd (upd h nx (some (.row s []))) id (some (.row sz (xs.set i (c.set j (.ref nx s 0 0)))))) (nx + 1) Q):ACall P f args h nx Q :=
 ⟨hc.1,fun ρ I w vs hnm H ⟨hv1,hv2⟩=>by
   have nofree:ρ nx = none:=by
    cases hh:ρ nx with
    | none=>rfl
    | some B=>have:=hnm nx B hh;omega
   obtain ⟨H',E'⟩:=H.rowNil nofree a1 a2 a3 a4
   have gr:∀ i B,ρ i = some B → upd ρ nx (some ⟨none,0,0,s⟩) i = some B:=fun i B hB=>by
    rw [zI _ _ _ _ (by have:=hnm i B hB;omega)];exact hB
   refine (hc.2 (upd ρ nx (some ⟨none,0,0,s⟩)) I w vs (fun i B hB => ?_) H' ⟨hv1,fun i x u hx hu=>(hv2 i x u hx hu).mono gr (fun _ _ h=>h) fun _ _ _=>rfl⟩).mono ?_
   ·by_cases hi:i = nx
    ·omega
    ·rw [zI _ _ _ _ hi] at hB;have:=hnm i B hB;omega
   ·rintro e w' ⟨v,r,h',nx',ρ',I3,g1,hQ,g3,g4,g5,g6,g7,g8⟩
    refine ⟨v,r,h',nx',ρ',I3,g1,hQ,g3,g4,E'.trans g5,fun i B hB => ?_,by omega,g8⟩
    rcases g6 i B hB with q | q
    ·by_cases hi:i = nx
     ·exact .inr (by omega)
     ·rw [zI _ _ _ _ hi] at q;exact .inl q
    ·exact .inr (by omega)⟩
end
theorem call_rowNil {C:Ctx} {n d f args} {id sz i j s:Nat} {xs:List (List AV)} {c:List AV} {st:St} (a1:st.h id = some (.row sz xs)) (a2:xs[i]? = some c) (a3:c[j]? = some .nil) (a4:0 < s)
 (hc:zG C n d f args { st with h:=upd (upd st.h st.nx (some (.row s []))) id (some (.row sz (xs.set i (c.set j (.ref st.nx s 0 0))))),nx:=st.nx + 1 }):zG C n d f args st:=ACall.rowNilPre a1 a2 a3 a4 hc
def addG (w:Wld) (G:Grp):Wld:=⟨w.now,w.progs,w.tree,w.events,w.spread,w.timers,w.afters,w.tasks,w.groups ++ [G],w.sights,w.began,w.rang⟩
def WI.addGr (X:WI) (g id:Nat):WI:=⟨fun k=>if k = 11 then g else X.top k,X.pg,X.gr ++ [id]⟩
theorem WI.addGr_ids {X:WI} {g id j:Nat} (h:j ∈ (X.addGr g id).ids):j ∈ X.ids ∨ j = g ∨ j = id:=by
 have h2:j ∈ (X.setTop 11 g).ids ∨ j = id:=by
  simp only [WI.ids,WI.addGr,WI.setTop,List.mem_append,List.mem_singleton] at h ⊢
  rcases h with h | h | h | h
  ·exact .inl (.inl h)
  ·exact .inl (.inr (.inl h))
  ·exact .inl (.inr (.inr h))
  ·exact .inr h
 rcases h2 with h2 | h2
 ·rcases WI.setTop_ids h2 with q | q
  ·exact .inl q
  ·exact .inr (.inl q)
 ·exact .inr (.inr h2)
theorem WV.addGroup {h h':zZ} {X:WI} {w:Wld} {G:Grp} {g id:Nat} (v:WV h X w) (hg:g ∉ X.ids) (hi:id ∉ X.ids) (hne:g ≠ id) (hr:h' g = some (.row 5 (List.zipWith uB w.groups X.gr ++ [uB G id])))
 (hw:h' id = some (.row 1 (G.waits.map iv))) (hf:∀ j ∈ X.ids,j ≠ X.top 11 → h' j = h j):WV h' (X.addGr g id) (addG w G) where
 top k hk:=by
  show h' (if k = 11 then g else X.top k) = _
  by_cases e:k = 11
  ·subst e
   rw [if_pos rfl,hr]
   show _ = some (Ent.row 5 (List.zipWith uB (w.groups ++ [G]) (X.gr ++ [id])))
   rw [List.zipWith_append v.gl.symm];rfl
  ·rw [if_neg e,hf _ (WI.top_mem hk) (fun e2=>e (v.top_inj hk (by omega) e2)),v.top k hk]
   rcases lt15 hk with rfl | rfl | rfl | rfl | rfl | rfl | rfl | rfl | rfl | rfl | rfl | rfl | rfl | rfl | rfl <;> first | rfl | exact absurd rfl e
 pl:=v.pl
 gl:=by simp [WI.addGr,addG,v.gl]
 prog j p k h1 h2:=by
  have hm:k ∈ X.pg:=List.mem_of_getElem? h2
  rw [hf k (WI.pg_mem hm) (fun e=>v.top_pg (by omega) (e ▸ hm))]
  exact v.prog j p k h1 h2
 wait j G' k h1 h2:=by
  simp only [addG,WI.addGr] at h1 h2
  have hgl:=v.gl
  by_cases hj:j < w.groups.length
  ·rw [List.getElem?_append_left hj] at h1
   rw [List.getElem?_append_left (by omega)] at h2
   have hm:k ∈ X.gr:=List.mem_of_getElem? h2
   rw [hf k (WI.gr_mem hm) (fun e=>v.top_gr (by omega) (e ▸ hm))]
   exact v.wait j G' k h1 h2
  ·rw [List.getElem?_append_right (by omega)] at h1
   rw [List.getElem?_append_right (by omega),hgl] at h2
   cases hq:j - w.groups.length with
   | zero=>rw [hq] at h1 h2;simp at h1 h2;subst h1;subst h2;exact hw
   | succ m=>rw [hq] at h1;simp at h1
 nd:=by
  have n1:=WI.setTop_nd (i:=11) v.nd hg
  have hin:id ∉ (X.setTop 11 g).ids:=fun q=>by
   rcases WI.setTop_ids q with q | q
   ·exact hi q
   ·exact hne q.symm
  have e:(X.addGr g id).ids = (X.setTop 11 g).ids ++ [id]:=by simp [WI.ids,WI.addGr,WI.setTop,List.append_assoc]
  rw [e,List.nodup_append]
  exact ⟨n1,by simp,fun a ha b hb=>by simp at hb;subst hb;exact fun e=>hin (e ▸ ha)⟩
end Go.AE
end
section
/- A valid world is small. -/
namespace Go.AE
theorem zP6 {a:Int}:∀ {l:List Int},l.Pairwise (· ≠ ·) → l.length ≤ (l.filter (fun x=>x != a)).length + 1
 | [],_=>by simp
 | x :: xs,h=>by
   rw [List.pairwise_cons] at h
   have ih:=zP6 (a:=a) h.2
   by_cases e:x = a
   ·have:xs.filter (fun x=>x != a) = xs:=List.filter_eq_self.2 fun y hy=>by
     have:=h.1 y hy
     simp only [bne_iff_ne];intro e2;exact this (e.trans e2.symm)
    rw [List.filter_cons_of_neg (by simp [e]),this];simp
   ·rw [List.filter_cons_of_pos (by simp [e])]
    simp only [List.length_cons];omega
theorem zM1:∀ (n:Nat) (l:List Int),(∀ x ∈ l,0 ≤ x ∧ x < n) → l.Pairwise (· ≠ ·) → l.length ≤ n
 | 0,[],_,_=>by simp
 | 0,x :: xs,h,_=>by have:=h x (by simp);omega
 | n + 1,l,h,hp=>by
   have h1:=zP6 (a:=(n:Int)) hp
   have h2:=zM1 n (l.filter (fun x=>x != (n:Int))) (fun x hx=>by
    simp only [List.mem_filter,bne_iff_ne] at hx
    have:=h x hx.1
    have:=hx.2
    omega) (List.Pairwise.sublist List.filter_sublist hp)
   omega
theorem chain_self (t:List Nod) (n:Int):n ∈ zI2 t n:=by
 unfold zI2
 cases t.length with
 | zero=>simp [zO3]
 | succ k=>unfold zO3;split <;> simp
theorem events_len {t:List Nod} {l:List Evt} (h:yM t l = true):l.length ≤ 60:=by
 have ht:=zB9 (zB2 h)
 have:(l.map (·.node)).length ≤ t.length:=by
  refine zM1 _ _ (fun x hx => ?_) ?_
  ·obtain ⟨e,he,rfl⟩:=List.mem_map.1 hx
   obtain ⟨i,hi,rfl⟩:=List.getElem_of_mem he
   exact isEvent_in (fits_step (zH8 h i hi)).1
  ·rw [List.pairwise_map,List.pairwise_iff_getElem]
   intro i j hi hj hij e
   have:=(fits_step (zH8 h j hj)).2.2
   simp only [uN,Option.isSome_eq_false_iff,Option.isNone_iff_eq_none,List.find?_eq_none] at this
   refine this l[i] (List.mem_take_iff_getElem.2 ⟨i,by omega,rfl⟩) ?_
   rw [e];simpa using chain_self t _
 simpa using Nat.le_trans this ht
theorem lsum_le {α:Type} {f:α → Nat} {B:Nat}:∀ {l:List α},(∀ x ∈ l,f x ≤ B) → zA9 f l ≤ l.length * B
 | [],_=>by simp [zA9]
 | x :: xs,h=>by
   have h1:=h x (by simp)
   have h2:=lsum_le (l:=xs) fun y hy=>h y (by simp [hy])
   simp only [zA9,List.length_cons,Nat.add_mul,Nat.one_mul];omega
theorem waits_len {g:Grp} (h:zJ6 g = true):g.waits.length ≤ 60:=by
 simp only [zJ6,Bool.and_eq_true] at h
 have h1:=h.2.2.2.2.2
 rw [zI4] at h1
 refine zM1 _ _ (fun x hx => ?_) ?_
 ·obtain ⟨i,hi,rfl⟩:=List.getElem_of_mem hx
  have:=h1 i hi
  simp only [Bool.and_eq_true,zB4] at this
  omega
 ·rw [List.pairwise_iff_getElem]
  intro i j hi hj hij e
  have:=h1 j hj
  simp only [Bool.and_eq_true,Int.zero_add,Int.toNat_natCast,Bool.not_eq_true'] at this
  have h2:=this.2
  rw [← Bool.not_eq_true,List.contains_iff_mem] at h2
  exact h2 (e ▸ List.mem_take_iff_getElem.2 ⟨i,by omega,rfl⟩)
theorem wldOk_sz {w:Wld} (h:vG w = true):zC9 w ≤ 1048576:=by
 simp only [vG,Bool.and_eq_true,decide_eq_true_eq] at h
 obtain ⟨h1,h2,h3,h4,h5,h6,h7,h8,h9,h10,h11,h12,h13,h14,h15,h16,h17,h18,h19,h20⟩:=h
 have a1:zA9 (·.length) w.progs ≤ w.progs.length * 12:=lsum_le fun x hx=>by
  have:=List.all_eq_true.1 h3 x hx
  simp only [zE4,Bool.and_eq_true,decide_eq_true_eq] at this;exact this.1
 have a2:=zB9 (zB2 h4)
 have a3:=events_len h4
 have a4:w.spread.told.length ≤ 60 ∧ w.spread.work.length ≤ 240:=by
  simp only [vC,Bool.and_eq_true,beq_iff_eq,decide_eq_true_eq] at h5;omega
 obtain ⟨-,a5,⟨a6,-,-⟩,-,-,-⟩:=zQ7.1 h7
 obtain ⟨b1,b2,-,-⟩:=afsOk_iff.1 h9
 have a7:w.afters.slots.ages.length ≤ 64 ∧ w.afters.slots.used.length = w.afters.slots.ages.length:=by
  simp only [zH6,Bool.and_eq_true,beq_iff_eq,zB4] at b1;omega
 have a8:w.afters.list.length ≤ w.afters.slots.used.length:=by
  have:=List.countP_le_length (l:=w.afters.slots.used) (p:=id)
  simp only [cntB] at b2;omega
 have a9:w.tasks.length ≤ 60:=by simp only [uZ,Bool.and_eq_true,decide_eq_true_eq] at h11;exact h11.1
 have a10:zA9 (·.waits.length) w.groups ≤ w.groups.length * 60:=lsum_le fun x hx=>by
  have:=List.all_eq_true.1 h14 x hx
  simp only [zC8,Bool.and_eq_true] at this;exact waits_len this.1
 simp only [zC9,sprsz,tmssz,afssz,sltsz]
 omega
theorem ask_sz {w w':Wld} {b:Bool} (hs:zC9 w ≤ 1048576):zC9 (askW w w' b) ≤ 1048576:=by
 unfold askW;split
 ·split
  ·rename_i h;exact wldOk_sz h.2
  ·exact hs
 ·decide
end Go.AE
end
section
/- A group is created: what the request makes of a world, in plain terms. -/
namespace Go.AE
def zK4 (n limit:Int):Grp:=⟨n,limit,0,[],0⟩
def zL2 (w:Wld) (up limit:Int):Wld:=addG (zG3 w 1 up 0 0) (zK4 (zP3 w 1 up 0 0) limit)
def zQ6 (w:Wld) (up:Int):Bool:=zJ9 w 1 up 0 0
def zB5 (w:Wld) (up limit:Int):Wld:=askW w (zL2 w up limit) (zQ6 w up)
def zE9 (w:Wld) (up limit:Int):Int:=if askB w (zL2 w up limit) (zQ6 w up) = true then w.groups.length else -1
theorem zN2 (w:Wld) (k u a b:Int):(zG3 w k u a b).tasks = w.tasks ∧ (zG3 w k u a b).groups = w.groups ∧ (zG3 w k u a b).progs = w.progs:=by
 unfold zG3 nodW begW cutW
 repeat' split
 all_goals exact ⟨rfl,rfl,rfl⟩
theorem ite_ft {c y:Bool} (h:(if c = true then false else y) = true):c = false ∧ y = true:=by cases c <;> simp_all
theorem wldOk_less {w v:Wld} {G:Grp} (hw:vG w = true) (e1:v.tasks = w.tasks) (e2:v.groups = w.groups) (h:vG (addG v G) = true):vG v = true:=by
 have hw12:=hw
 simp only [vG,Bool.and_eq_true,decide_eq_true_eq] at hw12 h ⊢
 obtain ⟨h1,h2,h3,h4,h5,h6,h7,h8,h9,h10,h11,h12,h13,h14,h15,h16,h17,h18,h19,h20⟩:=h
 obtain ⟨-,-,-,-,-,-,-,-,-,-,-,g12,g13,-⟩:=hw12
 have k8:v.timers.list.all (zB3 v) = true:=h8
 have k14:v.groups.all (zC8 v) = true:=by
  have:(v.groups ++ [G]).all (zC8 v) = true:=h14
  rw [List.all_append,Bool.and_eq_true] at this;exact this.1
 have k18:v.sights.all (zE1 v) = true:=h18
 have k12:v.tasks.all (zD7 v) = true:=by
  rw [List.all_eq_true] at g12 ⊢
  have h12':v.tasks.all (zD7 (addG v G)) = true:=h12
  rw [List.all_eq_true] at h12'
  intro t ht
  have a:=h12' t ht
  have b:=g12 t (e1 ▸ ht)
  unfold zD7 at a b ⊢
  simp only [addG] at a
  obtain ⟨c1,a⟩:=ite_ft a
  obtain ⟨c2,b⟩:=ite_ft b
  simp only [Bool.or_eq_false_iff] at c1 c2
  have c3:(!vY t.prog v.progs || (decide (((gt v.progs t.prog).length:Int) < t.pc) || !inR t.group (-1) ((v.groups.length:Int) - 1))) = false:=by
   have d1:¬ (((gt v.progs t.prog).length:Int) < t.pc):=by first | exact of_decide_eq_false c1.2.1 | simpa using c1.2.1
   have d2:=c2.2.2
   rw [e2,c1.1,d2,decide_eq_false d1];rfl
  rw [c3]
  simp only [Bool.false_eq_true,if_false]
  by_cases q1:(t.why == 1 || t.why == 2) = true
  ·rw [if_pos q1] at a ⊢; exact a
  ·rw [if_neg q1] at b ⊢
   rw [e2];exact b
 exact ⟨h1,h2,h3,h4,h5,h6,h7,k8,h9,h10,h11,k12,by rw [e2];exact g13,k14,h15,h16,h17,k18,h19,h20⟩
theorem group_ask {w:Wld} {up limit:Int} (hw:vG w = true) :
 zB5 w up limit = (if (decide (0 ≤ zG5 w 1 up 0 0) && vG (addG (zG7 w 1 up 0 0) (zK4 (zG5 w 1 up 0 0) limit))) = true then addG (zG7 w 1 up 0 0) (zK4 (zG5 w 1 up 0 0) limit) else w) ∧
 zE9 w up limit = (if (decide (0 ≤ zG5 w 1 up 0 0) && vG (addG (zG7 w 1 up 0 0) (zK4 (zG5 w 1 up 0 0) limit))) = true then (w.groups.length:Int) else -1):=by
 obtain ⟨g1,g2⟩:=grow_ask (w:=w) (kind:=1) (up:=up) (a:=0) (b:=0)
 obtain ⟨s1,s2,s3⟩:=zN2 w 1 up 0 0
 rw [← g1,← g2]
 by_cases hb:(zJ9 w 1 up 0 0 && vG (zG3 w 1 up 0 0)) = true
 ·simp only [Bool.and_eq_true] at hb
  have a1:askW w (zG3 w 1 up 0 0) (zJ9 w 1 up 0 0) = zG3 w 1 up 0 0:=by simp [askW,hw,hb.1,hb.2]
  have a2:askB w (zG3 w 1 up 0 0) (zJ9 w 1 up 0 0) = true:=by simp [askB,hw,hb.1,hb.2]
  have hc:growC w 1 up 0 0 = true:=by have:=hb.1;simp only [zJ9,Bool.and_eq_true] at this;exact this.1
  have hn:0 ≤ zP3 w 1 up 0 0:=by simp [zP3,hc]
  rw [a1,a2,if_pos rfl]
  have e:zL2 w up limit = addG (zG3 w 1 up 0 0) (zK4 (zP3 w 1 up 0 0) limit):=rfl
  simp only [zB5,zE9,askW,askB,zQ6,hw,hb.1,e,hn,decide_true,Bool.true_and,if_true,true_and,and_self]
 ·have a2:askB w (zG3 w 1 up 0 0) (zJ9 w 1 up 0 0) = false:=by simpa [askB,hw] using hb
  have hf:(zQ6 w up && vG (zL2 w up limit)) = false:=by
   cases hq:(zQ6 w up && vG (zL2 w up limit)) with
   | false=>rfl
   | true =>
     simp only [Bool.and_eq_true] at hq
     exact absurd (by simp only [Bool.and_eq_true];exact ⟨hq.1,wldOk_less hw s1 s2 hq.2⟩) hb
  rw [a2]
  have hd:(decide ((0:Int) ≤ (if false = true then zP3 w 1 up 0 0 else -1))) = false:=by simp
  rw [hd]
  simp only [Bool.false_and,Bool.false_eq_true,if_false]
  constructor
  ·unfold zB5 askW;rw [if_pos hw,if_neg]
   intro c
   rw [Bool.and_eq_false_iff] at hf
   rcases hf with q | q
   ·rw [c.1] at q;cases q
   ·rw [c.2] at q;cases q
  ·unfold zE9 askB;rw [hw,hf];rfl
def ValQ (X:WI) (w':Wld) (v:AV) (h:zZ) (nx:Nat) (r:AV) (h':zZ) (nx':Nat):Prop :=
 (∃ X':WI,r = .tup [.agg (vN X' w'),v] ∧ WV h' X' w' ∧ ∀ id ∈ X'.ids,id ∈ X.ids ∨ nx ≤ id ∧ id < nx') ∧ ∀ j,j < nx → j ∉ X.ids → h' j = h j
theorem rr_cl (i j n m:Nat) (b:Bool):Cl (.tup [.agg [.ref i 1 0 n,.ref j 1 0 m],.bool b]):=tup2_cl (.agg _ fun c hc=>by
 simp only [List.mem_cons,List.not_mem_nil,or_false] at hc
 rcases hc with rfl | rfl <;> exact .ref _ _ _ _) (.bool _)
theorem spr_entcl (u:Spr):∀ e ∈ [Ent.row 1 (u.told.map bv),Ent.row 1 (u.work.map iv)],ClE e:=fun e he=>by
 simp only [List.mem_cons,List.not_mem_nil,or_false] at he
 rcases he with rfl | rfl
 ·exact rowE_cl fun x c hc=>by simp [bv] at hc;subst hc;exact .bool _
 ·exact rowE_cl fun x c hc=>by simp [iv] at hc;subst hc;exact .int _ _
def sprW (w:Wld) (s:Spr):Wld:=mkW w w.tree w.events s w.timers
theorem begW_eq (w:Wld) (n:Int):begW w n = sprW w (begR w.spread n):=by unfold begW begR zF5;split <;> rfl
end Go.AE
end
