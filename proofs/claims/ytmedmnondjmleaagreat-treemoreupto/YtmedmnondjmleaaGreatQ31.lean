/- Part Q31 of the proof of treeMoreProved: the walk of the program on abstract values, and the plain law. -/
import Derived.Test.YtmedmnondjmleaaGreatQ30
import Derived.Test.YtmedmnondjmleaaGreatQGrowLay
import Derived.Shelf.Spec.SlicesGrow
set_option linter.unusedVariables false
set_option linter.unusedSimpArgs false
section
set_option maxRecDepth 100000
namespace Go.Vx
open Go.Proofs Go.Shelf Go.RowKit
theorem WU:(ZB Tryz.prog 212=some 27)∧(Zh Tryz.prog 27=some 1)∧(Ze Tryz.prog 27=some false)∧((Tryz.prog.underlying 9).isSome=true)∧(ZK (Tryz.prog.underlying 9)=false)∧(Tryz.prog.underlying 212=some (.slice 27))∧(Tryz.prog.underlying 27=some (.slice 30))∧(ZB Tryz.prog 27=some 30)∧(Zh Tryz.prog 30=some 6)∧(Zl Tryz.prog 30=some (.agg #[(.int .i64 0),(.slice none 0 0),(.int .i64 0),(.slice none 0 0),(.slice none 0 0),(.slice none 0 0)]))∧(ZU Tryz.prog 30=some 112):=by
 refine ⟨?_,?_,?_,?_,?_,?_,?_,?_,?_,?_,?_⟩<;>first | trivial | kernel_rfl
theorem FR {P:Program}{ρ:Ren}(L:Lays8.n4 P ρ)(i0:TypeInfo)(z:Value)(hi0:P.info? (ρ.t 25)=some i0)(hz0:i0.zero=some z)(hs0:0<i0.size)(hzs:z.cells.size=i0.size)(hb:i0.bytes≤512)(hent:Xt P (ρ.f 4)=true)(n:Nat)(hn:n≤137438953472)(σ:Store)(s:Nat) :
 Zi P (ρ.f 4) [.list .full s [],vi n] σ (fun r σ'=>∃ v,r=.ret v∧MW σ i0.size σ' v []∧Has σ σ'):=by
 refine ⟨hent,fun w vs hσ hv=>?_⟩
 obtain ⟨hl2,hvv⟩:=hv
 obtain ⟨v0,v1,rfl⟩:∃ v0 v1,vs=#[v0,v1]:=by
  obtain ⟨vl⟩:=vs
  match vl,hl2 with
  | [x,y],_=>exact ⟨x,y,rfl⟩
 have hv0:=hvv 0 _ v0 rfl rfl
 have hv1:=hvv 1 _ v1 rfl rfl
 have hv0':=hv0
 cases hv1
 cases hv0 with
 | list _ _ _ cap a b' o rd hcap hlim hsz ha hr h1 h2 =>
 have hcap0:cap=0:=by simpa [PL] using hr
 subst hcap0
 by_cases h0:n=0
 ·subst h0
  have hcon:=Any8.slices_Grow_room L a 0 0 0 w (by omega) (by omega) (by omega) (by omega)
  refine Calls.mono hcon fun en w' he=>?_
  obtain ⟨rfl,rfl⟩:=he
  exact ⟨.list .full s [],σ,⟨_,rfl,.inl ⟨rfl,s,rfl⟩,.refl _⟩,hv0',hσ,.refl _ _⟩
 ·have hcon:=Any8.slices_Grow_grow L i0 z hi0 hz0 hs0 a 0 0 n [] w (by omega) (by omega)
   (by have:(0+n) * i0.bytes≤137438953472 * 512:=Nat.mul_le_mul (by omega) hb
       omega) (by omega) (by simp) (fun _=>rfl) (fun _ _ j v h=>by simp at h)
  refine Calls.mono hcon fun en w' he=>?_
  obtain ⟨rfl,rfl⟩:=he
  obtain ⟨G,hG⟩:∃ G,G=grownCap w (0+n) 0 (ρ.t 25):=⟨_,rfl⟩
  have hGn:n≤G:=by rw [hG];have:=grownCap_ge w (0+n) 0 (ρ.t 25);omega
  rw [← hG]
  obtain ⟨xs,hxs⟩:∃ xs:List Value,xs=(Builtin.zeroCells z.cells (0+n-0)).toList++(Builtin.zeroCells z.cells (G-(0+n))).toList:=⟨_,rfl⟩
  have hxl:xs.length=G * i0.size:=by
   rw [hxs,List.length_append,Wo,Wo,hzs,← Nat.add_mul];congr 1;omega
  have hcs:(([]:List Value).toArray++Builtin.zeroCells z.cells (0+n-0)++Builtin.zeroCells z.cells (G-(0+n)))=xs.toArray:=by
   rw [hxs];apply Array.toList_inj.1;simp
  rw [hcs]
  have e1:=Ev.drew σ w
  have hz2:=dK (live σ) w xs
  have ho:=hσ.drew
  have e2:=Ev.alloc ho (.cells xs.toArray (ρ.t 25)) (.cells (xs.map cM))
  have ok:=ho.alloc (.cells xs.toArray (ρ.t 25)) (.cells (xs.map cM)) (df (ρ.t 25) hz2.1 (fun i c x hc hx=>((hz2.2 i c x hc hx).ev e1).ev e2))
  refine ⟨.val (.slice (some ⟨w.heap.size,0,none⟩) 0 G),(w.heap.size,.cells (xs.map cM))::σ,⟨_,rfl,.inr ⟨w.heap.size,G,xs.map cM,rfl,by rw [Zj];rfl,by simp [hxl],by omega,hσ.fresh (Nat.le_refl _)⟩,(Has.refl σ).cons _⟩,.val _,ok,e1.trans e2⟩
theorem Cl (n:Nat)(hn:n≤137438953472)(σ:Store)(s:Nat):Zi Tryz.prog 153 [.list .full s [],vi n] σ (fun r σ'=>∃ v,r=.ret v∧MW σ 6 σ' v []∧Has σ σ'):=by
 obtain ⟨i0,hi0,z0,hz0,h1,h2,h3⟩:∃ i0,Tryz.prog.info? 30=some i0∧∃ z,i0.zero=some z∧i0.size=6∧z.cells.size=6∧i0.bytes≤512:=by
  have hk:((Tryz.prog.info? 30).bind fun i=>i.zero.map fun z=>(i.size,z.cells.size,decide (i.bytes≤512)))=some (6,6,true):=by kernel_rfl
  cases hi:Tryz.prog.info? 30 with
  | none=>rw [hi] at hk;cases hk
  | some i =>
    rw [hi] at hk
    simp only [Option.bind_some] at hk
    cases hz:i.zero with
    | none=>rw [hz] at hk;cases hk
    | some z =>
      rw [hz] at hk
      simp only [Option.map_some,Option.some.injEq,Prod.mk.injEq,decide_eq_true_eq] at hk
      exact ⟨i,rfl,z,hz,hk⟩
 have h:=FR Tryz.growTrees i0 z0 hi0 hz0 (by omega) (by omega) h3 (by kernel_rfl) n hn σ s
 rw [h1] at h
 exact h
end Go.Vx
end
section
set_option maxRecDepth 100000
namespace Go.Vx
open Go.Proofs
theorem WR:(ZB Tryz.prog 99=some 110)∧(Zh Tryz.prog 110=some 3)∧(Ze Tryz.prog 110=some true)∧(Zl Tryz.prog 110=some (.agg #[(.int .i64 0),(.int .i64 0),(.slice none 0 0)]))∧(ZE Tryz.prog 110 1=some 2)∧(Zh Tryz.prog 108=some 1)∧(Ze Tryz.prog 108=some false)∧(ZB Tryz.prog 108=some 107)∧(Zh Tryz.prog 107=some 2)∧(Ze Tryz.prog 107=some true)∧(Tryz.prog.underlying 158=some (.map 107 4))∧(Zl Tryz.prog 4=some (.bool false))∧(Zl Tryz.prog 107=some (.agg #[(.bool false),(.string ⟨#[]⟩)]))∧(YD Tryz.prog 107=some [(0,1),(1,1)])∧(eqT Tryz.prog 107=some [1,2])∧(ZE Tryz.prog 107 1=some 1)∧(Zh Tryz.prog 9=some 1)∧(Ze Tryz.prog 9=some false)∧(Tryz.prog.underlying 159=some (.map 9 4))∧(Tryz.prog.underlying 9=some .string)∧(Tryz.prog.underlying 99=some (.slice 110)):=by
 refine ⟨?_,?_,?_,?_,?_,?_,?_,?_,?_,?_,?_,?_,?_,?_,?_,?_,?_,?_,?_,?_,?_⟩<;>first | trivial | kernel_rfl
def Sf {κ:Type}[DecidableEq κ](acc:List κ)(n:κ):List κ:=if n∈acc then acc else acc++[n]
def dd {κ:Type}[DecidableEq κ](l:List κ):List κ:=l.foldl Sf []
theorem TW {κ:Type}[DecidableEq κ]{acc:List κ}{n y:κ}:y∈Sf acc n↔y=n∨y∈acc:=by
 unfold Sf;split
 ·rename_i h;exact ⟨.inr,fun k=>k.elim (fun e=>e ▸ h) id⟩
 ·simp [or_comm]
theorem Pe {κ:Type}[DecidableEq κ]{acc:List κ}{n:κ}(h:acc.Nodup):(Sf acc n).Nodup:=by
 unfold Sf;split
 ·exact h
 ·rename_i hn;rw [List.nodup_append];exact ⟨h,by simp,fun a ha b hb e=>by simp at hb;subst hb;subst e;exact hn ha⟩
theorem Lh {κ:Type}[DecidableEq κ](acc:List κ)(n:κ):(Sf acc n).length≤acc.length+1:=by unfold Sf;split<;>simp
theorem T6 {κ:Type}[DecidableEq κ](l:List κ)(x:κ):dd (l++[x])=Sf (dd l) x:=by simp [dd,List.foldl_append]
theorem R4 {κ:Type}{M:List κ→Prop}(h0:M [])(h:∀ r x,M r→M (r++[x]))(l:List κ):M l:=by
 rw [← List.reverse_reverse l]
 induction l.reverse with
 | nil=>exact h0
 | cons x r ih=>rw [List.reverse_cons];exact h _ _ ih
theorem Tv {κ:Type}[DecidableEq κ](l:List κ)(y:κ):y∈dd l↔y∈l:=by
 induction l using R4 with
 | h0=>first | exact List.nodup_nil | simp [dd]
 | h r x ih=>rw [T6,TW,ih];simp [or_comm]
theorem MQ {κ:Type}[DecidableEq κ](l:List κ):(dd l).Nodup:=by
 induction l using R4 with
 | h0=>first | exact List.nodup_nil | simp [dd]
 | h r x ih=>rw [T6];exact Pe ih
theorem Em {κ:Type}[DecidableEq κ](l:List κ):(dd l).length≤l.length:=by
 induction l using R4 with
 | h0=>first | exact List.nodup_nil | simp [dd]
 | h r x ih=>rw [T6,List.length_append,List.length_singleton];have:=Lh (dd r) x;omega
theorem Ob {κ:Type}(acc:List κ):(Xq acc).map (·.1)=acc:=by
 unfold Xq
 rw [List.map_map]
 apply List.ext_getElem?
 intro i
 simp [List.getElem?_zipIdx,Function.comp_def]
theorem Qr {κ:Type}[DecidableEq κ](acc:List κ)(n:κ):VS (Xq acc) n (vb true) acc.length=Xq (Sf acc n)∧Uu (Xq acc) n acc.length=(Sf acc n).length:=by
 unfold VS Uu Sf
 rw [Ob]
 by_cases h:n∈acc
 ·rw [if_pos h,if_pos h,if_pos h]
  refine ⟨?_,rfl⟩
  have:∀ e∈Xq acc,(if e.1=n then (n,vb true,e.2.2) else e)=e:=by
   intro e he
   unfold Xq at he
   obtain ⟨p,_,rfl⟩:=List.mem_map.1 he
   split
   ·rename_i h;simp only at h;rw [h]
   ·rfl
  calc _=(Xq acc).map id:=List.map_congr_left this
   _=_:=by simp
 ·rw [if_neg h,if_neg h,if_neg h]
  refine ⟨?_,by simp⟩
  simp [Xq,List.zipIdx_append]
def YX:Cls:=⟨true,emptyS⟩
def Wa (l:List Row)(arg:Nat):List Cls:=l.map fun r=>r.classes.getD arg YX
def Z5 (l:List Row)(arg:Nat):List Str:=WW (dd (((Wa l arg).filter fun c=>!decide (c=YX)).map Cls.name))
theorem Sw (l:List Row)(arg:Nat)(hlen:l.length≤137438953472)(hc:∀ r∈l,arg<r.classes.length)(rt:Rt)(sz:Nat)(hs:sz=3∨l=[]):Pur Tryz.prog 53 [.list rt sz (cx l),vi (arg:Int)] (.list .none 1 (Tp (Z5 l arg))):=by
 intro σ
 refine Zi.nodup (by kernel_rfl) (fun hnd=>?_)
 have hw:∀ j:Nat,j≤137438953472→IntKind.i64.wrap ((j:Int)+1)=((j+1:Nat):Int):=fun j hj=>Zp (by omega) (by omega)
 refine Zb [] [] Tryz.func53 rfl (by kernel_rfl) ?_;rw [Tryz.ntmps53,Tryz.results53]
 refine fO ?_
 intro r5 h5
 try simp only [go_sem,seval,WR,cA]
 refine Zw (mu:=[]) (dr:=[]) [7,13,14,15,16,17,18,19,20,21,22,23] (fun i:Nat=>[(13,vi i)]) (fun i=>(r5,.map (ZR keC (Xq (dd (Wa (l.take i) arg)))) (dd (Wa (l.take i) arg)).length)::σ) (fun i=>i≤l.length) (fun i=>l.length-i) 0 (by kernel_rfl) (by omega) ⟨.refl _,trivial⟩ (.refl _) ?_
 rintro i hi
 try simp only [go_sem,seval,WR,cA]
 refine ⟨fun h1=>⟨?_,by omega,h1,fun c hcc=>?_⟩,fun h1=>?_⟩
 ·rcases hs with hs | hs
  ·rw [hs]
  ·rw [hs] at h1;simp at h1;omega
 ·rw [Int.toNat_natCast] at hcc
  obtain ⟨r,hr,rfl⟩:=db hcc
  have hra:=hc r (List.mem_of_getElem? hr)
  try simp only [go_sem,seval,WR,Row.emb]
  intro b7 hb7
  try simp only [go_sem,seval,WR,cO]
  refine ⟨by omega,by omega,fun c hcc=>?_⟩
  rw [Int.toNat_natCast] at hcc
  obtain ⟨k,hk,rfl⟩:=di hcc
  have hn:=T6 (Wa (l.take i) arg) k
  have hcl:Wa (l.take (i+1)) arg=Wa (l.take i) arg++[k]:=by
   unfold Wa;rw [List.take_add_one,hr,Option.toList_some,List.map_append]
   simp [List.getD_eq_getElem?_getD,hk]
  rw [← hcl] at hn
  try simp only [go_sem,seval,WR,Cls.emb]
  have g5:Store.get ((b7,AObj.cells [vi r.pick.rule,vi r.pick.alt,.list .none 2 (cp r.classes)])::(r5,.map (ZR keC (Xq (dd (Wa (l.take i) arg)))) (dd (Wa (l.take i) arg)).length)::σ) r5=some (.map (ZR keC (Xq (dd (Wa (l.take i) arg)))) (dd (Wa (l.take i) arg)).length):=by rw [Za (Ne.symm hb7.1),Zj]
  refine M9 WR.2.2.2.2.2.2.2.2.2.2.1 WR.2.2.2.2.2.2.2.2.2.2.2.2.2.2.1 (J5 k.any k.name) g5 ?_
  obtain ⟨u1,u2⟩:=Qr (dd (Wa (l.take i) arg)) k
  rw [show (⟨k.any,k.name⟩:Cls)=k from rfl,u1,u2,← hn,Zk (Ne.symm hb7.1),Yj]
  refine fO ?_
  rw [hw i (by omega)]
  exact .mk (i+1) (by omega) (by omega) ⟨.refl _,trivial⟩ (by repeat first | exact Zg.turn _ rfl | refine Zg.put rfl ?_) ((Sub.refl _).skip _)
 ·have hil:l.take i=l:=List.take_of_length_le (by omega)
  rw [hil]
  refine fO ?_
  intro r8 h8
  have n58:r8≠r5:=Ne.symm h8.1
  obtain ⟨C,hC⟩:∃ C,C=dd (Wa l arg):=⟨_,rfl⟩
  rw [← hC]
  refine ⟨r5,C.length,_,_,_,WR.2.2.2.2.2.2.2.2.2.2.1,rfl,by rw [Za n58,Zj],fun b26 hb26=>?_⟩
  refine fO ?_
  have n268:b26≠r8:=Ne.symm hb26.1
  have n265:b26≠r5:=Ne.symm hb26.2.1
  refine Zw (mu:=[]) (dr:=[]) [9,27,28,29,30,31,32,33,34,35,36] (fun _:List Nat×List Str=>[]) (fun x=>(b26,.iter (some r5) C.length x.1 C.length)::(r8,.map (ZR keS (Xq x.2)) x.2.length)::(r5,.map (ZR keC (Xq C)) C.length)::σ)
   (fun x=>x.2.Nodup∧(∀ s,s∈x.2→∃ c∈C,c≠YX∧c.name=s)∧(∀ i,i∈x.1→∀ c,C[i]?=some c→c≠YX→c.name∈x.2)∧x.2.length≤x.1.length∧x.1.length+((List.range C.length).filter (fun j=>decide (j ∉ x.1))).length≤C.length) (fun x=>((List.range C.length).filter (fun j=>decide (j ∉ x.1))).length) ([],[]) (by kernel_rfl) ⟨List.nodup_nil,by simp,by simp,by simp,by simp only [List.length_nil,Nat.zero_add];exact Nat.le_trans (List.length_filter_le _ _) (by simp)⟩ trivial (.refl _) ?_
  rintro ⟨seen,done⟩ ⟨j1,j2,j3,j4,j5⟩
  simp only at j1 j2 j3 j4 j5
  have gr5:∀ sn,Store.get ((b26,.iter (some r5) C.length sn C.length)::(r8,.map (ZR keS (Xq done)) done.length)::(r5,.map (ZR keC (Xq C)) C.length)::σ) r5=some (.map (ZR keC (Xq C)) C.length):=fun sn=>by rw [Za n265,Za n58,Zj]
  refine fO ?_
  refine ⟨b26,r5,C.length,ZR keC (Xq C),seen,rfl,Zj _ _ _,gr5 _,fun hall=>?_,fun e he hne=>?_⟩
  ·refine fO ?_
   have hCl:C.length≤l.length:=by rw [hC];exact Nat.le_trans (Em _) (by simp [Wa])
   refine (R2 done (by omega) _ r8 (by rw [Za n268,Zj])).only ?_
   refine fO ?_
   have hp:done.Perm (dd (((Wa l arg).filter fun c=>!decide (c=YX)).map Cls.name)):=by
    refine (List.perm_ext_iff_of_nodup j1 (MQ _)).2 (fun s=>?_)
    rw [Tv,List.mem_map]
    constructor
    ·intro hs
     obtain ⟨c,hc1,hc2,hc3⟩:=j2 s hs
     rw [hC,Tv] at hc1
     exact ⟨c,List.mem_filter.2 ⟨hc1,by simp [hc2]⟩,hc3⟩
    ·rintro ⟨c,hc1,rfl⟩
     obtain ⟨hc1,hc2⟩:=List.mem_filter.1 hc1
     have hm:c∈C:=by rw [hC,Tv];exact hc1
     obtain ⟨i,hi,rfl⟩:=List.getElem_of_mem hm
     exact j3 i (hall _ (VI.2 ⟨i,C[i],List.getElem?_eq_getElem hi,rfl⟩)) _ (List.getElem?_eq_getElem hi) (by simpa using hc2)
   have:WW done=Z5 l arg:=R3 VX TY ((Xz _ _).trans hp) (WK VX _)
   rw [this]
   exact ij
  ·obtain ⟨i,c,hci,rfl⟩:=VI.1 he
   simp only [Yj]
   refine fO ?_
   refine ⟨b26,r5,C.length,ZR keC (Xq C),seen,(keC c,vb true,i),rfl,Zj _ _ _,gr5 _,VI.2 ⟨i,c,hci,rfl⟩,?_⟩
   try simp only [go_sem,seval,WR,keC,Ej]
   intro b9 hb9
   refine fO ?_
   have hil:=(List.getElem?_eq_some_iff.1 hci).1
   have hlt:=TZ hil hne
   have hb:(decide (c.any=true)&&decide (c.name={ data:=#[] }))=decide (c=YX):=by
    obtain ⟨a,s⟩:=c
    simp [YX]
   rw [hb]
   by_cases hca:c=YX
   ·rw [decide_eq_true hca]
    refine fO ?_
    refine .mk (seen++[i],done) ⟨j1,j2,fun k hk c' hc' hn'=>?_,by simp only [List.length_append];omega,by simp only [List.length_append,List.length_singleton];omega⟩ hlt trivial (by repeat first | exact Zg.turn _ rfl | refine Zg.put rfl ?_) ((Sub.refl _).skip _)
    rcases List.mem_append.1 hk with h | h
    ·exact j3 k h c' hc' hn'
    ·simp at h;subst h;rw [hci] at hc';injection hc' with hc';exact absurd (hc' ▸ hca) hn'
   ·rw [decide_eq_false hca]
    refine fO ?_
    have n98:b9≠r8:=Ne.symm hb9.2.1
    refine Rm (l:=Xq done) (c:=done.length) WR.2.2.2.2.2.2.2.2.2.2.2.2.2.2.2.2.2.2.1 WR.2.2.2.2.2.2.2.2.2.2.2.2.2.2.2.2.2.2.2.1 (by rw [Za n98,Za n268,Zj]) ?_
    obtain ⟨u1,u2⟩:=Qr done c.name
    rw [u1,u2,Zk n98,Zk n268,Yj]
    refine fO ?_
    refine .mk (seen++[i],Sf done c.name) ⟨Pe j1,fun s hs=>?_,fun k hk c' hc' hn'=>?_,?_,by simp only [List.length_append,List.length_singleton];omega⟩ hlt trivial (by repeat first | exact Zg.turn _ rfl | refine Zg.put rfl ?_) ((Sub.refl _).skip _)
    ·rcases TW.1 hs with rfl | h
     ·exact ⟨c,List.mem_of_getElem? hci,hca,rfl⟩
     ·exact j2 s h
    ·rcases List.mem_append.1 hk with h | h
     ·exact TW.2 (.inr (j3 k h c' hc' hn'))
     ·simp at h;subst h;rw [hci] at hc';injection hc' with hc';exact TW.2 (.inl (by rw [hc']))
    ·have:=Lh done c.name
     simp only [List.length_append,List.length_singleton];omega
end Go.Vx
end
section
set_option maxRecDepth 100000
namespace Go.Vx
open Go.Proofs
def Ya:Tr→List Tr
 | .mk _ _ _ y c e=>y++e++c.map Cs.tree
def Tr.kind:Tr→Int
 | .mk k _ _ _ _ _=>k
mutual
def trN:Tr→Nat
 | .mk _ _ _ y c e=>WQ y+csN c+WQ e+1
def WQ:List Tr→Nat
 | []=>0
 | t::r=>trN t+WQ r
def csN:List Cs→Nat
 | []=>0
 | c::r=>Ax c+csN r
def Ax:Cs→Nat
 | .mk _ t=>trN t
end
theorem Er:∀ c:List Cs,csN c=WQ (c.map Cs.tree)
 | []=>rfl
 | .mk s t::r=>by simp only [csN,Ax,List.map_cons,WQ,Cs.tree,Er r]
theorem H4 (l m:List Tr):WQ (l++m)=WQ l+WQ m:=by
 induction l with
 | nil=>simp [WQ]
 | cons a r ih=>simp only [List.cons_append,WQ,ih];omega
theorem OD (t:Tr):trN t=WQ (Ya t)+1:=by
 cases t;simp only [trN,Ya,H4,Er];omega
theorem Ds (t:Tr):1≤trN t:=by rw [OD];omega
theorem H2 {l:List Tr}{x:Tr}(h:x∈l):trN x≤WQ l:=by
 induction l with
 | nil=>cases h
 | cons a r ih =>
   simp only [WQ]
   rcases List.mem_cons.1 h with rfl | h
   ·omega
   ·have:=ih h;omega
theorem H3 (l:List Tr):l.length≤WQ l:=by
 induction l with
 | nil=>simp [WQ]
 | cons a r ih=>have:=Ds a;simp only [WQ,List.length_cons];omega
theorem XQ {t x:Tr}(h:x∈Ya t):trN x<trN t:=by have:=H2 h;rw [OD t];omega
theorem Su (t:Tr):(Ya t).length<trN t:=by have:=H3 (Ya t);rw [OD t];omega
theorem VT {M:Tr→Prop}(h:∀ t,(∀ x,trN x<trN t→M x)→M t)(t:Tr):M t:=by
 suffices H:∀ n,∀ t,trN t=n→M t from H _ t rfl
 intro n
 induction n using Nat.strongRecOn with
 | _ n ih=>intro t e;exact h t (fun x hx=>ih _ (by omega) x rfl)
mutual
def Ww:Tr→Int→Int
 | .mk _ _ _ y c e,m=>OP c m (Y7 e m (Y7 y m 1))
def Y7:List Tr→Int→Int→Int
 | [],_,n=>n
 | t::r,m,n=>if m<n then n else Y7 r m (n+Ww t (m-n))
def OP:List Cs→Int→Int→Int
 | [],_,n=>n
 | c::r,m,n=>if m<n then n else OP r m (n+Bu c (m-n))
def Bu:Cs→Int→Int
 | .mk _ t,m=>Ww t m
end
theorem P2 (m:Int):∀ (c:List Cs) (n:Int),OP c m n=Y7 (c.map Cs.tree) m n
 | [],_=>rfl
 | .mk s t::r,n=>by simp only [OP,Bu,List.map_cons,Y7,Cs.tree,P2 m r]
theorem N4 {l:List Tr}{m n:Int}(h:m<n):Y7 l m n=n:=by
 cases l with
 | nil=>rfl
 | cons a r=>simp only [Y7,if_pos h]
theorem LN (l r:List Tr)(m n:Int):Y7 (l++r) m n=Y7 r m (Y7 l m n):=by
 induction l generalizing n with
 | nil=>rfl
 | cons a q ih =>
   simp only [List.cons_append,Y7]
   split
   ·rename_i h;rw [N4 h]
   ·exact ih _
theorem R6 (t:Tr)(m:Int):Ww t m=Y7 (Ya t) m 1:=by
 cases t;simp only [Ww,Ya,LN,P2]
theorem Gz (t:Tr):∀ m:Int,0≤m→1≤Ww t m∧Ww t m≤m+1:=by
 refine VT (M:=fun t=>∀ m:Int,0≤m→1≤Ww t m∧Ww t m≤m+1) (fun t ih m hm=>?_) t
 rw [R6]
 have:∀ (l:List Tr),(∀ x∈l,x∈Ya t)→∀ n:Int,1≤n→n≤m+1→n≤Y7 l m n∧Y7 l m n≤m+1:=by
  intro l
  induction l with
  | nil=>intro _ n h1 h2;exact ⟨Int.le_refl _,h2⟩
  | cons a r ihr =>
    intro hl n h1 h2
    simp only [Y7]
    split
    ·exact ⟨Int.le_refl _,h2⟩
    ·obtain ⟨b1,b2⟩:=ih a (XQ (hl a List.mem_cons_self)) (m-n) (by omega)
     obtain ⟨c1,c2⟩:=ihr (fun x hx=>hl x (List.mem_cons_of_mem _ hx)) (n+Ww a (m-n)) (by omega) (by omega)
     exact ⟨by omega,c2⟩
 have h:=this _ (fun _ h=>h) 1 (by omega) (by omega)
 exact h
mutual
def aV:Tr→Int→Int
 | .mk _ _ _ y c e,m=>(if 0<m then Bz c m (Fq e m (Fq y m 0)) else 0)+1
def Fq:List Tr→Int→Int→Int
 | [],_,n=>n
 | t::r,m,n=>Fq r m (max n (aV t (m-1)))
def Bz:List Cs→Int→Int→Int
 | [],_,n=>n
 | c::r,m,n=>Bz r m (max n (bP c (m-1)))
def bP:Cs→Int→Int
 | .mk _ t,m=>aV t m
end
def Tt {α:Type}(cmp:α→α→Int):List α→Bool
 | a::b::r=>decide (cmp a b<0)&&Tt cmp (b::r)
 | _=>true
theorem W2 {α:Type}{cmp:α→α→Int}:∀ (l:List α),Tt cmp l=true↔∀ (i:Nat) (a b:α),l[i]?=some a→l[i+1]?=some b→cmp a b<0
 | []=>by simp [Tt]
 | [a]=>by simp [Tt]
 | a::b::r=>by
   simp only [Tt,Bool.and_eq_true,decide_eq_true_eq,W2 (b::r)]
   constructor
   ·rintro ⟨h1,h2⟩ i x y hx hy
    cases i with
    | zero=>simp at hx hy;subst hx;subst hy;exact h1
    | succ i=>exact h2 i x y (by simpa using hx) (by simpa using hy)
   ·intro h
    exact ⟨h 0 a b rfl rfl,fun i x y hx hy=>h (i+1) x y (by simpa using hx) (by simpa using hy)⟩
def Cx (a b:Cs):Int:=UO a.name b.name
abbrev ML:=List (Int×AV×Nat)×Nat
def V1 (q:ML)(x:Int)(b:Bool):ML:=(VS q.1 x (vb b) q.2,Uu q.1 x q.2)
def XA (q:ML)(x:Int):Bool:=match XZ q.1 x with
 | some (.val (.bool b))=>b
 | _=>false
def WI (q:ML):Prop:=∀ x v,XZ q.1 x=some v→∃ b,v=vb b
def W5 (n:Int)(p:List Pick)(a:Int)(y:List Tr)(c:List Cs)(e:List Tr)(q:ML):Bool :=
 decide (a<0) || decide (n≤a) || XA q a || decide (y.length≠1) || decide (e.length≠1) || decide (c.length=0) || decide (0<p.length)
def SM:List Cs→Bool
 | []=>true
 | c::r=>decide (c.name=emptyS) || !Tt Cx (c::r)
mutual
def frm (n:Int):Tr→ML→Bool×ML
 | .mk k p a y c e,q =>
   if k=1 then (decide (a=0)&&decide ((Ya (.mk k p a y c e)).length=0)&&Tt VO p,q)
   else if k=2 then
    if W5 n p a y c e q || SM c then (false,q)
    else
     let r:=JQ n c (Yk n e (Yk n y (true,V1 q a true)))
     (r.1,V1 r.2 a false)
   else (false,q)
def Yk (n:Int):List Tr→Bool×ML→Bool×ML
 | [],q=>q
 | t::r,q=>if q.1 then Yk n r (frm n t q.2) else q
def JQ (n:Int):List Cs→Bool×ML→Bool×ML
 | [],q=>q
 | c::r,q=>if q.1 then JQ n r (aW n c q.2) else q
def aW (n:Int):Cs→ML→Bool×ML
 | .mk _ t,q=>frm n t q
end
theorem QQ (n:Int):∀ (c:List Cs) (q:Bool×ML),JQ n c q=Yk n (c.map Cs.tree) q
 | [],_=>rfl
 | .mk s t::r,q=>by simp only [JQ,aW,List.map_cons,Yk,Cs.tree,QQ n r]
theorem QP {n:Int}{l:List Tr}{q:Bool×ML}(h:q.1=false):Yk n l q=q:=by
 cases l with
 | nil=>rfl
 | cons a r=>simp only [Yk,h,Bool.false_eq_true,if_false]
theorem UZ (n:Int)(l r:List Tr)(q:Bool×ML):Yk n (l++r) q=Yk n r (Yk n l q):=by
 induction l generalizing q with
 | nil=>rfl
 | cons a m ih =>
   simp only [List.cons_append,Yk]
   split
   ·exact ih _
   ·rename_i h;rw [QP (by simpa using h)]
theorem Cp (n:Int)(p:List Pick)(a:Int)(y:List Tr)(c:List Cs)(e:List Tr)(q:ML):frm n (.mk 2 p a y c e) q=if W5 n p a y c e q || SM c then (false,q) else ((Yk n (y++e++c.map Cs.tree) (true,V1 q a true)).1,V1 (Yk n (y++e++c.map Cs.tree) (true,V1 q a true)).2 a false):=by
 simp only [frm,UZ,QQ]
 rw [if_neg (by decide),if_pos trivial]
def ZW (r:Row)(a:Int):Cls:=r.classes.getD a.toNat YX
def YY (a:Int)(r:Row):Row:=⟨r.pick,r.classes.set a.toNat YX⟩
def ofS (l:List Row)(a:Int)(c:Cls):List Row:=(l.filter fun r=>Z2 (ZW r a) c).map (YY a)
mutual
def Xn:Tr→List Row→Bool
 | .mk k p a y c e,l=>if k=1 then decide (p=l.map Row.pick)&&l.all (fun r=>r.classes.all Cls.any)
   else (Z5 l a.toNat).all (fun s=>decide (s∈c.map Cs.name))&&OT y (ofS l a YX)&&OT e (ofS l a ⟨false,emptyS⟩)&&V0 a l c
def OT:List Tr→List Row→Bool
 | [],_=>true
 | t::_,l=>Xn t l
def V0 (a:Int)(l:List Row):List Cs→Bool
 | []=>true
 | c::r=>GJ a l c&&V0 a l r
def GJ (a:Int)(l:List Row):Cs→Bool
 | .mk s t=>Xn t (ofS l a ⟨false,s⟩)
end
mutual
def WC:Tr→List Tm→List Pick
 | .mk k p a y c e,args=>if k=2 then
  (match args[a.toNat]? with
  | some t=>if (Xh t).any then Jv y args else WY (Xh t).name args (Jv e args) c
  | none=>[])
   else p
def Jv:List Tr→List Tm→List Pick
 | [],_=>[]
 | t::_,args=>WC t args
def WY (s:Str)(args:List Tm)(d:List Pick):List Cs→List Pick
 | []=>d
 | c::r=>if c.name=s then aO args c else WY s args d r
def aO (args:List Tm):Cs→List Pick
 | .mk _ t=>WC t args
end
def YS (B:List Row→Int→Option (Tr×Int))(l:List Row)(a:Int):List Str→Int→Option (List Cs×Int)
 | [],n=>some ([],n)
 | s::r,n=>match B (l.filter fun x=>Z2 (ZW x a) ⟨false,s⟩) n with
   | none=>none
   | some (t,n1)=>match YS B l a r n1 with
     | none=>none
     | some (cs,n2)=>some (.mk s t::cs,n2)
def VG (B:List Row→Int→Option (Tr×Int))(l:List Row)(a:Int)(ns:List Str)(left:Int):Option (Tr×Int) :=
 match B (l.filter fun x=>Z2 (ZW x a) YX) left with
 | none=>none
 | some (tA,n1)=>match YS B l a ns n1 with
   | none=>none
   | some (cs,n2)=>match B (l.filter fun x=>Z2 (ZW x a) ⟨false,emptyS⟩) n2 with
     | none=>none
     | some (tE,n3)=>some (.mk 2 [] a [tA] cs [tE],n3)
def Xk (n:Nat):Nat→List Row→Int→Option (Tr×Int)
 | 0,l,left=>some (.mk 1 (l.map Row.pick) 0 [] [] [],left)
 | k+1,l,left=>if Z5 l (n-(k+1))=[] then Xk n k l left
   else VG (fun l left=>if left-1<0 then none else Xk n k l (left-1)) l ((n-(k+1):Nat):Int) (Z5 l (n-(k+1))) left
def UQ (n k:Nat)(l:List Row)(left:Int):Option (Tr×Int):=if left-1<0 then none else Xk n k l (left-1)
def ZP (f:Flat)(pred:Str):Tr×Int :=
 if (ZM f pred).2.2≠0 then (.mk 0 [] 0 [] [] [],(ZM f pred).2.2)
 else match UQ (ZM f pred).2.1 (ZM f pred).2.1 (ZM f pred).1 4000 with
  | none=>(.mk 0 [] 0 [] [] [],2)
  | some (t,_)=>(t,0)
def YW (t:Tr)(n:Int):Bool:=decide (Ww t 4000≤4000)&&(frm n t ([],0)).1
def Nt (f:Flat)(pred:Str)(t:Tr):Int :=
 if (ZM f pred).2.2≠0 then (ZM f pred).2.2
 else if YW t ((ZM f pred).2.1:Nat)&&Xn t (ZM f pred).1 then 0 else 230
def Ul (l:List Tm):Bool:=l.all fun t=>decide (WL t=0)
def Yy (t:Tr)(args:List Tm):List Pick×Int :=
 if 8<args.length∨Ul args=false then ([],1)
 else if YW t (args.length:Nat)=false then ([],230)
 else (WC t args,0)
end Go.Vx
end
section
set_option maxRecDepth 100000
namespace Go.Vx
open Go.Proofs
theorem LE:(ZE Tryz.prog 30 3=some 3)∧(Zh Tryz.prog 27=some 1)∧(Ze Tryz.prog 27=some false)∧(ZE Tryz.prog 30 5=some 5)∧(ZB Tryz.prog 212=some 27)∧(Zl Tryz.prog 27=some (.slice none 0 0))∧(ZE Tryz.prog 30 4=some 4)∧(Zh Tryz.prog 28=some 1)∧(Ze Tryz.prog 28=some false)∧(ZB Tryz.prog 28=some 114)∧(Zh Tryz.prog 114=some 7)∧(Ze Tryz.prog 114=some true)∧(Zl Tryz.prog 114=some (.agg #[(.string ⟨#[]⟩),(.int .i64 0),(.slice none 0 0),(.int .i64 0),(.slice none 0 0),(.slice none 0 0),(.slice none 0 0)]))∧(ZE Tryz.prog 114 1=some 1)∧(Zh Tryz.prog 30=some 6)∧(Ze Tryz.prog 30=some true)∧(ZB Tryz.prog 27=some 30)∧(Zl Tryz.prog 30=some (.agg #[(.int .i64 0),(.slice none 0 0),(.int .i64 0),(.slice none 0 0),(.slice none 0 0),(.slice none 0 0)]))∧(Tryz.prog.underlying 28=some (.slice 114))∧(ZU Tryz.prog 30=some 112):=by
 refine ⟨?_,?_,?_,?_,?_,?_,?_,?_,?_,?_,?_,?_,?_,?_,?_,?_,?_,?_,?_,?_⟩<;>first | trivial | kernel_rfl
theorem Jq:(ZB Tryz.prog 108=some 107)∧(Zh Tryz.prog 107=some 2)∧(Zl Tryz.prog 107=some (.agg #[(.bool false),(.string ⟨#[]⟩)]))∧(ZU Tryz.prog 107=some 24):=by
 refine ⟨?_,?_,?_,?_⟩<;>first | trivial | kernel_rfl
theorem OG:(ZB Tryz.prog 26=some 32)∧(Zh Tryz.prog 32=some 2)∧(Zl Tryz.prog 32=some (.agg #[(.int .i64 0),(.int .i64 0)]))∧(ZU Tryz.prog 32=some 16):=by
 refine ⟨?_,?_,?_,?_⟩<;>first | trivial | kernel_rfl
theorem NX:(Zh Tryz.prog 30=some 6)∧(Ze Tryz.prog 30=some true)∧(ZB Tryz.prog 27=some 30)∧(Zl Tryz.prog 30=some (.agg #[(.int .i64 0),(.slice none 0 0),(.int .i64 0),(.slice none 0 0),(.slice none 0 0),(.slice none 0 0)]))∧(Tryz.prog.underlying 27=some (.slice 30)):=by
 refine ⟨?_,?_,?_,?_,?_⟩<;>first | trivial | kernel_rfl
def BH (ls:List (List Tr)):List (List AV):=ls.map fun l=>[AV.list .none 6 (cm l)]
theorem TA (ls:List (List Tr)):(BH ls).length=ls.length:=by simp [BH]
theorem Dr {a b:Nat}(h:a+b≤1000000000000):IntKind.i64.wrap ((a:Int)+(b:Int))=((a+b:Nat):Int):=Zp (by omega) (by omega)
theorem MW.appT {σ S:Store}{v:AV}{l m:List Tr}{rt:Rt}{s2:Nat}{K:AV→Store→Prop}(h:MW σ 6 S v (cm l))(hs2:s2=6∨cm m=[])(hl:l.length+m.length≤137438953472)(hH:Has σ S)
 (kk:∀ v' S',MW σ 6 S' v' (cm (l++m))→YB σ S S'→Has σ S'→K v' S'):Uo Tryz.prog 27 27 v (.list rt s2 (cm m)) S K :=
 MW.append h (dq l) (dq m) (du l) (du m) hs2 WU.2.2.2.2.2.2.2.1 WU.2.2.2.2.2.2.2.2.1 WU.2.2.2.2.2.2.2.2.2.1 WU.2.2.2.2.2.2.2.2.2.2 (by rw [WU.2.2.2.2.2.2.2.1];rfl) rfl (by decide) (by rw [cK,cK];exact hl) hH (fun v' S' h1 h2 h3=>kk v' S' (by rw [dH];exact h1) h2 h3)
theorem Et (ls:List (List Tr))(hls:ls.flatten.length≤137438953472)(hl:ls.length≤1000)(σ:Store):Zi Tryz.prog 123 [.list .full 1 (BH ls)] σ (fun r σ'=>∃ v,r=.ret v∧MW σ 6 σ' v (cm ls.flatten)∧Has σ σ'):=by
 refine Zb [33] [] Tryz.func123 rfl (by kernel_rfl) ?_;rw [Tryz.ntmps123,Tryz.results123]
 try simp only [go_sem,seval,WU,TA]
 have hpre:∀ i,(ls.take i).flatten.length≤ls.flatten.length:=by
  intro i
  have:ls.flatten=(ls.take i).flatten++(ls.drop i).flatten:=by rw [← List.flatten_append,List.take_append_drop]
  rw [this,List.length_append];omega
 have hstep:∀ (i:Nat) (l:List Tr),ls[i]?=some l→(ls.take (i+1)).flatten=(ls.take i).flatten++l:=by
  intro i l h
  rw [List.take_add_one,h,Option.toList_some,List.flatten_append];simp
 refine Zw (mu:=[33]) (dr:=[]) [3,5,11,12,13,14,15,16,17,18,19,20,21,22] (fun i:Nat=>[(11,vi i),(3,vi ((ls.take i).flatten.length:Nat))]) (fun _=>σ) (fun i=>i≤ls.length) (fun i=>ls.length-i) 0 (by kernel_rfl) (by omega) ⟨.refl _,.refl _,trivial⟩ (.refl _) ?_
 intro i hi
 try simp only [go_sem,seval,WU,TA]
 refine ⟨fun h1=>⟨by omega,h1,fun c hc=>?_⟩,fun h1=>?_⟩
 ·rw [Int.toNat_natCast] at hc
  obtain ⟨l,hl2,rfl⟩:=Yx hc
  have e1:=hstep i l hl2
  have e2:=hpre (i+1)
  rw [e1,List.length_append] at e2
  try simp only [go_sem,seval,WU,cK]
  rw [Dr (by omega)]
  have h0:((((ls.take i).flatten.length+l.length:Nat):Int)<0)=False:=eq_false (by omega)
  try simp only [go_sem,seval,WU,h0,decide_false]
  rw [show IntKind.i64.wrap ((i:Int)+1)=((i+1:Nat):Int) from Zp (by omega) (by omega)]
  exact .mk (i+1) (by omega) (by omega) ⟨.refl _,by simp only [e1,List.length_append];exact .refl _,trivial⟩ (by repeat first | exact Zg.turn _ rfl | refine Zg.put rfl ?_) (.refl _)
 ·have hil:ls.take i=ls:=List.take_of_length_le (by omega)
  rw [hil]
  try simp only [go_sem,seval,WU]
  refine (Cl ls.flatten.length hls σ 0).mono ?_
  rintro r σ' ⟨v0,rfl,hm,hh⟩
  try simp only [go_sem,seval,WU,TA]
  refine Zw (mu:=[33]) (dr:=[]) [6,8,27,28,29,30,31,32,33,34] (fun x:Nat×AV×Store=>[(27,vi x.1),(6,x.2.1)]) (fun x=>x.2.2) (fun x=>x.1≤ls.length∧MW σ 6 x.2.2 x.2.1 (cm (ls.take x.1).flatten)∧Has σ x.2.2) (fun x=>ls.length-x.1) (0,v0,σ') (by kernel_rfl) ⟨by simp,hm,hh⟩ ⟨.refl _,.refl _,trivial⟩ (.refl _) ?_
  rintro ⟨j,v,S⟩ ⟨j1,j2,j3⟩
  simp only at j1 j2 j3
  try simp only [go_sem,seval,WU,TA]
  refine ⟨fun h1=>⟨by omega,h1,fun c hc=>?_⟩,fun h1=>?_⟩
  ·rw [Int.toNat_natCast] at hc
   obtain ⟨l,hl2,rfl⟩:=Yx hc
   have e1:=hstep j l hl2
   have e2:=hpre (j+1)
   rw [e1,List.length_append] at e2
   try simp only [go_sem,seval,WU,j2.one.1,j2.one.2]
   refine j2.appT (.inl rfl) (by omega) j3 (fun v' S' hv' hk hS'=>?_)
   try simp only [go_sem,seval,WU,hv'.one.1,hv'.one.2]
   rw [show IntKind.i64.wrap ((j:Int)+1)=((j+1:Nat):Int) from Zp (by omega) (by omega)]
   exact .mk (j+1,v',S') ⟨by simp only;omega,by simp only [e1];exact hv',hS'⟩ (by simp only;omega) ⟨.refl _,.refl _,trivial⟩ (by repeat first | exact Zg.turn _ rfl | refine Zg.put rfl ?_) (.refl _)
  ·have hjl:ls.take j=ls:=List.take_of_length_le (by omega)
   rw [hjl] at j2
   try simp only [go_sem,seval,WU,j2.one.1,j2.one.2]
   exact .mk (.refl _) (.refl _) ⟨v,rfl,j2,j3⟩
theorem G1 (t:Tr)(hB:trN t≤1073741824):Pur Tryz.prog 83 [.agg t.emb] (.list .none 6 (cm (Ya t))):=by
 intro σ
 refine Zi.nodup (by kernel_rfl) (fun hnd=>?_)
 have hpl:=Su t
 obtain ⟨k,p,a,y,c,e⟩:=t
 simp only [ck]
 simp only [Ya,List.length_append,List.length_map] at hpl
 refine Zb [23] [] Tryz.func83 rfl (by kernel_rfl) ?_;rw [Tryz.ntmps83,Tryz.results83]
 try simp only [go_sem,seval,LE]
 refine ⟨rfl,(Et [y,e] (by simp;omega) (by simp) σ).mono ?_⟩
 rintro r σ' ⟨v0,rfl,hm,hh⟩
 have hye:[y,e].flatten=y++e:=by simp
 rw [hye] at hm
 try simp only [go_sem,seval,LE,hm.one.1,hm.one.2,cG]
 refine Zw (mu:=[23]) (dr:=[]) [3,5,15,16,17,18,19,20,21,22,23,24] (fun x:Nat×AV×Store=>[(15,vi x.1),(3,x.2.1)]) (fun x=>x.2.2) (fun x=>x.1≤c.length∧MW σ 6 x.2.2 x.2.1 (cm (y++e++(c.take x.1).map Cs.tree))∧Has σ x.2.2) (fun x=>c.length-x.1) (0,v0,σ') (by kernel_rfl) ⟨by simp,by simpa using hm,hh⟩ ⟨.refl _,.refl _,trivial⟩ (.refl _) ?_
 rintro ⟨j,v,S⟩ ⟨j1,j2,j3⟩
 simp only at j1 j2 j3
 try simp only [go_sem,seval,LE,cG]
 refine ⟨fun h1=>⟨by omega,h1,fun d hd=>?_⟩,fun h1=>?_⟩
 ·rw [Int.toNat_natCast] at hd
  obtain ⟨q,hq,rfl⟩:=cX hd
  obtain ⟨s,t⟩:=q
  obtain ⟨k1,p1,a1,y1,c1,e1⟩:=t
  try simp only [go_sem,seval,LE,dl]
  intro b5 hb5
  try simp only [go_sem,seval,LE,j2.one.1,j2.one.2]
  have hstep:y++e++(c.take (j+1)).map Cs.tree=(y++e++(c.take j).map Cs.tree)++[.mk k1 p1 a1 y1 c1 e1]:=by
   rw [List.take_add_one,hq,Option.toList_some,List.map_append];simp [Cs.tree]
  refine ⟨rfl,(j2.cons hb5 _).appT (m:=[.mk k1 p1 a1 y1 c1 e1]) (.inl rfl) (by simp;omega) (j3.cons _) (fun v' S' hv' hk hS'=>?_)⟩
  try simp only [go_sem,seval,LE,hv'.one.1,hv'.one.2]
  rw [show IntKind.i64.wrap ((j:Int)+1)=((j+1:Nat):Int) from Zp (by omega) (by omega)]
  exact .mk (j+1,v',S') ⟨by simp only;omega,by simp only [hstep];exact hv',hS'⟩ (by simp only;omega) ⟨.refl _,.refl _,trivial⟩ (by repeat first | exact Zg.turn _ rfl | refine Zg.put rfl ?_) (.refl _)
 ·have hjl:c.take j=c:=List.take_of_length_le (by omega)
  rw [hjl] at j2
  try simp only [go_sem,seval,LE,j2.one.1,j2.one.2]
  exact .mkS (j2.shift (dq _) (du _) (by rw [cK];simp;omega) j3 hnd) ⟨rfl,rfl⟩
abbrev bigN:Nat:=1073741824
theorem Me (t:Tr)(hB:trN t≤bigN):Pur Tryz.prog 83 [.agg t.emb] (.list .none 6 (cm (Ya t))):=G1 t hB
theorem BM (t:Tr):∀ (m:Int),trN t≤bigN→0≤m→m≤1000000→Pur Tryz.prog 80 [.agg t.emb,vi m] (vi (Ww t m)):=by
 refine VT (M:=fun t=>∀ (m:Int),trN t≤bigN→0≤m→m≤1000000→Pur Tryz.prog 80 [.agg t.emb,vi m] (vi (Ww t m))) (fun t ih m hB h0 h1=>?_) t
 intro σ
 have hpl:=Su t
 have hpc:=Me t hB
 have hbig:bigN=1073741824:=rfl
 rw [R6]
 have hmem:∀ x∈Ya t,trN x<trN t:=fun x hx=>XQ hx
 obtain ⟨l,hl⟩:∃ l,l=Ya t:=⟨_,rfl⟩
 rw [← hl] at hpc hmem hpl ⊢
 obtain ⟨k,p,a,y,c,e⟩:=t
 simp only [ck] at hpc ⊢
 refine Zb [] [] Tryz.func80 rfl (by kernel_rfl) ?_;rw [Tryz.ntmps80,Tryz.results80]
 try simp only [go_sem,seval,NX]
 refine hpc.use ?_
 try simp only [go_sem,seval,NX,cK]
 refine Zw (mu:=[]) (dr:=[]) [5,7,11,12,13,14,15,16,17,18,19,20,21,22,23,24,25] (fun x:Nat×Int=>[(11,vi x.1),(5,vi x.2)]) (fun _=>σ) (fun x=>x.1≤l.length∧Y7 l m 1=Y7 (l.drop x.1) m x.2∧1≤x.2∧x.2≤m+1) (fun x=>l.length-x.1) (0,1) (by kernel_rfl) ⟨by simp,by simp,by simp,by simp;omega⟩ ⟨.refl _,.refl _,trivial⟩ (.refl _) ?_
 rintro ⟨i,n⟩ ⟨i1,i2,i3,i4⟩
 simp only at i1 i2 i3 i4
 try simp only [go_sem,seval,NX,cK]
 refine ⟨fun h1=>⟨by omega,h1,fun d hd=>?_⟩,fun h1=>?_⟩
 ·rw [Int.toNat_natCast] at hd
  obtain ⟨q,hq,rfl⟩:=dD hd
  have hd:l.drop i=q::l.drop (i+1):=List.drop_eq_getElem_cons (List.getElem?_eq_some_iff.1 hq).1 |>.trans (by rw [(List.getElem?_eq_some_iff.1 hq).2])
  have hqm:=hmem q (List.mem_of_getElem? hq)
  have hsz:=Gz q (m-n)
  have ihq:=fun (h:n≤m)=>ih q hqm (m-n) (by omega) (by omega) (by omega)
  rw [hd] at i2
  simp only [Y7] at i2
  obtain ⟨k1,p1,a1,y1,c1,e1⟩:=q
  try simp only [go_sem,seval,NX,ck]
  intro b7 hb7
  try simp only [go_sem,seval,NX]
  refine ⟨fun h2=>?_,fun h2=>?_⟩
  ·rw [if_pos h2] at i2
   try simp only [go_sem,seval,NX]
   rw [i2]
   exact fk
  ·rw [if_neg h2] at i2
   rw [Zp (x:=m-n) (by omega) (by omega)]
   refine (ihq (by omega)).use ?_
   have hs:=hsz (by omega)
   try simp only [go_sem,seval,NX]
   rw [show IntKind.i64.wrap ((i:Int)+1)=((i+1:Nat):Int) from Zp (by omega) (by omega),Zp (x:=n+_) (by omega) (by omega)]
   exact .mk (i+1,_) ⟨by simp only;omega,i2,by simp only;omega,by simp only;omega⟩ (by simp only;omega) ⟨.refl _,.refl _,trivial⟩ (by repeat first | exact Zg.turn _ rfl | refine Zg.put rfl ?_) ((Sub.refl _).skip _)
 ·rw [List.drop_of_length_le (by omega)] at i2
  try simp only [go_sem,seval,NX]
  exact WH i2.symm
theorem dA (l:List Pick):∀ e∈cj l,e.length=2:=fun e he=>by obtain ⟨t,_,rfl⟩:=List.mem_map.1 he;rfl
theorem dx (l:List Pick):(cj l).flatten.all AV.one=true:=Pb _ (fun p=>rfl) l
theorem MT (l:List Pick)(rt:Rt)(s:Nat)(hs:s=2∨l=[]):Pur Tryz.prog 65 [.list rt s (cj l)] (.list .none 2 (cj l)):=by
 intro σ
 refine Zi.nodup (by kernel_rfl) (fun hnd=>?_)
 refine Zi.ok (by kernel_rfl) (fun hok=>?_)
 have hl:=(hok _ List.mem_cons_self).len
 rw [cd] at hl
 clear hok
 refine Zb [7] [] Tryz.func65 rfl (by kernel_rfl) ?_;rw [Tryz.ntmps65,Tryz.results65]
 try simp only [go_sem,seval,OG]
 intro b hb
 cases b with
 | true =>
   have:l=[]:=by have:=hb rfl;simpa [cj] using this
   subst this
   try simp only [go_sem,seval,OG]
   exact ZF (.nilA _ _ _) (.refl _)
 | false =>
   try simp only [go_sem,seval,OG]
   refine ⟨rfl,MW.append (sz:=2) (σ:=σ) (es:=[]) (.inl ⟨rfl,_,rfl⟩) (by simp) (dA l) (by simp) (dx l) (hs.imp id (fun h=>by rw [h];rfl)) OG.1 OG.2.1 OG.2.2.1 OG.2.2.2 (by rw [OG.1];rfl) rfl (by decide) (by simp [cd];omega) (.refl _) (fun v' S' h1 _ h3=>?_)⟩
   try simp only [go_sem,seval,OG,h1.one.1,h1.one.2]
   exact .mkS (h1.shift (dA l) (dx l) (by simpa [cd] using hl) h3 hnd) ⟨rfl,rfl⟩
theorem Ua (l:List Cls)(hne:l≠[])(rt:Rt)(s:Nat)(hs:s=2∨l=[])(σ:Store):Zi Tryz.prog 113 [.list rt s (cp l)] σ (fun r σ'=>∃ b cap rest,Zx σ b∧l.length≤cap∧l.length≤137438953472∧r=.ret (.val (.slice (some ⟨b,0,none⟩) l.length cap))∧σ'=(b,.cells ((cp l).flatten++rest))::σ):=by
 refine Zi.ok (by kernel_rfl) (fun hok=>?_)
 have hl:=(hok _ List.mem_cons_self).len
 rw [cO] at hl
 clear hok
 refine Zb [7] [] Tryz.func113 rfl (by kernel_rfl) ?_;rw [Tryz.ntmps113,Tryz.results113]
 try simp only [go_sem,seval,Jq]
 intro b hb
 cases b with
 | true=>exact absurd (by have:=hb rfl;simpa [cp] using this) hne
 | false =>
   try simp only [go_sem,seval,Jq]
   unfold Uo
   simp only [Jq]
   refine ⟨rfl,rfl,rfl,by decide,hs.imp id (fun h=>by rw [h];rfl),dc l,by simpa [lim,cO] using hl,by simp,by simp,fun h=>absurd (by simpa [cp] using h) hne,fun _ b nc zs hb2 hnc hzs=>?_⟩
   simp only [List.length_nil,Nat.zero_add,cO] at hnc hzs ⊢
   try simp only [go_sem,seval,Jq]
   exact .mk (.refl _) (.refl _) ⟨b,nc,zs,hb2,hnc,hl,rfl,by simp⟩
end Go.Vx
end
