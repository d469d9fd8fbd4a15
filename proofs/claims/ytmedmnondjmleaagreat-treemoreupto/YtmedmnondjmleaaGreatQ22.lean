/- Part Q22 of the proof of treeMoreProved: the walk of the program on abstract values, and the plain law. -/
import Derived.Test.YtmedmnondjmleaaGreatQ21
import Derived.Test.YtmedmnondjmleaaGreatQ20
import Derived.Test.YtmedmnondjmleaaGreatQ15
set_option linter.unusedVariables false
set_option linter.unusedSimpArgs false
section
set_option maxRecDepth 100000
namespace Go.Vx
open Go.Proofs
theorem PV:(Zh Tryz.prog 226=some 1)∧(Ze Tryz.prog 226=some false)∧(Tryz.prog.underlying 226=some (.map 3 4))∧(Tryz.prog.underlying 3=some (.int .i64))∧(Zl Tryz.prog 4=some (.bool false)):=by
 refine ⟨?_,?_,?_,?_,?_⟩<;>first | trivial | kernel_rfl
theorem Qq {A:List Int}{e:Value×AV×Nat}:e∈ZR keI (Ym A)↔∃ (i:Nat) (x:Int),A[i]?=some x∧e=(keI x,vb true,i):=by
 unfold ZR Ym
 rw [List.map_map,List.mem_map]
 constructor
 ·rintro ⟨⟨x,i⟩,h,rfl⟩
  rw [List.mem_zipIdx_iff_getElem?] at h
  exact ⟨i,x,h,rfl⟩
 ·rintro ⟨i,x,h,rfl⟩
  exact ⟨(x,i),List.mem_zipIdx_iff_getElem?.2 h,rfl⟩
theorem Mj (acc:List Int)(n:Int):VS (Ym acc) n (vb true) acc.length=Ym (Ve acc n)∧Uu (Ym acc) n acc.length=(Ve acc n).length:=by
 by_cases h:n∈acc
 ·unfold VS Uu Ve
  rw [UW,if_pos h,if_pos h,if_pos h]
  refine ⟨?_,rfl⟩
  have:∀ e∈Ym acc,(if e.1=n then (n,vb true,e.2.2) else e)=e:=by
   intro e he
   unfold Ym at he
   obtain ⟨p,_,rfl⟩:=List.mem_map.1 he
   split
   ·rename_i h;simp only at h;rw [h]
   ·rfl
  calc _=(Ym acc).map id:=List.map_congr_left this
   _=_:=by simp
 ·have:Ve acc n=acc++[n]:=by unfold Ve;rw [if_neg h]
  rw [this];exact TX acc n h
theorem TV {acc:List Int}{n y:Int}:y∈Ve acc n↔y=n∨y∈acc:=by
 unfold Ve;split
 ·rename_i h;exact ⟨.inr,fun k=>k.elim (fun e=>e ▸ h) id⟩
 ·simp [or_comm]
theorem TZ {L:Nat}{seen:List Nat}{i:Nat}(hi:i<L)(hs:i ∉ seen):((List.range L).filter (fun j=>decide (j ∉ seen++[i]))).length<((List.range L).filter (fun j=>decide (j ∉ seen))).length:=by
 have h1:(List.range L).filter (fun j=>decide (j ∉ seen++[i]))=((List.range L).filter (fun j=>decide (j ∉ seen))).filter (fun j=>decide (j≠i)):=by
  rw [List.filter_filter]
  apply List.filter_congr
  intro j _
  simp [not_or,and_comm]
 rw [h1]
 refine List.length_filter_lt_length_iff_exists.2 ⟨i,?_,by simp⟩
 simp [hi,hs]
theorem HZ (σ:Store)(r:Nat)(A:List Int)(n:Int)(g:σ.get r=some (.map (ZR keI (Ym A)) A.length)) :
 Zi Tryz.prog 216 [.val (.map (some r)),vi n] σ (fun x S'=>∃ r' A',x=.ret (.val (.map (some r')))∧Zx σ r'∧S'=(r',.map (ZR keI (Ym A')) A'.length)::σ∧∀ y,y∈A'↔y=n∨y∈A):=by
 have e0:VS (Ym []) n (vb true) 0=Ym [n]∧Uu (Ym []) n 0=1:=TX [] n (by simp)
 have z0:([]:List (Value×AV×Nat))=ZR keI (Ym []):=rfl
 refine Zb [] [] Tryz.func216 rfl (by kernel_rfl) ?_;rw [Tryz.ntmps216,Tryz.results216]
 refine ed ?_
 intro r1 h1
 refine ed ?_
 rw [z0]
 refine Xm Wf.1 Wf.2.1 (Zj _ _ _) ?_
 rw [e0.1,e0.2,Yj]
 refine ed ?_
 have hr1:r1≠r:=fun e=>by have:=Zm h1;rw [e,g] at this;cases this
 refine ⟨r,A.length,_,_,_,Wf.1,rfl,(by rw [Za hr1];exact g),fun b2 hb2=>?_⟩
 refine ed ?_
 refine Zw (mu:=[]) (dr:=[]) [6,12,13,14,15,16,17] (fun _:List Nat×List Int=>[]) (fun x=>(b2,.iter (some r) A.length x.1 A.length)::(r1,.map (ZR keI (Ym x.2)) x.2.length)::σ)
  (fun x=>(∀ y∈x.2,y=n∨y∈A)∧n∈x.2∧(∀ i,i∈x.1→∀ y,A[i]?=some y→y∈x.2)) (fun x=>((List.range A.length).filter (fun j=>decide (j ∉ x.1))).length) ([],[n]) (by kernel_rfl) ⟨by simp,by simp,by simp⟩ trivial (.refl _) ?_
 rintro ⟨seen,B⟩ ⟨i1,i2,i3⟩
 simp only at i1 i2 i3
 have gr:Store.get ((b2,.iter (some r) A.length seen A.length)::(r1,.map (ZR keI (Ym B)) B.length)::σ) r=some (.map (ZR keI (Ym A)) A.length):=by
  rw [Za (fun e=>by have:=Zm hb2.2;rw [e,g] at this;cases this),Za hr1,g]
 refine ed ?_
 refine ⟨b2,r,A.length,ZR keI (Ym A),seen,rfl,Zj _ _ _,gr,fun hall=>?_,fun e he hne=>?_⟩
 ·refine ed ?_
  refine .mk (.refl _) ((Sub.refl _).skip _) ⟨r1,B,rfl,h1,rfl,fun y=>⟨i1 y,fun h=>?_⟩⟩
  rcases h with rfl | h
  ·exact i2
  ·obtain ⟨i,hi,rfl⟩:=List.getElem_of_mem h
   exact i3 i (hall _ (Qq.2 ⟨i,A[i],List.getElem?_eq_getElem hi,rfl⟩)) _ (List.getElem?_eq_getElem hi)
 ·obtain ⟨i,y,hy,rfl⟩:=Qq.1 he
  simp only [Yj]
  refine ed ?_
  have gr2:Store.get ((b2,.iter (some r) A.length (seen++[i]) A.length)::(r1,.map (ZR keI (Ym B)) B.length)::σ) r=some (.map (ZR keI (Ym A)) A.length):=by
   rw [Za (fun e=>by have:=Zm hb2.2;rw [e,g] at this;cases this),Za hr1,g]
  refine ⟨b2,r,A.length,ZR keI (Ym A),seen,(keI y,vb true,i),rfl,Zj _ _ _,gr2,Qq.2 ⟨i,y,hy,rfl⟩,?_⟩
  try simp only [go_sem,Int.reduceEq,Int.reduceLT,Int.reduceLE,↓reduceIte,Nat.reduceEqDiff,Nat.reduceAdd,Nat.reduceSub,Nat.reduceLT,Nat.reduceLeDiff,Nat.reduceMul,reduceCtorEq,Wf,keI]
  have h12:b2≠r1:=Ne.symm hb2.1
  refine Xm (l:=Ym B) (c:=B.length) Wf.1 Wf.2.1 (by rw [Za h12,Zj]) ?_
  obtain ⟨u1,u2⟩:=Mj B y
  rw [u1,u2,Zk h12,Yj]
  refine ed ?_
  refine .mk (seen++[i],Ve B y) ⟨fun z hz=>?_,TV.2 (.inr i2),fun j hj z hz=>?_⟩ (TZ (List.getElem?_eq_some_iff.1 hy).1 hne) trivial (by repeat first | exact Zg.turn _ rfl | refine Zg.put rfl ?_) (.refl _)
  ·rcases TV.1 hz with rfl | h
   ·exact .inr (List.mem_of_getElem? hy)
   ·exact i1 z h
  ·rcases List.mem_append.1 hj with h | h
   ·exact TV.2 (.inr (i3 j h z hz))
   ·rw [List.mem_singleton.1 h,hy] at hz;injection hz with hz;exact TV.2 (.inl hz.symm)
theorem Pk.one {b:Nat→Bool}{n:Nat}{c:Bool}{σ σ':Store}{r:ZQ}(h:Pk b n (fun _=>σ) r σ')(hc:c=true↔∃ i,i<n∧b i=true):r=.ret (vb c)∧σ'=σ:=by
 rcases h with ⟨i,hi,hb,_,rfl,rfl⟩ | ⟨hn,rfl,rfl⟩
 ·rw [hc.2 ⟨i,hi,hb⟩];exact ⟨rfl,rfl⟩
 ·have:c=false:=by
   cases hcc:c with
   | false=>rfl
   | true=>obtain ⟨i,hi,hb⟩:=hc.1 hcc;rw [hn i hi] at hb;cases hb
  rw [this];exact ⟨rfl,rfl⟩
theorem Zi.only {P:Program}{k:FuncId}{args:List AV}{v:AV}{σ:Store}{K:ZQ→Store→Prop}(h:Zi P k args σ (Yn v σ))(hk:K (.ret v) σ):Zi P k args σ K :=
 h.mono fun r σ' ⟨e,e'⟩=>by rw [e,e'];exact hk
theorem H6 (A:List Int)(r bc:Nat)(n:Int)(σ:Store)(gc:σ.get bc=some (.cells [.val (.map (some r))]))(g:σ.get r=some (.map (ZR keI (Ym A)) A.length)) :
 Zi Tryz.prog 222 [vi n,.val (.pointer (some ⟨bc,0,none⟩))] σ (Yn (vb (!decide (n∈A))) σ):=by
 refine Zb [] [] Tryz.func222 rfl (by kernel_rfl) ?_;rw [Tryz.ntmps222,Tryz.results222]
 try simp only [go_sem,Int.reduceEq,Int.reduceLT,Int.reduceLE,↓reduceIte,Nat.reduceEqDiff,Nat.reduceAdd,Nat.reduceSub,Nat.reduceLT,Nat.reduceLeDiff,Nat.reduceMul,reduceCtorEq,PU,gc]
 refine U4 (z:=.bool false) PU.2.2.1 PU.2.2.2.1 PU.2.2.2.2 g ?_
 rw [Ml,SA]
 by_cases h:n∈A
 ·rw [if_pos h,decide_eq_true h]
  try simp only [go_sem,Int.reduceEq,Int.reduceLT,Int.reduceLE,↓reduceIte,Nat.reduceEqDiff,Nat.reduceAdd,Nat.reduceSub,Nat.reduceLT,Nat.reduceLeDiff,Nat.reduceMul,reduceCtorEq,PU,Option.getD_some]
  exact Zv
 ·rw [if_neg h,decide_eq_false h]
  try simp only [go_sem,Int.reduceEq,Int.reduceLT,Int.reduceLE,↓reduceIte,Nat.reduceEqDiff,Nat.reduceAdd,Nat.reduceSub,Nat.reduceLT,Nat.reduceLeDiff,Nat.reduceMul,reduceCtorEq,PU,Option.getD_none]
  exact Zv
theorem NW (A:List Int)(r bc:Nat)(l:List Int)(rt:Rt)(s:Nat)(hs:s=1∨l=[])(σ:Store)(gc:σ.get bc=some (.cells [.val (.map (some r))]))(g:σ.get r=some (.map (ZR keI (Ym A)) A.length)) :
 Zi Tryz.prog 217 [.list rt s (Yw l),.val (.func (.func 222) #[] #[.pointer (some ⟨bc,0,none⟩)])] σ (Yn (vb (l.any fun n=>!decide (n∈A))) σ):=by
 have h:=VN (.func (.func 222) #[] #[.pointer (some ⟨bc,0,none⟩)]) rt s (l.map vi) (fun _=>σ) (fun i=>match l[i]? with | some n=>!decide (n∈A) | none=>false) (hs.imp id (fun h=>by rw [h];rfl))
  (fun i e he _=>by
   obtain ⟨n,hn,rfl⟩:=Yx he
   rw [Y8]
   simp only [hn]
   exact H6 A r bc n σ gc g)
 rw [List.map_map,List.length_map] at h
 refine h.mono fun x σ' hx=>?_
 refine hx.one ?_
 rw [List.any_eq_true]
 constructor
 ·rintro ⟨n,hn,hb⟩
  obtain ⟨i,hi,rfl⟩:=List.getElem_of_mem hn
  exact ⟨i,hi,by simp only [List.getElem?_eq_getElem hi];exact hb⟩
 ·rintro ⟨i,hi,hb⟩
  simp only [List.getElem?_eq_getElem hi] at hb
  exact ⟨l[i],List.getElem_mem hi,hb⟩
theorem Co (A:List Int)(r bc:Nat)(n:Int)(σ:Store)(gc:σ.get bc=some (.cells [.val (.map (some r))]))(g:σ.get r=some (.map (ZR keI (Ym A)) A.length)) :
 Zi Tryz.prog 218 [vi n,.val (.pointer (some ⟨bc,0,none⟩))] σ (Yn (vb (!decide (n∈A))) σ):=by
 refine Zb [] [] Tryz.func218 rfl (by kernel_rfl) ?_;rw [Tryz.ntmps218,Tryz.results218]
 try simp only [go_sem,Int.reduceEq,Int.reduceLT,Int.reduceLE,↓reduceIte,Nat.reduceEqDiff,Nat.reduceAdd,Nat.reduceSub,Nat.reduceLT,Nat.reduceLeDiff,Nat.reduceMul,reduceCtorEq,PV,gc]
 refine U4 (z:=.bool false) PV.2.2.1 PV.2.2.2.1 PV.2.2.2.2 g ?_
 rw [Ml,SA]
 by_cases h:n∈A
 ·rw [if_pos h,decide_eq_true h]
  try simp only [go_sem,Int.reduceEq,Int.reduceLT,Int.reduceLE,↓reduceIte,Nat.reduceEqDiff,Nat.reduceAdd,Nat.reduceSub,Nat.reduceLT,Nat.reduceLeDiff,Nat.reduceMul,reduceCtorEq,PV,Option.getD_some]
  exact Zv
 ·rw [if_neg h,decide_eq_false h]
  try simp only [go_sem,Int.reduceEq,Int.reduceLT,Int.reduceLE,↓reduceIte,Nat.reduceEqDiff,Nat.reduceAdd,Nat.reduceSub,Nat.reduceLT,Nat.reduceLeDiff,Nat.reduceMul,reduceCtorEq,PV,Option.getD_none]
  exact Zv
theorem QL (A:List Int)(r bc:Nat)(l:List Int)(rt:Rt)(s:Nat)(hs:s=1∨l=[])(σ:Store)(gc:σ.get bc=some (.cells [.val (.map (some r))]))(g:σ.get r=some (.map (ZR keI (Ym A)) A.length)) :
 Zi Tryz.prog 217 [.list rt s (Yw l),.val (.func (.func 218) #[] #[.pointer (some ⟨bc,0,none⟩)])] σ (Yn (vb (l.any fun n=>!decide (n∈A))) σ):=by
 have h:=VN (.func (.func 218) #[] #[.pointer (some ⟨bc,0,none⟩)]) rt s (l.map vi) (fun _=>σ) (fun i=>match l[i]? with | some n=>!decide (n∈A) | none=>false) (hs.imp id (fun h=>by rw [h];rfl))
  (fun i e he _=>by
   obtain ⟨n,hn,rfl⟩:=Yx he
   rw [Y8]
   simp only [hn]
   exact Co A r bc n σ gc g)
 rw [List.map_map,List.length_map] at h
 refine h.mono fun x σ' hx=>?_
 refine hx.one ?_
 rw [List.any_eq_true]
 constructor
 ·rintro ⟨n,hn,hb⟩
  obtain ⟨i,hi,rfl⟩:=List.getElem_of_mem hn
  exact ⟨i,hi,by simp only [List.getElem?_eq_getElem hi];exact hb⟩
 ·rintro ⟨i,hi,hb⟩
  simp only [List.getElem?_eq_getElem hi] at hb
  exact ⟨l[i],List.getElem_mem hi,hb⟩
def XO (A:List Int)(t:Tm):Bool:=decide (WL t=0)&&Sa t&&(Th t 3).isEmpty&&!((Th t 4).any fun n=>!decide (n∈A))
theorem VV (A:List Int)(r:Nat)(l:List Tm)(rt:Rt)(s:Nat)(hs:s=4∨l=[])(σ:Store)(g:σ.get r=some (.map (ZR keI (Ym A)) A.length)) :
 Zi Tryz.prog 167 [.val (.map (some r)),.list rt s (cw l)] σ (Yn (vb (l.all (XO A))) σ):=by
 refine Zi.ok (by kernel_rfl) (fun hok=>?_)
 have hl:=(hok _ (List.mem_cons_of_mem _ List.mem_cons_self)).len
 rw [bX] at hl
 clear hok
 refine Zb [2] [] Tryz.func167 rfl (by kernel_rfl) ?_;rw [Tryz.ntmps167,Tryz.results167]
 refine fd ?_
 intro b2 hb2
 refine fd ?_
 refine Zw (mu:=[]) (dr:=[]) [4,6,9,10,11,12,13,14,15,16,17,18,19,20,21,22,23,24,25,26,27,28,29,30,31] (fun i:Nat=>[(9,vi i)]) (fun _=>(b2,.cells [.val (.map (some r))])::σ) (fun i=>i≤l.length∧(l.take i).all (XO A)=true) (fun i=>l.length-i) 0 (by kernel_rfl) ⟨by omega,by simp⟩ ⟨.refl _,trivial⟩ (.refl _) ?_
 rintro i ⟨hi,hb⟩
 try simp only [go_sem,Int.reduceEq,Int.reduceLT,Int.reduceLE,↓reduceIte,Nat.reduceEqDiff,Nat.reduceAdd,Nat.reduceSub,Nat.reduceLT,Nat.reduceLeDiff,Nat.reduceMul,reduceCtorEq,WS,bX]
 refine ⟨fun h1=>⟨?_,by omega,h1,fun e he=>?_⟩,fun h1=>?_⟩
 ·rcases hs with hs | hs
  ·rw [hs]
  ·rw [hs] at h1;simp at h1;omega
 ·rw [Int.toNat_natCast] at he
  obtain ⟨t,ht,rfl⟩:=cL he
  have h1r:=JA t
  have h1c:=Ew t
  have h1p:=Ad t
  have h1v:=BG t
  have hd:XO A t=(decide (WL t=0)&&Sa t&&(Th t 3).isEmpty&&!((Th t 4).any fun n=>!decide (n∈A))):=rfl
  have hsp:l.all (XO A)=(XO A t&&(l.drop (i+1)).all (XO A)):=by
   have:=Yz ht
   rw [this]
   rw [List.all_append,hb,List.all_cons,← this];simp
  generalize WL t=e at h1r hd
  generalize Sa t=c at h1c hd
  generalize Th t 3=p3 at h1p hd
  generalize Th t 4=p4 at h1v hd
  have hnx:(l.take (i+1)).all (XO A)=XO A t:=by rw [List.take_add_one,ht,Option.toList_some,List.all_append,hb];simp
  generalize XO A t=q at hd hsp hnx
  obtain ⟨ka,na,sa,la⟩:=t
  simp only [cg] at h1r h1c h1p h1v
  try simp only [go_sem,Int.reduceEq,Int.reduceLT,Int.reduceLE,↓reduceIte,Nat.reduceEqDiff,Nat.reduceAdd,Nat.reduceSub,Nat.reduceLT,Nat.reduceLeDiff,Nat.reduceMul,reduceCtorEq,WS,cg]
  intro b6 hb6
  have gr:Store.get ((b6,.cells [.val (.int .i64 ka),.val (.int .i64 na),.val (.string sa),.list .none 4 (cw la)])::(b2,.cells [.val (.map (some r))])::σ) r=some (.map (ZR keI (Ym A)) A.length):=by
   rw [Za (fun e=>by have:=Zm hb6.2;rw [e,g] at this;cases this),Za (fun e=>by have:=Zm hb2;rw [e,g] at this;cases this),g]
  refine eM ?_
  refine h1r.use ?_
  refine eM ?_
  refine ⟨fun e0=>?_,fun e0=>?_⟩
  ·refine h1c.use ?_
   cases c with
   | false =>
     refine eB ?_
     have hq:q=false:=by rw [hd];simp_all
     rw [hsp,hq]
     exact eD
   | true =>
     refine eM ?_
     refine h1p.use ?_
     cases p3 with
     | cons x p3 =>
       refine eB ?_
       refine ⟨fun _=>?_,fun h=>absurd h (by omega)⟩
       refine eB ?_
       have hq:q=false:=by rw [hd];simp_all
       rw [hsp,hq]
       exact eD
     | nil =>
       try simp only [go_sem,Int.reduceEq,Int.reduceLT,Int.reduceLE,↓reduceIte,Nat.reduceEqDiff,Nat.reduceAdd,Nat.reduceSub,Nat.reduceLT,Nat.reduceLeDiff,Nat.reduceMul,reduceCtorEq,WS,hb6,List.map_nil,List.length_nil]
       refine ⟨fun h=>absurd h (by omega),fun _=>?_⟩
       refine h1v.use ?_
       refine eM ?_
       refine (NW A r b2 p4 .none 1 (.inl rfl) _ (by rw [Za (Ne.symm hb6.1),Zj]) gr).only ?_
       cases ha:(p4.any fun n=>!decide (n∈A)) with
       | true =>
         rw [ha] at hd
         refine eB ?_
         have hq:q=false:=by rw [hd];simp_all
         rw [hsp,hq]
         exact eD
       | false =>
         rw [ha] at hd
         refine fd ?_
         rw [show IntKind.i64.wrap ((i:Int)+1)=((i+1:Nat):Int) from Zp (by omega) (by omega)]
         refine .mk (i+1) ⟨by omega,?_⟩ (by omega) ⟨.refl _,trivial⟩ (by repeat first | exact Zg.turn _ rfl | refine Zg.put rfl ?_) ((Sub.refl _).skip _)
         rw [hnx,hd];simp [e0]
  ·refine eB ?_
   have hq:q=false:=by rw [hd];simp_all
   rw [hsp,hq]
   exact eD
 ·have hil:l.take i=l:=List.take_of_length_le (by omega)
  rw [hil] at hb
  rw [hb]
  exact ZF (.refl _) ((Sub.refl σ).skip _)
end Go.Vx
end
section
set_option maxRecDepth 100000
namespace Go.Vx
open Go.Proofs
theorem XP:(ZE Tryz.prog 150 0=some 0)∧(Zh Tryz.prog 9=some 1)∧(Ze Tryz.prog 9=some false)∧(ZE Tryz.prog 150 1=some 1)∧(Zh Tryz.prog 126=some 1)∧(Ze Tryz.prog 126=some false)∧(Tryz.prog.underlying 4=some .bool)∧(ZE Tryz.prog 224 0=some 0)∧(Zh Tryz.prog 64=some 1)∧(Ze Tryz.prog 64=some false)∧(Zh Tryz.prog 40=some 1)∧(ZB Tryz.prog 126=some 150)∧(Zh Tryz.prog 150=some 2)∧(Ze Tryz.prog 150=some true)∧(Zl Tryz.prog 150=some (.agg #[(.string ⟨#[]⟩),(.slice none 0 0)]))∧(Zh Tryz.prog 270=some 1)∧(Ze Tryz.prog 270=some false)∧(Tryz.prog.underlying 126=some (.slice 150)):=by
 refine ⟨?_,?_,?_,?_,?_,?_,?_,?_,?_,?_,?_,?_,?_,?_,?_,?_,?_,?_⟩<;>first | trivial | kernel_rfl
theorem Jl:(Zl Tryz.prog 270=some .nilFunc)∧(Zh Tryz.prog 270=some 1)∧(Ze Tryz.prog 270=some false)∧(Zh Tryz.prog 150=some 2)∧(Ze Tryz.prog 150=some true):=by
 refine ⟨?_,?_,?_,?_,?_⟩<;>first | trivial | kernel_rfl
theorem PZ:(Zh Tryz.prog 150=some 2)∧(Ze Tryz.prog 150=some true)∧(Zl Tryz.prog 40=some (.int .i64 0))∧(Zh Tryz.prog 40=some 1)∧(Ze Tryz.prog 40=some false):=by
 refine ⟨?_,?_,?_,?_,?_⟩<;>first | trivial | kernel_rfl
abbrev W7:Str:={ data:=#[45,62] }
mutual
def wfT:Ty→Bool
 | .mk s l=>(decide (s=W7) == decide (l.length=2))&&(decide (s=W7) || decide (l.length=0))&&Up l
def Up:List Ty→Bool
 | []=>true
 | t::r=>wfT t&&Up r
end
mutual
def okT (types:List Str):Ty→Bool
 | .mk s l=>(decide (s=W7) || decide (s∈types))&&Vu types l
def Vu (types:List Str):List Ty→Bool
 | []=>true
 | t::r=>okT types t&&Vu types r
end
theorem VC (l m:List Ty):Up (l++m)=(Up l&&Up m):=by
 induction l with
 | nil=>rfl
 | cons a r ih=>simp only [List.cons_append,Up,ih,Bool.and_assoc]
theorem Qj (ts:List Str)(l m:List Ty):Vu ts (l++m)=(Vu ts l&&Vu ts m):=by
 induction l with
 | nil=>rfl
 | cons a r ih=>simp only [List.cons_append,Vu,ih,Bool.and_assoc]
def ctV (bp be bw:Nat):Value:=.func (.func 211) #[] #[.pointer (some ⟨bp,0,none⟩),.pointer (some ⟨be,0,none⟩),.pointer (some ⟨bw,0,none⟩)]
theorem Ep (bp be bw:Nat)(types:List Str)(rt:Rt)(sz:Nat)(hs:sz=1∨types=[])(rest:List AV):∀ (t:Ty) (e:Int) (σ:Store),σ.get bp=some (.cells (.list rt sz (Tp types)::rest))→σ.get be=some (.cells [vi e])→σ.get bw=some (.cells [.val (ctV bp be bw)]) →
 Zi Tryz.prog 211 [.agg t.emb,.val (.pointer (some ⟨bp,0,none⟩)),.val (.pointer (some ⟨be,0,none⟩)),.val (.pointer (some ⟨bw,0,none⟩))] σ
  (fun r σ'=>∃ e',σ'=σ.set be (.cells [vi e'])∧((wfT t=true∧r=.ret (.tup [])∧e'=if okT types t=true then e else 40)∨(wfT t=false∧r=.pan (YI 6)))):=by
 intro t
 induction t using dF with | h s l ih=>?_
 intro e σ gp ge gw
 refine Zi.ok (by kernel_rfl) (fun hok=>?_)
 have hlen:=(((hok _ List.mem_cons_self).agg (c:=.list .none 2 (cC l)) (by simp [cB])).len)
 rw [bY] at hlen
 clear hok
 simp only [cB]
 have n1:bp≠be:=by intro h;rw [h,ge] at gp;simp at gp
 have n2:bw≠be:=by intro h;rw [h,ge] at gw;simp [ctV] at gw
 refine Zb [] [] Tryz.func211 rfl (by kernel_rfl) ?_;rw [Tryz.ntmps211,Tryz.results211]
 try simp only [go_sem,seval,XP,bY]
 have head_f:∀ (h:((decide (s=W7) == decide (l.length=2))&&(decide (s=W7) || decide (l.length=0)))=false),wfT (.mk s l)=false:=fun h=>by simp only [wfT,h,Bool.false_and]
 refine ⟨fun q1=>⟨fun q2=>?_,fun q2=>?_⟩,fun q1=>?_⟩
 ·refine VH (fun hm=>?_) (fun hm=>?_)
  ·have hm:l.length=0:=by simpa using hm
   have hhead:((decide (s=W7) == decide (l.length=2))&&(decide (s=W7) || decide (l.length=0)))=true:=by simp [W7,q2,hm]
   try simp only [go_sem,seval,XP,bY,q2,gp,n1]
   refine (Yc types s rt sz hs).use ?_
   try simp only [go_sem,seval,XP,bY,q2,ge]
   refine ⟨fun q3=>?_,fun q3=>?_⟩
   ·obtain ⟨e0,he0⟩:∃ e0:Int,e0=40:=⟨_,rfl⟩
    have hfin:∀ x2,x2=(if Vu types l=true then e0 else 40)→x2=if okT types (.mk s l)=true then e else 40:=by
     intro x2 h;rw [h,he0];simp [okT,W7,q2,q3]
    refine Zw (mu:=[]) (dr:=[]) [6,41,42,43,44,45,46,47,48] (fun x:Nat×Int=>[(41,vi x.1)]) (fun x=>σ.set be (.cells [vi x.2]))
     (fun x=>x.1≤l.length∧Up (l.take x.1)=true∧x.2=(if Vu types (l.take x.1)=true then e0 else 40)) (fun x=>l.length-x.1) (0,e0) (by kernel_rfl) ⟨by simp,by simp [Up],by simp [Vu]⟩ ⟨.refl _,trivial⟩ (by first | (rw [he0];exact .refl _) | (rw [he0,YE ge];exact .refl _)) ?_
    rintro ⟨i,x2⟩ ⟨hi,hwf,hx2⟩
    dsimp only at hi hwf hx2
    try simp only [go_sem,seval,XP,bY]
    refine ⟨fun hi2=>⟨by omega,hi2,fun c hc=>?_⟩,fun hi2=>?_⟩
    ·rw [Int.toNat_natCast] at hc
     obtain ⟨a,ha,rfl⟩:=cT hc
     have iha:=ih a (List.mem_of_getElem? ha) x2 (σ.set be (.cells [vi x2])) (by rw [Zc n1];exact gp) (Zd ge) (by rw [Zc n2];exact gw)
     obtain ⟨sa,la⟩:=a
     try simp only [go_sem,seval,XP,cB]
     intro b9 hb9
     try simp only [go_sem,seval,XP,cB,hb9,n2,gw,ctV]
     refine (iha.sub (.cons _ _)).mono ?_
     have hsp:=Yz ha
     rintro r _ ⟨e',rfl,hr⟩
     rw [Zu]
     rcases hr with ⟨hw,rfl,he'⟩ | ⟨hw,rfl⟩
     ·refine io ?_
      rw [show IntKind.i64.wrap ((i:Int)+1)=((i+1:Nat):Int) from Zp (by omega) (by omega)]
      refine .mk (i+1,e') ⟨by dsimp only;omega,?_,?_⟩ (by dsimp only;omega) ⟨.refl _,trivial⟩ (by repeat first | exact Zg.turn _ rfl | refine Zg.put rfl ?_) (.refl _)
      ·rw [List.take_add_one,ha,Option.toList_some,VC,hwf];simp [Up,hw]
      ·rw [List.take_add_one,ha,Option.toList_some,Qj,he',hx2]
       cases Vu types (l.take i)<;>cases h2:okT types (.mk sa la)<;>simp [Vu,h2]
     ·refine io ?_
      refine .mk (.refl _) ⟨e',rfl,.inr ⟨?_,rfl⟩⟩
      rw [wfT,hhead,hsp,VC]
      simp [Up,hw]
    ·have hil:l.take i=l:=List.take_of_length_le (by omega)
     rw [hil] at hwf hx2
     exact .mk (.refl _) (.refl _) ⟨x2,rfl,.inl ⟨by rw [wfT,hhead,hwf];rfl,rfl,hfin _ hx2⟩⟩
   ·obtain ⟨e0,he0⟩:∃ e0:Int,e0=e:=⟨_,rfl⟩
    have hfin:∀ x2,x2=(if Vu types l=true then e0 else 40)→x2=if okT types (.mk s l)=true then e else 40:=by
     intro x2 h;rw [h,he0];simp [okT,q3]
    refine Zw (mu:=[]) (dr:=[]) [6,41,42,43,44,45,46,47,48] (fun x:Nat×Int=>[(41,vi x.1)]) (fun x=>σ.set be (.cells [vi x.2]))
     (fun x=>x.1≤l.length∧Up (l.take x.1)=true∧x.2=(if Vu types (l.take x.1)=true then e0 else 40)) (fun x=>l.length-x.1) (0,e0) (by kernel_rfl) ⟨by simp,by simp [Up],by simp [Vu]⟩ ⟨.refl _,trivial⟩ (by first | (rw [he0];exact .refl _) | (rw [he0,YE ge];exact .refl _)) ?_
    rintro ⟨i,x2⟩ ⟨hi,hwf,hx2⟩
    dsimp only at hi hwf hx2
    try simp only [go_sem,seval,XP,bY]
    refine ⟨fun hi2=>⟨by omega,hi2,fun c hc=>?_⟩,fun hi2=>?_⟩
    ·rw [Int.toNat_natCast] at hc
     obtain ⟨a,ha,rfl⟩:=cT hc
     have iha:=ih a (List.mem_of_getElem? ha) x2 (σ.set be (.cells [vi x2])) (by rw [Zc n1];exact gp) (Zd ge) (by rw [Zc n2];exact gw)
     obtain ⟨sa,la⟩:=a
     try simp only [go_sem,seval,XP,cB]
     intro b9 hb9
     try simp only [go_sem,seval,XP,cB,hb9,n2,gw,ctV]
     refine (iha.sub (.cons _ _)).mono ?_
     have hsp:=Yz ha
     rintro r _ ⟨e',rfl,hr⟩
     rw [Zu]
     rcases hr with ⟨hw,rfl,he'⟩ | ⟨hw,rfl⟩
     ·refine io ?_
      rw [show IntKind.i64.wrap ((i:Int)+1)=((i+1:Nat):Int) from Zp (by omega) (by omega)]
      refine .mk (i+1,e') ⟨by dsimp only;omega,?_,?_⟩ (by dsimp only;omega) ⟨.refl _,trivial⟩ (by repeat first | exact Zg.turn _ rfl | refine Zg.put rfl ?_) (.refl _)
      ·rw [List.take_add_one,ha,Option.toList_some,VC,hwf];simp [Up,hw]
      ·rw [List.take_add_one,ha,Option.toList_some,Qj,he',hx2]
       cases Vu types (l.take i)<;>cases h2:okT types (.mk sa la)<;>simp [Vu,h2]
     ·refine io ?_
      refine .mk (.refl _) ⟨e',rfl,.inr ⟨?_,rfl⟩⟩
      rw [wfT,hhead,hsp,VC]
      simp [Up,hw]
    ·have hil:l.take i=l:=List.take_of_length_le (by omega)
     rw [hil] at hwf hx2
     exact .mk (.refl _) (.refl _) ⟨x2,rfl,.inl ⟨by rw [wfT,hhead,hwf];rfl,rfl,hfin _ hx2⟩⟩
  ·have hm:¬ l.length=0:=by simpa using hm
   refine io ?_
   exact .mk (.refl _) ⟨e,(YE ge).symm,.inr ⟨head_f (by simp [W7,q2,hm]),rfl⟩⟩
 ·refine VH (fun _=>?_) (fun hm=>by simp at hm)
  have hhead:((decide (s=W7) == decide (l.length=2))&&(decide (s=W7) || decide (l.length=0)))=true:=by
   have:l.length=2:=by simp only [q2,decide_true] at q1;have:=q1.symm;simp only [decide_eq_true_eq] at this;omega
   simp [W7,q2,this]
  try simp only [go_sem,seval,XP,bY]
  refine ⟨fun h=>absurd q2 h,fun _=>?_⟩
  obtain ⟨e0,he0⟩:∃ e0:Int,e0=e:=⟨_,rfl⟩
  have hfin:∀ x2,x2=(if Vu types l=true then e0 else 40)→x2=if okT types (.mk s l)=true then e else 40:=by
   intro x2 h;rw [h,he0];simp [okT,W7,q2]
  refine Zw (mu:=[]) (dr:=[]) [6,41,42,43,44,45,46,47,48] (fun x:Nat×Int=>[(41,vi x.1)]) (fun x=>σ.set be (.cells [vi x.2]))
   (fun x=>x.1≤l.length∧Up (l.take x.1)=true∧x.2=(if Vu types (l.take x.1)=true then e0 else 40)) (fun x=>l.length-x.1) (0,e0) (by kernel_rfl) ⟨by simp,by simp [Up],by simp [Vu]⟩ ⟨.refl _,trivial⟩ (by first | (rw [he0];exact .refl _) | (rw [he0,YE ge];exact .refl _)) ?_
  rintro ⟨i,x2⟩ ⟨hi,hwf,hx2⟩
  dsimp only at hi hwf hx2
  try simp only [go_sem,seval,XP,bY]
  refine ⟨fun hi2=>⟨by omega,hi2,fun c hc=>?_⟩,fun hi2=>?_⟩
  ·rw [Int.toNat_natCast] at hc
   obtain ⟨a,ha,rfl⟩:=cT hc
   have iha:=ih a (List.mem_of_getElem? ha) x2 (σ.set be (.cells [vi x2])) (by rw [Zc n1];exact gp) (Zd ge) (by rw [Zc n2];exact gw)
   obtain ⟨sa,la⟩:=a
   try simp only [go_sem,seval,XP,cB]
   intro b9 hb9
   try simp only [go_sem,seval,XP,cB,hb9,n2,gw,ctV]
   refine (iha.sub (.cons _ _)).mono ?_
   have hsp:=Yz ha
   rintro r _ ⟨e',rfl,hr⟩
   rw [Zu]
   rcases hr with ⟨hw,rfl,he'⟩ | ⟨hw,rfl⟩
   ·refine io ?_
    rw [show IntKind.i64.wrap ((i:Int)+1)=((i+1:Nat):Int) from Zp (by omega) (by omega)]
    refine .mk (i+1,e') ⟨by dsimp only;omega,?_,?_⟩ (by dsimp only;omega) ⟨.refl _,trivial⟩ (by repeat first | exact Zg.turn _ rfl | refine Zg.put rfl ?_) (.refl _)
    ·rw [List.take_add_one,ha,Option.toList_some,VC,hwf];simp [Up,hw]
    ·rw [List.take_add_one,ha,Option.toList_some,Qj,he',hx2]
     cases Vu types (l.take i)<;>cases h2:okT types (.mk sa la)<;>simp [Vu,h2]
   ·refine io ?_
    refine .mk (.refl _) ⟨e',rfl,.inr ⟨?_,rfl⟩⟩
    rw [wfT,hhead,hsp,VC]
    simp [Up,hw]
  ·have hil:l.take i=l:=List.take_of_length_le (by omega)
   rw [hil] at hwf hx2
   exact .mk (.refl _) (.refl _) ⟨x2,rfl,.inl ⟨by rw [wfT,hhead,hwf];rfl,rfl,hfin _ hx2⟩⟩
 ·refine VH (fun hm=>by simp at hm) (fun _=>?_)
  refine io ?_
  refine .mk (.refl _) ⟨e,(YE ge).symm,.inr ⟨head_f ?_,rfl⟩⟩
  by_cases q2:s=W7
  ·have:¬ l.length=2:=by intro h;exact q1 (by simp [q2,h])
   simp [q2,this]
  ·have:l.length=2:=by
    by_cases h:l.length=2
    ·exact h
    ·exact absurd (by have h':¬ ((l.length:Int)=2):=by omega
                      rw [decide_eq_false h',decide_eq_false (show ¬ s={ data:=#[45,62] } from q2)]) q1
   simp [q2,this]
def Ta (types:List Str)(t:Ty):Int:=if X6 t.shape≠0 then X6 t.shape else if wfT t=true then (if okT types t=true then 0 else 40) else 6
theorem bj (bp be bt:Nat)(types:List Str)(rt:Rt)(sz:Nat)(hs:sz=1∨types=[])(rest:List AV)(t:Ty)(e:Int)(σ:Store)(gp:σ.get bp=some (.cells (.list rt sz (Tp types)::rest)))(ge:σ.get be=some (.cells [vi e]))(gt:σ.get bt=some (.cells t.emb)) :
 Zi Tryz.prog 210 [.val (.pointer (some ⟨bp,0,none⟩)),.val (.pointer (some ⟨be,0,none⟩)),.val (.pointer (some ⟨bt,0,none⟩))] σ
  (fun r σ'=>∃ e',σ'=σ.set be (.cells [vi e'])∧((wfT t=true∧r=.ret (.tup [])∧e'=if okT types t=true then e else 40)∨(wfT t=false∧r=.pan (YI 6)))):=by
 obtain ⟨s,l⟩:=t
 simp only [cB] at gt
 refine Zb [] [] Tryz.func210 rfl (by kernel_rfl) ?_;rw [Tryz.ntmps210,Tryz.results210]
 try simp only [go_sem,seval,Jl]
 intro bw hbw
 try simp only [go_sem,seval,Jl,hbw,gp,ge,gt]
 refine (Ep bp be bw types rt sz hs rest (.mk s l) e _ (by rw [Zy hbw (by rw [gp];rfl)];exact gp) (by rw [Zy hbw (by rw [ge];rfl)];exact ge) (by rw [Zj];rfl)).mono ?_
 rintro r _ ⟨e',rfl,hr⟩
 rw [Sp hbw (by rw [ge];rfl)]
 rcases hr with ⟨hw,rfl,he⟩ | ⟨hw,rfl⟩
 ·try simp only [go_sem,seval,Jl]
  exact .mk (.refl _) (.cons _ _) ⟨e',rfl,.inl ⟨hw,rfl,he⟩⟩
 ·try simp only [go_sem,seval,Jl]
  exact .mk (.cons _ _) ⟨e',rfl,.inr ⟨hw,rfl⟩⟩
theorem MX (types:List Str)(rt:Rt)(sz:Nat)(hs:sz=1∨types=[])(c1 c2 c3 c4:AV)(h1:c1.one=true)(h2:c2.one=true)(h3:c3.one=true)(h4:c4.one=true)(t:Ty) :
 Pur Tryz.prog 164 [.agg [.list rt sz (Tp types),c1,c2,c3,c4],.agg t.emb] (vi (Ta types t)):=by
 intro σ
 have hsz:=LK t
 obtain ⟨s,l⟩:=t
 simp only [cB] at hsz ⊢
 refine Zb [2,3] [] Tryz.func164 rfl (by kernel_rfl) ?_;rw [Tryz.ntmps164,Tryz.results164]
 try simp only [go_sem,seval,PZ]
 intro b2 hb2 b3 hb3
 try simp only [go_sem,seval,PZ,hb2,hb3]
 refine hsz.use ?_
 try simp only [go_sem,seval,PZ,hb2,hb3]
 refine ⟨fun q=>?_,fun q=>?_⟩
 ·have:Ta types (.mk s l)=X6 (Ty.mk s l).shape:=by unfold Ta;rw [if_pos q]
  rw [this]
  exact eD
 ·intro b6 hb6
  have g2:Store.get ((b3,AObj.cells [vs s,.list .none 2 (cC l)])::(b2,.cells [.list rt sz (Tp types),c1,c2,c3,c4])::σ) b2=some (.cells [.list rt sz (Tp types),c1,c2,c3,c4]):=by rw [Zy hb3 (by rw [Zj];rfl),Zj]
  have g3:Store.get ((b3,AObj.cells [vs s,.list .none 2 (cC l)])::(b2,.cells [.list rt sz (Tp types),c1,c2,c3,c4])::σ) b3=some (.cells [vs s,.list .none 2 (cC l)]):=Zj _ _ _
  try simp only [go_sem,seval,PZ,hb2,hb3,hb6]
  refine UY _ _ _ (fun b hb=>?_)
  rw [Y8]
  refine (bj b2 b6 b3 types rt sz hs [c1,c2,c3,c4] (.mk s l) 0 _ ?_ ?_ ?_).mono ?_
  ·rw [Zy hb (by rw [Zy hb6 (by rw [g2];rfl),g2];rfl),Zy hb6 (by rw [g2];rfl),g2]
  ·rw [Zy hb (by rw [Zj];rfl),Zj]
  ·rw [Zy hb (by rw [Zy hb6 (by rw [g3];rfl),g3];rfl),Zy hb6 (by rw [g3];rfl),g3];rfl
  rintro r _ ⟨e',rfl,hr⟩
  rw [Sp hb (by rw [Zj];rfl),Yj]
  refine ⟨_,rfl,?_⟩
  rcases hr with ⟨hw,rfl,he⟩ | ⟨hw,rfl⟩
  ·try simp only [go_sem,seval,PZ]
   have:Ta types (.mk s l)=e':=by unfold Ta;rw [if_neg (not_not_intro q),if_pos hw,he]
   rw [this]
   exact ij
  ·refine ⟨6,rfl,?_⟩
   try simp only [go_sem,seval,PZ]
   have:Ta types (.mk s l)=6:=by unfold Ta;rw [if_neg (not_not_intro q),if_neg (by rw [hw];simp)]
   rw [this]
   exact ij
end Go.Vx
end
