/- A part of the proof of clausalSpinesProved. -/
import Derived.Test.YtllgjklcpieanaaGreatDoorR20
set_option linter.unusedVariables false
set_option linter.unusedSimpArgs false
set_option maxRecDepth 100000
namespace Go.Vx
open Go.Proofs
theorem QB{A:List Int}{e:nG×AV×Nat}:e∈ZS keI (Yj A)↔∃ (i:Nat) (x:Int),A[i]?=some x/\e=(keI x,vb true,i):=by
 unfold ZS Yj
 exact qW
theorem MN(acc:List Int)(n:Int):T3 (Yj acc) n (vb true) acc.length=Yj (Vn acc n)/\T5 (Yj acc) n acc.length=(Vn acc n).length:=by
 by_cases h:n∈acc
 ·unfold T3 T5 Vn
  rw[U7,gZ h,gZ h,gZ h]
  refine⟨?_,rfl⟩
  have:∀ e∈Yj acc,(if e.1=n then(n,vb true,e.2.2) else e)=e:=by
   intro e he
   unfold Yj at he
   obtain⟨p,_,rfl⟩:=List.mem_map.1 he
   split
   ·rename_i h;simp only at h;rw[h]
   ·rfl
  calc _=(Yj acc).map id:=mj this
   _=_:=by simp
 ·have:Vn acc n=acc++[n]:=by unfold Vn;rw[ig h]
  rw[this];exact Sl acc n h
theorem Sj{acc:List Int}{n y:Int}:y∈Vn acc n↔y=n\/y∈acc:=by
 unfold Vn;split
 ·rename_i h;exact⟨.inr,fun k=>k.elim (fun e=>e ▸ h) id⟩
 ·simp[or_comm]
theorem Im{L:Nat}{seen:List Nat}{i:Nat}(hi:i<L)(hs:i ∉ seen):((List.range L).filter (fun j=>decide (j ∉ seen++[i]))).length<((List.range L).filter (fun j=>decide (j ∉ seen))).length:=by
 have h1:(List.range L).filter (fun j=>decide (j ∉ seen++[i]))=((List.range L).filter (fun j=>decide (j ∉ seen))).filter (fun j=>decide (j≠i)):=by
  rw[List.filter_filter]
  apply List.filter_congr
  intro j _
  simp[not_or,and_comm]
 rw[h1]
 refine List.length_filter_lt_length_iff_exists.2 ⟨i,?_,by simp⟩
 simp[hi,hs]
theorem GS(σ:Store)(r:Nat)(A:List Int)(n:Int)(g:σ.get r=some (.map (ZS keI (Yj A)) A.length)) :
 Zh nC 172 [.val (.map (some r)),vi n] σ (fun x S'=>∃ r' A',x=.ret (.val (.map (some r')))/\Zm σ r'/\S'=(r',.map (ZS keI (Yj A')) A'.length)::σ/\∀ y,y∈A'↔y=n\/y∈A):=by
 have e0:T3 (Yj []) n (vb true) 0=Yj [n]/\T5 (Yj []) n 0=1:=Sl [] n xf
 have z0:([]:List (nG×AV×Nat))=ZS keI (Yj []):=rfl
 refine Zb [] [] Tryz.func172 rfl xy ?_;rw[Tryz.ntmps172,Tryz.results172]
 refine uy ?_
 intro r1 h1
 refine uy ?_
 rw[z0]
 refine Yv fa0 fa1 (Ze _ _ _) ?_
 rw[e0.1,e0.2,Yo]
 refine uy ?_
 have hr1:r1≠r:=fun e=>by have:=Zj h1;rw[e,g] at this;cases this
 refine .inl ⟨r,A.length,_,_,_,fa0,rfl,(by rw[Zc hr1];exact g),fun b2 hb2=>?_⟩
 refine uy ?_
 refine Zp (mu:=[]) (dr:=[]) [6,12,13,14,15,16,17] (fun _:List Nat×List Int=>[]) (fun x=>(b2,.iter (some r) A.length x.1 A.length)::(r1,.map (ZS keI (Yj x.2)) x.2.length)::σ)
  (fun x=>(∀ y∈x.2,y=n\/y∈A)/\n∈x.2/\(∀ i,i∈x.1->∀ y,A[i]?=some y->y∈x.2)) (fun x=>((List.range A.length).filter (fun j=>decide (j ∉ x.1))).length) ([],[n]) xy ⟨by simp,by simp,by simp⟩ trivial (.refl _) ?_
 rintro⟨seen,B⟩ ⟨i1,i2,i3⟩
 simp only at i1 i2 i3
 have gr:Store.get ((b2,.iter (some r) A.length seen A.length)::(r1,.map (ZS keI (Yj B)) B.length)::σ) r=some (.map (ZS keI (Yj A)) A.length):=by
  rw[Zc (fun e=>by have:=Zj hb2.2;rw[e,g] at this;cases this),Zc hr1,g]
 refine uy ?_
 refine .inl ⟨b2,r,A.length,ZS keI (Yj A),seen,rfl,Ze _ _ _,gr,fun hall=>?_,fun e he hne=>?_⟩
 ·refine uy ?_
  refine .mk (.refl _) ((Sub.refl _).skip _) ⟨r1,B,rfl,h1,rfl,fun y=>⟨i1 y,fun h=>?_⟩⟩
  rcases h with rfl|h
  ·exact i2
  ·obtain⟨i,hi,rfl⟩:=iN h
   exact i3 i (hall _ (QB.2 ⟨i,A[i],iO hi,rfl⟩)) _ (iO hi)
 ·obtain⟨i,y,hy,rfl⟩:=QB.1 he
  simp only[Yo]
  refine uy ?_
  have gr2:Store.get ((b2,.iter (some r) A.length (seen++[i]) A.length)::(r1,.map (ZS keI (Yj B)) B.length)::σ) r=some (.map (ZS keI (Yj A)) A.length):=by
   rw[Zc (fun e=>by have:=Zj hb2.2;rw[e,g] at this;cases this),Zc hr1,g]
  refine⟨b2,r,A.length,ZS keI (Yj A),seen,(keI y,vb true,i),rfl,Ze _ _ _,gr2,QB.2 ⟨i,y,hy,rfl⟩,?_⟩
  try simp only[go_sem,Int.reduceEq,Int.reduceLT,Int.reduceLE,↓reduceIte,Nat.reduceEqDiff,Nat.reduceAdd,Nat.reduceSub,Nat.reduceLT,Nat.reduceLeDiff,Nat.reduceMul,reduceCtorEq,keI]
  have h12:b2≠r1:=iC hb2.1
  refine Yv (l:=Yj B) (c:=B.length) fa0 fa1 (by rw[Zc h12,Ze]) ?_
  obtain⟨u1,u2⟩:=MN B y
  rw[u1,u2,Zo h12,Yo]
  refine uy ?_
  refine .mk (seen++[i],Vn B y) ⟨fun z hz=>?_,Sj.2 (.inr i2),fun j hj z hz=>?_⟩ (Im (List.getElem?_eq_some_iff.1 hy).1 hne) trivial yS (.refl _)
  ·rcases Sj.1 hz with rfl|h
   ·exact .inr (iG hy)
   ·exact i1 z h
  ·rcases List.mem_append.1 hj with h|h
   ·exact Sj.2 (.inr (i3 j h z hz))
   ·rw[List.mem_singleton.1 h,hy] at hz;injection hz with hz;exact Sj.2 (.inl hz.symm)
theorem PA.one{b:Nat->Bool}{n:Nat}{c:Bool}{σ σ':Store}{r:ZE}(h:PA b n (fun _=>σ) r σ')(hc:c=true↔∃ i,i<n/\b i=true):r=.ret (vb c)/\σ'=σ:=by
 rcases h with⟨i,hi,hb,_,rfl,rfl⟩|⟨hn,rfl,rfl⟩
 ·rw[hc.2 ⟨i,hi,hb⟩];exact⟨rfl,rfl⟩
 ·exact rx
theorem Zh.only{P:nE}{k:nL}{args:List AV}{v:AV}{σ:Store}{K:ZE->Store->Prop}(h:Zh P k args σ (ZP v σ))(hk:K (.ret v) σ):Zh P k args σ K :=
 h.mono fun r σ' ⟨e,e'⟩=>by rw[e,e'];exact hk
theorem GW(A:List Int)(r bc:Nat)(n:Int)(σ:Store)(gc:σ.get bc=some (.cells [.val (.map (some r))]))(g:σ.get r=some (.map (ZS keI (Yj A)) A.length)) :
 Zh nC 178 [vi n,.val (.pointer (some ⟨bc,0,none⟩))] σ (ZP (vb (!decide (n∈A))) σ):=by
 refine Zb [] [] Tryz.func178 rfl xy ?_;rw[Tryz.ntmps178,Tryz.results178]
 exact oR
theorem Mg(A:List Int)(r bc:Nat)(l:List Int)(rt:Rt)(s:Nat)(hs:s=1\/l=[])(σ:Store)(gc:σ.get bc=some (.cells [.val (.map (some r))]))(g:σ.get r=some (.map (ZS keI (Yj A)) A.length)) :
 Zh nC 173 [.list rt s (Zu l),.val (.func (.func 178) #[] #[.pointer (some ⟨bc,0,none⟩)])] σ (ZP (vb (l.any fun n=>!decide (n∈A))) σ):=by
 have h:=Wn (.func (.func 178) #[] #[.pointer (some ⟨bc,0,none⟩)]) rt s (l.map vi) (fun _=>σ) (fun i=>match l[i]? with|some n=>!decide (n∈A)|none=>false) (hs.imp id (fun h=>by rw[h];rfl))
  (fun i e he _=>by
   obtain⟨n,hn,rfl⟩:=Yi he
   rw[Z4]
   simp only[hn]
   exact GW A r bc n σ gc g)
 exact pc
theorem C7(A:List Int)(r bc:Nat)(n:Int)(σ:Store)(gc:σ.get bc=some (.cells [.val (.map (some r))]))(g:σ.get r=some (.map (ZS keI (Yj A)) A.length)) :
 Zh nC 174 [vi n,.val (.pointer (some ⟨bc,0,none⟩))] σ (ZP (vb (!decide (n∈A))) σ):=by
 refine Zb [] [] Tryz.func174 rfl xy ?_;rw[Tryz.ntmps174,Tryz.results174]
 exact oR
theorem QW(A:List Int)(r bc:Nat)(l:List Int)(rt:Rt)(s:Nat)(hs:s=1\/l=[])(σ:Store)(gc:σ.get bc=some (.cells [.val (.map (some r))]))(g:σ.get r=some (.map (ZS keI (Yj A)) A.length)) :
 Zh nC 173 [.list rt s (Zu l),.val (.func (.func 174) #[] #[.pointer (some ⟨bc,0,none⟩)])] σ (ZP (vb (l.any fun n=>!decide (n∈A))) σ):=by
 have h:=Wn (.func (.func 174) #[] #[.pointer (some ⟨bc,0,none⟩)]) rt s (l.map vi) (fun _=>σ) (fun i=>match l[i]? with|some n=>!decide (n∈A)|none=>false) (hs.imp id (fun h=>by rw[h];rfl))
  (fun i e he _=>by
   obtain⟨n,hn,rfl⟩:=Yi he
   rw[Z4]
   simp only[hn]
   exact C7 A r bc n σ gc g)
 exact pc
def XW(A:List Int)(t:Tm):Bool:=decide (Vy t=0)&&SA t&&(TD t 3).isEmpty&&!((TD t 4).any fun n=>!decide (n∈A))
theorem VY(A:List Int)(r:Nat)(l:List Tm)(rt:Rt)(s:Nat)(hs:s=4\/l=[])(σ:Store)(g:σ.get r=some (.map (ZS keI (Yj A)) A.length)) :
 Zh nC 110 [.val (.map (some r)),.list rt s (cJ l)] σ (ZP (vb (l.all (XW A))) σ):=by
 refine Zh.ok xy (fun hok=>?_)
 have hl:=(hok _ (kR _ ir)).len
 rw[cF] at hl
 clear hok
 refine Zb [2] [] Tryz.func110 rfl xy ?_;rw[Tryz.ntmps110,Tryz.results110]
 refine uy ?_
 intro b2 hb2
 refine uy ?_
 refine Zp (mu:=[]) (dr:=[]) [4,6,9,10,11,12,13,14,15,16,17,18,19,20,21,22,23,24,25,26,27,28,29,30,31] (fun i:Nat=>[(9,vi i)]) (fun _=>(b2,.cells [.val (.map (some r))])::σ) (fun i=>i<=l.length/\(l.take i).all (XW A)=true) (fun i=>l.length-i) 0 xy ⟨by omega,by simp⟩ ⟨.refl _,trivial⟩ (.refl _) ?_
 rintro i ⟨hi,hb⟩
 try simp only[go_sem,Int.reduceEq,Int.reduceLT,Int.reduceLE,↓reduceIte,Nat.reduceEqDiff,Nat.reduceAdd,Nat.reduceSub,Nat.reduceLT,Nat.reduceLeDiff,Nat.reduceMul,reduceCtorEq,cF]
 refine⟨fun h1=>⟨?_,by omega,h1,fun e he=>?_⟩,fun h1=>?_⟩
 ·exact pj
 ·rw[iF] at he
  obtain⟨t,ht,rfl⟩:=dQ he
  have h1r:=My t
  have h1c:=E5 t
  have h1p:=Au t
  have h1v:=Ad t
  have hd:XW A t=(decide (Vy t=0)&&SA t&&(TD t 3).isEmpty&&!((TD t 4).any fun n=>!decide (n∈A))):=rfl
  have hsp:l.all (XW A)=(XW A t&&(l.drop (i+1)).all (XW A)):=by
   have:=Z6 ht
   rw[this]
   rw[mQ,hb,kY,<- this];simp
  generalize Vy t=e at h1r hd
  generalize SA t=c at h1c hd
  generalize TD t 3=p3 at h1p hd
  generalize TD t 4=p4 at h1v hd
  have hnx:(l.take (i+1)).all (XW A)=XW A t:=by rw[jh,ht,jj,mQ,hb];simp
  generalize XW A t=q at hd hsp hnx
  obtain⟨ka,na,sa,la⟩:=t
  simp only[cO] at h1r h1c h1p h1v
  try simp only[go_sem,Int.reduceEq,Int.reduceLT,Int.reduceLE,↓reduceIte,Nat.reduceEqDiff,Nat.reduceAdd,Nat.reduceSub,Nat.reduceLT,Nat.reduceLeDiff,Nat.reduceMul,reduceCtorEq,cO]
  intro b6 hb6
  have gr:Store.get ((b6,.cells [.val (.int .i64 ka),.val (.int .i64 na),.val (.string sa),.list .none 4 (cJ la)])::(b2,.cells [.val (.map (some r))])::σ) r=some (.map (ZS keI (Yj A)) A.length):=by
   rw[Zc (fun e=>by have:=Zj hb6.2;rw[e,g] at this;cases this),Zc (fun e=>by have:=Zj hb2;rw[e,g] at this;cases this),g]
  refine uO ?_
  refine h1r.use ?_
  refine uO ?_
  refine⟨fun e0=>?_,fun e0=>?_⟩
  ·refine h1c.use ?_
   cases c with
   | false =>
     exact oL
   | true =>
     refine uO ?_
     refine h1p.use ?_
     cases p3 with
     | cons x p3 =>
       try simp only[go_sem,Int.reduceEq,Int.reduceLT,Int.reduceLE,↓reduceIte,Nat.reduceEqDiff,Nat.reduceAdd,Nat.reduceSub,Nat.reduceLT,Nat.reduceLeDiff,Nat.reduceMul,reduceCtorEq,ij,iR]
       refine⟨fun _=>?_,fun h=>absurd h xh⟩
       exact oL
     | nil =>
       try simp only[go_sem,Int.reduceEq,Int.reduceLT,Int.reduceLE,↓reduceIte,Nat.reduceEqDiff,Nat.reduceAdd,Nat.reduceSub,Nat.reduceLT,Nat.reduceLeDiff,Nat.reduceMul,reduceCtorEq,hb6,kI,im]
       refine⟨fun h=>absurd h xh,fun _=>?_⟩
       refine h1v.use ?_
       refine uO ?_
       refine(Mg A r b2 p4 .none 1 (.inl rfl) _ (by rw[Zc (iC hb6.1),Ze]) gr).only ?_
       cases ha:(p4.any fun n=>!decide (n∈A)) with
       | true =>
         rw[ha] at hd
         exact oL
       | false =>
         rw[ha] at hd
         refine uy ?_
         refine uR ?_
         refine .mk (i+1) ⟨by omega,?_⟩ xh ⟨.refl _,trivial⟩ yS ((Sub.refl _).skip _)
         rw[hnx,hd];simp[e0]
  ·exact oL
 ·have hil:l.take i=l:=iW xh
  rw[hil] at hb
  rw[hb]
  exact Zz (.refl _) ((Sub.refl σ).skip _)
end Go.Vx
